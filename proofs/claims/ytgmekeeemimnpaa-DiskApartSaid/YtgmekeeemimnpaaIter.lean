/- Ranging over a map whose entries are known as a list: the entries come in some order, each once. -/
import Derived.Test.YtgmekeeemimnpaaCore
import Derived.Maps.RangeWalk
namespace Go.Proofs.Ytgmekeeemimnpaa
open Go Go.Maps Go.MapKept Go.RowKit
open Go.ChangeMaps (setBlock)

theorem nodup_len {α : Type} [DecidableEq α] : ∀ {l L : List α}, l.Nodup → (∀ x ∈ l, x ∈ L) → l.length ≤ L.length
  | [], _, _, _ => Nat.zero_le _
  | a :: l, L, hn, hs => by
    obtain ⟨h1, h2⟩ := List.nodup_cons.1 hn
    have := nodup_len (l := l) (L := L.erase a) h2 (fun x hx => (List.mem_erase_of_ne (by rintro rfl; exact h1 hx)).2 (hs x (List.mem_cons_of_mem _ hx)))
    have ha := hs a (List.mem_cons_self ..)
    rw [List.length_erase_of_mem ha] at this
    have := List.length_pos_of_mem ha
    simp only [List.length_cons]
    omega
/-- Block r of w is an iterator over the map in block b, whose entries are L; those of 'done' have come. -/
def IterIs {κ α : Type} (ek : κ → Value) (ev : α → Value) (good : κ → Prop) (w : World) (r b : Nat) (L done : List (κ × α)) : Prop :=
  ∃ es clock since seen c0, w.heap[b]? = some (.map es clock) ∧ Stamped es clock ∧ es.toList.map (fun e => (e.key, e.val)) = L.map (fun p => (ek p.1, ev p.2)) ∧ (∀ p ∈ L, good p.1) ∧
    w.heap[r]? = some (.mapIter (some b) since seen c0) ∧ (∀ x ∈ es.toList, x.born < since) ∧ since ≤ c0 ∧ since ≤ clock ∧
    (∀ (i : Nat) (e : MapEntry) (p : κ × α), es.toList[i]? = some e → L[i]? = some p → (seen.contains e.born = true ↔ p ∈ done)) ∧ done.Nodup ∧ ∀ p ∈ done, p ∈ L

/-- The iterator that 'range' lays over the map in block b. -/
def iterOf (w : World) (b : Nat) : Obj := match w.heap[b]? with
  | some (.map _ clock) => .mapIter (some b) clock #[] clock
  | _ => .map #[] 0

section
variable {κ α : Type} {ek : κ → Value} {ev : α → Value} {good : κ → Prop} {w w' : World} {r b : Nat} {L done : List (κ × α)}
theorem IterIs.map (h : IterIs ek ev good w r b L done) : MapIs ek ev good w b L := by
  obtain ⟨es, clock, since, seen, c0, h1, h2, h3, h4, _⟩ := h
  exact ⟨es, clock, h1, h2, h3, h4⟩
theorem IterIs.rlt (h : IterIs ek ev good w r b L done) : r < w.heap.size := by
  obtain ⟨es, clock, since, seen, c0, _, _, _, _, hr, _⟩ := h
  exact (Array.getElem?_eq_some_iff.1 hr).1
theorem IterIs.ne (h : IterIs ek ev good w r b L done) : r ≠ b := by
  obtain ⟨es, clock, since, seen, c0, hb, _, _, _, hr, _⟩ := h
  rintro rfl
  rw [hb] at hr
  cases hr
theorem IterIs.ne_blk (h : IterIs ek ev good w r b L done) {g : Nat} {t : TypeId} {cs : Array Value} (hg : Blk w g t cs) : r ≠ g := by
  obtain ⟨es, clock, since, seen, c0, _, _, _, _, hr, _⟩ := h
  rintro rfl
  unfold Blk at hg
  rw [hg] at hr
  cases hr
theorem IterIs.same (h : IterIs ek ev good w r b L done) (h1 : w'.heap[b]? = w.heap[b]?) (h2 : w'.heap[r]? = w.heap[r]?) : IterIs ek ev good w' r b L done := by
  obtain ⟨es, clock, since, seen, c0, hb, a1, a2, a3, hr, rest⟩ := h
  exact ⟨es, clock, since, seen, c0, h1.trans hb, a1, a2, a3, h2.trans hr, rest⟩
theorem IterIs.chg {S : Nat → Prop} (h : IterIs ek ev good w r b L done) (hc : Chg S w w') (h1 : ¬ S b) (h2 : ¬ S r) : IterIs ek ev good w' r b L done :=
  h.same (hc.block b h.map.lt h1) (hc.block r h.rlt h2)
theorem rangeLeft_chg {S : Nat → Prop} (hc : Chg S w w') (hb : b < w.heap.size) (hr : r < w.heap.size) (h1 : ¬ S b) (h2 : ¬ S r) : w'.rangeLeft b r = w.rangeLeft b r := by
  unfold World.rangeLeft
  rw [hc.block b hb h1, hc.block r hr h2]
theorem IterIs.sub (h : IterIs ek ev good w r b L done) : done.Nodup ∧ ∀ p ∈ done, p ∈ L := by
  obtain ⟨es, clock, since, seen, c0, _, _, _, _, _, _, _, _, _, h1, h2⟩ := h
  exact ⟨h1, h2⟩
theorem nodup_of_keys {l : List (κ × α)} (h : keysNodup l) : l.Nodup := nodup_of_map _ h

/-- 'range m'. -/
theorem MapIs.range {P : Program} {k t e : TypeId} (h : MapIs ek ev good w b L) (ht : P.underlying t = some (.map k e)) :
    (Instr.range t (.map (some b))).run P w = .ok (.pointer (some ⟨w.heap.size, 0, none⟩)) (w.alloc (iterOf w b)) ∧ IterIs ek ev good (w.alloc (iterOf w b)) w.heap.size b L [] := by
  have hlt := h.lt
  obtain ⟨es, clock, hb, hst, hm, hg⟩ := h
  have e1 : iterOf w b = .mapIter (some b) clock #[] clock := by unfold iterOf; rw [hb]
  rw [e1]
  refine ⟨run_range_map w t k e b es clock ht hb, es, clock, clock, #[], clock, ((heap_alloc w _).2 b hlt).trans hb, hst, hm, hg, (heap_alloc w _).1, hst.1, Nat.le_refl _, Nat.le_refl _, by simp, by simp, by simp⟩

/-- The step: all have come; or one that hasn't. -/
theorem IterIs.next {P : Program} (h : IterIs ek ev good w r b L done) (ty : TypeId) (inj : ∀ a c, ek a = ek c → a = c) :
    (done.Perm L ∧ (Instr.next (.pointer (some ⟨r, 0, none⟩)) false ty).run P w = .ok (.tuple #[.bool false]) w) ∨
    ∃ p w', p ∈ L ∧ p ∉ done ∧ (Instr.next (.pointer (some ⟨r, 0, none⟩)) false ty).run P w = .ok (.tuple #[.bool true, ek p.1, ev p.2]) w' ∧ IterIs ek ev good w' r b L (done ++ [p]) ∧ w'.rangeLeft b r < w.rangeLeft b r ∧
      Chg (fun i => i = r) w w' ∧ w'.heap.size = w.heap.size ∧ (Instr.entry (.pointer (some ⟨r, 0, none⟩))).run P w' = .ok (.tuple #[ek p.1, ev p.2]) w' := by
  have hne := h.ne
  have hnd := nodup_of_keys h.map.nodup
  have hkn := h.map.nodup
  obtain ⟨es, clock, since, seen, c0, hb, hst, hm, hg, hr, hold, hsc, hsk, hseen, hdn, hds⟩ := h
  have hlen : es.toList.length = L.length := by have := congrArg List.length hm; simpa using this
  have hat : ∀ (i : Nat) (e : MapEntry), es.toList[i]? = some e → ∃ p : κ × α, L[i]? = some p ∧ e.key = ek p.1 ∧ e.val = ev p.2 := by
    intro i e he
    have h1 := congrArg (·[i]?) hm
    simp only [List.getElem?_map, he, Option.map_some] at h1
    obtain ⟨p, hp, h2⟩ := Option.map_eq_some_iff.1 h1.symm
    simp only [Prod.mk.injEq] at h2
    exact ⟨p, hp, h2.1.symm, h2.2.symm⟩
  rcases run_next_at (P := P) w ty r b since c0 seen es clock hr hb hold hsc with ⟨h0, hrun⟩ | ⟨e, he, w1, hal, hrun⟩
  · refine .inl ⟨(List.perm_ext_iff_of_nodup hdn hnd).2 fun p => ⟨hds p, fun hp => ?_⟩, hrun⟩
    obtain ⟨i, hi⟩ := List.getElem?_of_mem hp
    have hil : i < es.toList.length := by rw [hlen]; exact (List.getElem?_eq_some_iff.1 hi).1
    exact (hseen i _ p (List.getElem?_eq_getElem hil) hi).1 (all_seen es seen h0 _ (List.getElem_mem hil))
  · obtain ⟨hem, hes⟩ := mem_left he
    obtain ⟨i, hi⟩ := List.getElem?_of_mem hem
    obtain ⟨p, hp, hk, hv⟩ := hat i e hi
    have hr1 : w1.heap[r]? = some (.mapIter (some b) since seen c0) := by rcases hal with rfl | rfl <;> exact hr
    have hb1 : w1.heap[b]? = some (.map es clock) := by rcases hal with rfl | rfl <;> exact hb
    have hset := heap_set (o' := .mapIter (some b) since (seen.push e.born) clock) hr1
    have hb' : (setBlock w1 r (.mapIter (some b) since (seen.push e.born) clock)).heap[b]? = some (.map es clock) := (hset.2 b (fun e1 => hne e1.symm)).trans hb1
    have hpd : p ∉ done := fun hd => by
      have := (hseen i e p hi hp).2 hd
      rw [hes] at this
      cases this
    refine .inr ⟨p, _, List.mem_of_getElem? hp, hpd, by rw [hrun, hk, hv], ⟨es, clock, since, seen.push e.born, clock, hb', hst, hm, hg, hset.1, hold, hsk, hsk, ?_, ?_, ?_⟩, ?_, ?_, ?_, ?_⟩
    · intro j e' p' hj hp'
      rw [contains_push, List.mem_append, List.mem_singleton, Bool.or_eq_true, hseen j e' p' hj hp', beq_iff_eq]
      constructor
      · rintro (h1 | h1)
        · exact .inl h1
        · right
          have : e' = e := born_inj hst.2.1 (List.mem_of_getElem? hj) hem h1
          subst this
          obtain ⟨q, hq, hqk, _⟩ := hat j e' hj
          rw [hp'] at hq
          cases hq
          have hkk : p'.1 = p.1 := inj _ _ (hqk.symm.trans hk)
          obtain ⟨a1, a2⟩ := p'
          obtain ⟨b1, b2⟩ := p
          simp only at hkk
          subst hkk
          have h5 : (L.map (·.1))[i]? = (L.map (·.1))[j]? := by simp [hp, hp']
          have hil : i < (L.map (·.1)).length := by have := (List.getElem?_eq_some_iff.1 hp).1; simpa using this
          have := (List.getElem?_inj hil hkn).1 h5
          subst this
          rw [hp] at hp'
          cases hp'
          rfl
      · rintro (h1 | h1)
        · exact .inl h1
        · subst h1
          right
          have h5 : (L.map (·.1))[i]? = (L.map (·.1))[j]? := by simp [hp, hp']
          have hil : i < (L.map (·.1)).length := by have := (List.getElem?_eq_some_iff.1 hp).1; simpa using this
          have := (List.getElem?_inj hil hkn).1 h5
          subst this
          rw [hi] at hj
          cases hj
          rfl
    · rw [List.nodup_append]
      exact ⟨hdn, by simp, fun a ha c hc => by simp at hc; subst hc; exact fun e1 => hpd (e1 ▸ ha)⟩
    · intro q hq
      rcases List.mem_append.1 hq with hq | hq
      · exact hds q hq
      · simp at hq; subst hq; exact List.mem_of_getElem? hp
    · unfold World.rangeLeft
      have hr' : (setBlock w1 r (.mapIter (some b) since (seen.push e.born) clock)).heap[r]? = some (.mapIter (some b) since (seen.push e.born) clock) := hset.1
      rw [hb', hr', hb, hr]
      exact left_shrinks es seen e he
    · rcases hal with rfl | rfl
      · exact ⟨rfl, rfl, rfl, by simp [setBlock], fun j _ hj => hset.2 j hj⟩
      · exact ⟨rfl, rfl, rfl, by simp [setBlock], fun j _ hj => hset.2 j hj⟩
    · rcases hal with rfl | rfl <;> simp [setBlock]
    · rw [← hk, ← hv]
      exact run_entry_at _ r b since seen es clock e hset.1 hb' hem hst.2.1
end

section
variable {κ α : Type} {P : Program} {k : TypeId} {ek : κ → Value} {ev : α → Value} {good : κ → Prop} {r b : Nat} {L done : List (κ × α)}
variable (w : World) {ops : Array Oper} {rest : List Oper} {o : Oper} {a : Act} {Q : Exit → Act → World → Prop}
theorem wpList_range (hg : o.guard = none) (m : Operand) (t e : TypeId) (hop : o.op = Op.range t m) (ht : P.underlying t = some (.map k e)) (hm : a.eval m = .map (some b)) (h : MapIs ek ev good w b L)
    (hK : ∀ w', IterIs ek ev good w' w.heap.size b L [] → Chg (fun _ => False) w w' → w'.heap.size = w.heap.size + 1 → wpList P ops Q rest (a.put o.dst (.pointer (some ⟨w.heap.size, 0, none⟩))) w') : wpList P ops Q (o :: rest) a w := by
  refine wpList_plain hg fun K' hK' => ?_
  obtain ⟨hrun, hi⟩ := h.range (P := P) (e := e) ht
  unfold Oper.wp
  simp [execOp, hop, hm, hrun, Result.andThen]
  exact hK' _ _ (hK _ hi ((Chg.refl _ w).alloc _) (by simp))
theorem wpList_nextm (hg : o.guard = none) (it : Operand) (hop : o.op = Op.next it false) (inj : ∀ a c, ek a = ek c → a = c) (hit : a.eval it = .pointer (some ⟨r, 0, none⟩)) (h : IterIs ek ev good w r b L done)
    (hDone : done.Perm L → wpList P ops Q rest (a.put o.dst (.tuple #[.bool false])) w)
    (hMore : ∀ p w', p ∈ L → p ∉ done → IterIs ek ev good w' r b L (done ++ [p]) → w'.rangeLeft b r < w.rangeLeft b r → Chg (fun i => i = r) w w' → w'.heap.size = w.heap.size →
      (Instr.entry (.pointer (some ⟨r, 0, none⟩))).run P w' = .ok (.tuple #[ek p.1, ev p.2]) w' → wpList P ops Q rest (a.put o.dst (.tuple #[.bool true, ek p.1, ev p.2])) w') : wpList P ops Q (o :: rest) a w := by
  refine wpList_plain hg fun K' hK' => ?_
  unfold Oper.wp
  rcases h.next (P := P) o.type inj with ⟨h0, hrun⟩ | ⟨p, w', h1, h2, hrun, h3, h4, h5, h6, h7⟩
  · simp [execOp, hop, hit, hrun, Result.andThen]
    exact hK' _ _ (hDone h0)
  · simp [execOp, hop, hit, hrun, Result.andThen]
    exact hK' _ _ (hMore p w' h1 h2 h3 h4 h5 h6 h7)
end
end Go.Proofs.Ytgmekeeemimnpaa
