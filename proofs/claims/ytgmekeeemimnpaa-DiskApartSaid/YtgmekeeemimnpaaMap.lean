/- Plain laws on a map's block whose entries are known as a list: look-up, store, delete, length, range. No condition on the program but on the key's type. -/
import Derived.Maps.OwnSet
import Derived.Maps.RangeWalk
import Derived.WalkKit
namespace Go.Proofs.Ytgmekeeemimnpaa
open Go Go.Maps Go.MapKept Go.RowKit
open Go.ChangeMaps (setBlock)

/-! ### lists of pairs -/
def keysNodup {κ α : Type} (L : List (κ × α)) : Prop := (L.map (·.1)).Nodup
theorem nodup_nil {κ α : Type} : keysNodup ([] : List (κ × α)) := by simp [keysNodup]
section
variable {κ α : Type} [DecidableEq κ]
def aget (L : List (κ × α)) (x : κ) : Option α := (L.find? (fun p => decide (p.1 = x))).map (·.2)
def aput (L : List (κ × α)) (x : κ) (v : α) : List (κ × α) := if (aget L x).isSome then L.map (fun p => if p.1 = x then (x, v) else p) else L ++ [(x, v)]
def adel (L : List (κ × α)) (x : κ) : List (κ × α) := L.filter (fun p => !decide (p.1 = x))

theorem aget_nil (x : κ) : aget ([] : List (κ × α)) x = none := rfl
theorem aget_none_iff {L : List (κ × α)} {x : κ} : aget L x = none ↔ ∀ p ∈ L, p.1 ≠ x := by
  simp [aget, List.find?_eq_none]
theorem aget_some_mem {L : List (κ × α)} {x : κ} {v : α} (h : aget L x = some v) : (x, v) ∈ L := by
  unfold aget at h
  obtain ⟨p, hp, rfl⟩ := Option.map_eq_some_iff.1 h
  have h1 := List.find?_some hp
  have h2 := List.mem_of_find?_eq_some hp
  simp at h1
  subst h1
  exact h2
theorem aget_of_mem {L : List (κ × α)} (hn : keysNodup L) {x : κ} {v : α} (h : (x, v) ∈ L) : aget L x = some v := by
  unfold keysNodup at hn
  induction L with
  | nil => cases h
  | cons p r ih =>
    simp only [List.map_cons, List.nodup_cons] at hn
    unfold aget
    rw [List.find?_cons]
    by_cases hp : p.1 = x
    · simp only [hp, decide_true]
      rcases List.mem_cons.1 h with rfl | h'
      · rfl
      · exact absurd (hp ▸ List.mem_map.2 ⟨_, h', rfl⟩) hn.1
    · simp only [hp, decide_false]
      rcases List.mem_cons.1 h with rfl | h'
      · exact absurd rfl hp
      · exact ih hn.2 h'
theorem mem_iff_aget {L : List (κ × α)} (hn : keysNodup L) {x : κ} {v : α} : (x, v) ∈ L ↔ aget L x = some v :=
  ⟨aget_of_mem hn, aget_some_mem⟩
theorem aget_isSome_iff {L : List (κ × α)} {x : κ} : (aget L x).isSome = true ↔ x ∈ L.map (·.1) := by
  unfold aget
  rw [Option.isSome_map, List.find?_isSome]
  simp

theorem keys_aput (L : List (κ × α)) (x : κ) (v : α) : (aput L x v).map (·.1) = if (aget L x).isSome then L.map (·.1) else L.map (·.1) ++ [x] := by
  unfold aput
  split
  · rw [List.map_map]
    apply List.map_congr_left
    intro p _
    simp only [Function.comp]
    split <;> simp_all
  · simp
theorem nodup_aput {L : List (κ × α)} (hn : keysNodup L) (x : κ) (v : α) : keysNodup (aput L x v) := by
  unfold keysNodup
  rw [keys_aput]
  split
  · exact hn
  · rename_i h
    have hx : x ∉ L.map (·.1) := fun hm => h (aget_isSome_iff.2 hm)
    rw [List.nodup_append]
    exact ⟨hn, by simp, fun a ha b hb => by simp at hb; subst hb; exact fun e => hx (e ▸ ha)⟩
theorem nodup_adel {L : List (κ × α)} (hn : keysNodup L) (x : κ) : keysNodup (adel L x) := by
  unfold keysNodup adel
  exact (List.filter_sublist.map _).nodup hn

theorem mem_aput {L : List (κ × α)} {x : κ} {v : α} {p : κ × α} : p ∈ aput L x v ↔ p = (x, v) ∨ (p ∈ L ∧ p.1 ≠ x) := by
  unfold aput
  split
  · rename_i h
    rw [List.mem_map]
    constructor
    · rintro ⟨q, hq, rfl⟩
      split
      · exact .inl rfl
      · rename_i hne; exact .inr ⟨hq, hne⟩
    · rintro (rfl | ⟨hp, hne⟩)
      · obtain ⟨q, hq, he⟩ := List.mem_map.1 (aget_isSome_iff.1 h)
        exact ⟨q, hq, by simp [he]⟩
      · exact ⟨p, hp, by simp [hne]⟩
  · rename_i h
    have hx : x ∉ L.map (·.1) := fun hm => h (aget_isSome_iff.2 hm)
    rw [List.mem_append, List.mem_singleton]
    constructor
    · rintro (hp | rfl)
      · exact .inr ⟨hp, fun e => hx (e ▸ List.mem_map.2 ⟨p, hp, rfl⟩)⟩
      · exact .inl rfl
    · rintro (rfl | ⟨hp, _⟩)
      · exact .inr rfl
      · exact .inl hp
theorem mem_adel {L : List (κ × α)} {x : κ} {p : κ × α} : p ∈ adel L x ↔ p ∈ L ∧ p.1 ≠ x := by
  simp [adel]
theorem aget_aput {L : List (κ × α)} (hn : keysNodup L) (x : κ) (v : α) (y : κ) : aget (aput L x v) y = if y = x then some v else aget L y := by
  by_cases h : y = x
  · subst h
    rw [if_pos rfl]
    exact aget_of_mem (nodup_aput hn _ _) (mem_aput.2 (.inl rfl))
  · rw [if_neg h]
    cases hg : aget L y with
    | some u => exact aget_of_mem (nodup_aput hn _ _) (mem_aput.2 (.inr ⟨aget_some_mem hg, h⟩))
    | none =>
      rw [aget_none_iff] at hg ⊢
      intro p hp
      rcases mem_aput.1 hp with rfl | ⟨hp', _⟩
      · exact fun e => h e.symm
      · exact hg p hp'
theorem aget_adel {L : List (κ × α)} (hn : keysNodup L) (x : κ) (y : κ) : aget (adel L x) y = if y = x then none else aget L y := by
  by_cases h : y = x
  · subst h
    rw [if_pos rfl, aget_none_iff]
    exact fun p hp => (mem_adel.1 hp).2
  · rw [if_neg h]
    cases hg : aget L y with
    | some u => exact aget_of_mem (nodup_adel hn _) (mem_adel.2 ⟨aget_some_mem hg, h⟩)
    | none =>
      rw [aget_none_iff] at hg ⊢
      exact fun p hp => hg p (mem_adel.1 hp).1
theorem length_aput (L : List (κ × α)) (x : κ) (v : α) : (aput L x v).length = if (aget L x).isSome then L.length else L.length + 1 := by
  unfold aput
  split <;> simp
theorem length_aput_le (L : List (κ × α)) (x : κ) (v : α) : (aput L x v).length ≤ L.length + 1 := by
  rw [length_aput]; split <;> omega
theorem adel_of_not {L : List (κ × α)} {x : κ} (h : aget L x = none) : adel L x = L := by
  unfold adel
  rw [List.filter_eq_self]
  intro p hp
  simpa using aget_none_iff.1 h p hp
end

/-! ### the block -/
theorem nodup_of_map {α β : Type} (f : α → β) {l : List α} (h : (l.map f).Nodup) : l.Nodup := by
  unfold List.Nodup at h ⊢
  rw [List.pairwise_map] at h
  exact h.imp (fun hne e => hne (by rw [e]))
theorem map_eraseIdx' {α β : Type} (f : α → β) : ∀ (l : List α) (j : Nat), (l.map f).eraseIdx j = (l.eraseIdx j).map f
  | [], _ => by simp
  | _ :: _, 0 => by simp
  | _ :: l, j + 1 => by simp [map_eraseIdx' f l j]
/-- How a typed key lies in memory. -/
structure KeyEnc (P : Program) (k : TypeId) {κ : Type} (ek : κ → Value) (good : κ → Prop) : Prop where
  K : Keyed P k
  inj : ∀ a b, ek a = ek b → a = b
  key : ∀ a, good a → ∃ l, keyOf P k (ek a) = some l

/-- Block b of w is a map whose entries are L, in the order in which they came. -/
def MapIs {κ α : Type} (ek : κ → Value) (ev : α → Value) (good : κ → Prop) (w : World) (b : Nat) (L : List (κ × α)) : Prop :=
  ∃ es clock, w.heap[b]? = some (.map es clock) ∧ Stamped es clock ∧ es.toList.map (fun e => (e.key, e.val)) = L.map (fun p => (ek p.1, ev p.2)) ∧ ∀ p ∈ L, good p.1

section
variable {κ α : Type} {P : Program} {k : TypeId} {ek : κ → Value} {ev : α → Value} {good : κ → Prop} {w w' : World} {b : Nat} {L : List (κ × α)}

theorem MapIs.lt (h : MapIs ek ev good w b L) : b < w.heap.size := by
  obtain ⟨es, clock, hb, _⟩ := h
  exact (Array.getElem?_eq_some_iff.1 hb).1
theorem MapIs.same (h : MapIs ek ev good w b L) (hs : w'.heap[b]? = w.heap[b]?) : MapIs ek ev good w' b L := by
  obtain ⟨es, clock, hb, r⟩ := h
  exact ⟨es, clock, hs.trans hb, r⟩
theorem MapIs.drew (h : MapIs ek ev good w b L) : MapIs ek ev good w.drew b L := h
theorem MapIs.alloc (h : MapIs ek ev good w b L) (o : Obj) : MapIs ek ev good (w.alloc o) b L := h.same ((heap_alloc w o).2 b h.lt)
theorem MapIs.setCell (h : MapIs ek ev good w b L) {a : Addr} (ha : b ≠ a.block) (u : Value) : MapIs ek ev good (w.setCell a u) b L := h.same (Below.heap_setCell _ _ _ _ ha)
theorem MapIs.keyGood (h : MapIs ek ev good w b L) : ∀ p ∈ L, good p.1 := by
  obtain ⟨es, clock, hb, _, _, hg⟩ := h
  exact hg
theorem MapIs.made (w : World) : MapIs ek ev good (w.alloc (.map #[] 0)) w.heap.size [] :=
  ⟨#[], 0, (heap_alloc w _).1, stamped_empty 0, rfl, by simp⟩
theorem MapIs.nodup (h : MapIs ek ev good w b L) : keysNodup L := by
  obtain ⟨es, clock, hb, hst, hm, hg⟩ := h
  have h1 : es.toList.map (·.key) = L.map (fun p => ek p.1) := by
    have := congrArg (List.map (fun q : Value × Value => q.1)) hm
    simpa [List.map_map, Function.comp_def] using this
  have h2 := hst.2.2
  rw [h1] at h2
  have h3 : L.map (fun p => ek p.1) = (L.map (·.1)).map ek := by simp [List.map_map, Function.comp_def]
  rw [h3] at h2
  exact nodup_of_map ek h2

end
section
variable {κ α : Type} [DecidableEq κ] {P : Program} {k : TypeId} {ek : κ → Value} {ev : α → Value} {good : κ → Prop} {w : World} {b : Nat} {L : List (κ × α)}

/-- What the search in a map's entries comes to. -/
theorem find_raw (E : KeyEnc P k ek good) {es : Array MapEntry} {L : List (κ × α)} (hm : es.toList.map (fun e => (e.key, e.val)) = L.map (fun p => (ek p.1, ev p.2))) (hst : (es.toList.map (·.key)).Nodup) (hg : ∀ p ∈ L, good p.1) (w : World) {x : κ} (hx : good x) :
    ((Instr.findKey k (ek x) es.toList).run P w = .ok none w ∧ aget L x = none) ∨
    ∃ j v e, (Instr.findKey k (ek x) es.toList).run P w = .ok (some (j, ev v)) w ∧ aget L x = some v ∧ L[j]? = some (x, v) ∧ es[j]? = some e ∧ e.key = ek x ∧ ∀ i, L[i]? = some (x, v) → i = j := by
  obtain ⟨lx, hlx⟩ := E.key x hx
  have hlen : es.toList.length = L.length := by have := congrArg List.length hm; simpa using this
  have hat : ∀ i : Nat, ∀ e, es.toList[i]? = some e → ∃ p, L[i]? = some p ∧ e.key = ek p.1 ∧ e.val = ev p.2 := by
    intro i e he
    have h1 := congrArg (·[i]?) hm
    simp only [List.getElem?_map, he, Option.map_some] at h1
    obtain ⟨p, hp, h2⟩ := Option.map_eq_some_iff.1 h1.symm
    simp only [Prod.mk.injEq] at h2
    exact ⟨p, hp, h2.1.symm, h2.2.symm⟩
  have hks : ∀ e ∈ es.toList, ∃ l, keyOf P k e.key = some l := by
    intro e he
    obtain ⟨i, hi⟩ := List.getElem?_of_mem he
    obtain ⟨p, hp, h1, _⟩ := hat i e hi
    obtain ⟨l, hl⟩ := E.key p.1 (hg p (List.mem_of_getElem? hp))
    exact ⟨l, by rw [h1]; exact hl⟩
  rcases E.K.find w hlx es.toList hks with ⟨h1, h2⟩ | ⟨j, e, h1, h2, h3⟩
  · refine .inl ⟨h1, aget_none_iff.2 fun p hp he => ?_⟩
    obtain ⟨i, hi⟩ := List.getElem?_of_mem hp
    have hil : i < es.toList.length := by rw [hlen]; exact (List.getElem?_eq_some_iff.1 hi).1
    obtain ⟨p', hp', h4, _⟩ := hat i _ (List.getElem?_eq_getElem hil)
    rw [hi] at hp'
    cases hp'
    exact h2 _ (List.getElem_mem hil) (by rw [h4, he])
  · obtain ⟨p, hp, h4, h5⟩ := hat j e h2
    have hpx : p.1 = x := E.inj _ _ (h4.symm.trans h3)
    obtain ⟨p1, p2⟩ := p
    simp only at hpx h5
    subst hpx
    have hnd : keysNodup L := by
      have h6 : es.toList.map (·.key) = (L.map (·.1)).map ek := by
        have := congrArg (List.map (fun q : Value × Value => q.1)) hm
        simpa [List.map_map, Function.comp_def] using this
      rw [h6] at hst
      exact nodup_of_map ek hst
    refine .inr ⟨j, p2, e, by rw [h1, h5], aget_of_mem hnd (List.mem_of_getElem? hp), hp, by simpa using h2, h3, fun i hi => ?_⟩
    have hnk : ((L.map (·.1))[i]?) = ((L.map (·.1))[j]?) := by simp [hi, hp]
    have hil : i < (L.map (·.1)).length := by have := (List.getElem?_eq_some_iff.1 hi).1; simpa using this
    exact (List.getElem?_inj hil hnd).1 hnk

/-- 'm[x]', 'v, ok := m[x]'. -/
theorem MapIs.look (E : KeyEnc P k ek good) (h : MapIs ek ev good w b L) {t e : TypeId} (ht : P.underlying t = some (.map k e)) {z : Value} (hz : (zeroValue e).run P w = .ok z w) {x : κ} (hx : good x) (c : Bool) :
    (Instr.lookup t (.map (some b)) (ek x) c).run P w = .ok (if c then .tuple #[((aget L x).map ev).getD z, .bool (aget L x).isSome] else ((aget L x).map ev).getD z) w := by
  obtain ⟨es, clock, hb, hst, hm, hg⟩ := h
  obtain ⟨lx, hlx⟩ := E.key x hx
  rcases find_raw E hm hst.2.2 hg w hx with ⟨h1, h2⟩ | ⟨j, v, e0, h1, h2, _⟩
  · rw [h2]
    simp [Instr.lookup, run_underlying ht, MapKept.run_getObj_map hb, E.K.check w _ hlx, h1, hz, Result.andThen]
  · rw [h2]
    simp [Instr.lookup, run_underlying ht, MapKept.run_getObj_map hb, E.K.check w _ hlx, h1, Result.andThen]

/-- 'm[x] = v'. -/
theorem MapIs.store (E : KeyEnc P k ek good) (h : MapIs ek ev good w b L) {t e : TypeId} (ht : P.underlying t = some (.map k e)) {x : κ} (hx : good x) (v : α) :
    ∃ w', (Instr.mapUpdate t (.map (some b)) (ek x) (ev v)).run P w = .ok () w' ∧ MapIs ek ev good w' b (aput L x v) ∧ w.mapTurned w' b := by
  have hnd := h.nodup
  obtain ⟨es, clock, hb, hst, hm, hg⟩ := h
  obtain ⟨lx, hlx⟩ := E.key x hx
  have hg' : ∀ p ∈ aput L x v, good p.1 := by
    intro p hp
    rcases mem_aput.1 hp with rfl | ⟨hp, _⟩
    · exact hx
    · exact hg p hp
  rcases find_raw E hm hst.2.2 hg w hx with ⟨h1, h2⟩ | ⟨j, v0, e0, h1, h2, h3, h4, h5, h6⟩
  · refine ⟨_, ?_, ⟨es.push { key := ek x, val := ev v, born := clock }, clock + 1, ChangeMaps.heap_setBlock_same hb _, stamped_push hst ?_, ?_, hg'⟩, ⟨es, clock, _, _, hb, rfl⟩⟩
    · simp [Instr.mapUpdate, run_underlying ht, MapKept.run_getObj_map hb, E.K.check w _ hlx, h1, MapKept.run_setObj_map _ hb, Result.andThen, setBlock]
    · intro y hy he
      have : (y.key, y.val) ∈ L.map (fun p => (ek p.1, ev p.2)) := hm ▸ List.mem_map.2 ⟨y, hy, rfl⟩
      obtain ⟨p, hp, h7⟩ := List.mem_map.1 this
      simp only [Prod.mk.injEq] at h7
      exact aget_none_iff.1 h2 p hp (E.inj _ _ (h7.1.trans he))
    · simp only [Array.toList_push, List.map_append, List.map_cons, List.map_nil, hm]
      unfold aput
      rw [h2]
      simp
  · have hjs : j < es.size := (Array.getElem?_eq_some_iff.1 h4).1
    refine ⟨_, ?_, ⟨es.modify j fun e => { e with key := ek x, val := ev v }, clock, ChangeMaps.heap_setBlock_same hb _, stamped_modify hst j _ (fun _ _ => rfl) (fun e _ he => ?_), ?_, hg'⟩, ⟨es, clock, _, _, hb, rfl⟩⟩
    · have h7 := Array.getElem?_eq_getElem hjs
      rw [h4] at h7
      injection h7 with h7
      simp [Instr.mapUpdate, run_underlying ht, MapKept.run_getObj_map hb, E.K.check w _ hlx, h1, h4, h5, E.K.stays w hlx, MapKept.run_setObj_map _ hb, Result.andThen, setBlock]
    · rw [h4] at he
      cases he
      exact h5.symm
    · have e1 : aput L x v = L.set j (x, v) := by
        unfold aput
        rw [h2]
        simp only [Option.isSome_some, if_true]
        apply List.ext_getElem?
        intro i
        rw [List.getElem?_map, List.getElem?_set]
        have hjl : j < L.length := (List.getElem?_eq_some_iff.1 h3).1
        by_cases hij : j = i
        · subst hij
          rw [if_pos rfl, if_pos hjl, h3]
          simp
        · rw [if_neg hij]
          cases hi : L[i]? with
          | none => rfl
          | some p =>
            by_cases hp : p.1 = x
            · exfalso
              have := aget_of_mem hnd (List.mem_of_getElem? hi)
              obtain ⟨p1, p2⟩ := p
              simp only at hp this
              subst hp
              rw [h2] at this
              cases this
              exact hij (h6 i hi).symm
            · simp [hp]
      rw [e1, List.map_set, ← hm]
      apply List.ext_getElem?
      intro i
      simp only [List.getElem?_map, Array.getElem?_toList, Array.getElem?_modify, List.getElem?_set, List.length_map, Array.length_toList]
      by_cases hij : j = i
      · subst hij
        simp [hjs]
      · simp [hij]

/-- 'delete(m, x)'. -/
theorem MapIs.drop (E : KeyEnc P k ek good) (h : MapIs ek ev good w b L) {t e : TypeId} (ht : P.underlying t = some (.map k e)) {x : κ} (hx : good x) (ty : TypeId) :
    ∃ w', (Builtin.delete_ #[t, k] ty #[.map (some b), ek x]).run P w = .ok (.tuple #[]) w' ∧ MapIs ek ev good w' b (adel L x) ∧ w.mapTurned w' b := by
  have hnd := h.nodup
  obtain ⟨es, clock, hb, hst, hm, hg⟩ := h
  obtain ⟨lx, hlx⟩ := E.key x hx
  have hg' : ∀ p ∈ adel L x, good p.1 := fun p hp => hg p (mem_adel.1 hp).1
  rcases find_raw E hm hst.2.2 hg w hx with ⟨h1, h2⟩ | ⟨j, v0, e0, h1, h2, h3, h4, h5, h6⟩
  · refine ⟨_, ?_, ⟨es, clock, ChangeMaps.heap_setBlock_same hb _, hst, by rw [adel_of_not h2]; exact hm, hg'⟩, ⟨es, clock, _, _, hb, rfl⟩⟩
    simp [Builtin.delete_, run_underlying ht, MapKept.run_getObj_map hb, E.K.check w _ hlx, h1, MapKept.run_setObj_map _ hb, Result.andThen, setBlock]
  · have hjs : j < es.size := (Array.getElem?_eq_some_iff.1 h4).1
    have hsub : (es.eraseIdxIfInBounds j).toList = es.toList.eraseIdx j := by
      unfold Array.eraseIdxIfInBounds
      rw [dif_pos hjs]
      simp
    refine ⟨_, ?_, ⟨es.eraseIdxIfInBounds j, clock, ChangeMaps.heap_setBlock_same hb _, stamped_erase hst j, ?_, hg'⟩, ⟨es, clock, _, _, hb, rfl⟩⟩
    · simp [Builtin.delete_, run_underlying ht, MapKept.run_getObj_map hb, E.K.check w _ hlx, h1, MapKept.run_setObj_map _ hb, Result.andThen, setBlock]
    · have e1 : adel L x = L.eraseIdx j := by
        have hjl : j < L.length := (List.getElem?_eq_some_iff.1 h3).1
        have hL : L = L.take j ++ (x, v0) :: L.drop (j + 1) := by
          have h7 : L[j] = (x, v0) := (List.getElem?_eq_some_iff.1 h3).2
          rw [← h7, List.getElem_cons_drop, List.take_append_drop]
        unfold adel
        rw [List.eraseIdx_eq_take_drop_succ]
        conv => lhs; rw [hL]
        rw [List.filter_append, List.filter_cons]
        simp only [decide_true, Bool.not_true, Bool.false_eq_true, if_false]
        have hne : ∀ i p, L[i]? = some p → i ≠ j → p.1 ≠ x := by
          intro i p hi hij hp
          have := aget_of_mem hnd (List.mem_of_getElem? hi)
          obtain ⟨p1, p2⟩ := p
          simp only at hp this
          subst hp
          rw [h2] at this
          cases this
          exact hij (h6 i hi)
        congr 1
        · rw [List.filter_eq_self]
          intro p hp
          obtain ⟨i, hi⟩ := List.getElem?_of_mem hp
          rw [List.getElem?_take] at hi
          split at hi
          · simpa using hne i p hi (by omega)
          · cases hi
        · rw [List.filter_eq_self]
          intro p hp
          obtain ⟨i, hi⟩ := List.getElem?_of_mem hp
          rw [List.getElem?_drop] at hi
          simpa using hne _ p hi (by omega)
      rw [hsub, e1, ← map_eraseIdx', ← map_eraseIdx', hm]

end
/-- 'len(m)'. -/
theorem MapIs.len {κ α : Type} {P : Program} {k : TypeId} {ek : κ → Value} {ev : α → Value} {good : κ → Prop} {w : World} {b : Nat} {L : List (κ × α)} (h : MapIs ek ev good w b L) {t e : TypeId} (ht : P.underlying t = some (.map k e)) (ty : TypeId) : (Builtin.len_ #[t] ty #[.map (some b)]).run P w = .ok (.int .i64 (L.length : Int)) w := by
  obtain ⟨es, clock, hb, _, hm, _⟩ := h
  have e1 : es.size = L.length := by have := congrArg List.length hm; simpa using this
  simp [Builtin.len_, run_underlying ht, MapKept.run_getObj_map hb, goInt, Result.andThen, e1]
end Go.Proofs.Ytgmekeeemimnpaa
