/- Deleting during a range: the entry that is deleted is out of the map and out of what has come. -/
import Derived.Test.YtgmekeeemimnpaaIter
namespace Go.Proofs.Ytgmekeeemimnpaa
open Go Go.Maps Go.MapKept Go.RowKit
open Go.ChangeMaps (setBlock)

section
variable {κ α : Type} [DecidableEq κ] {P : Program} {k : TypeId} {ek : κ → Value} {ev : α → Value} {good : κ → Prop} {w : World} {r b : Nat} {L done : List (κ × α)}
theorem IterIs.drop (E : KeyEnc P k ek good) (h : IterIs ek ev good w r b L done) {t e : TypeId} (ht : P.underlying t = some (.map k e)) {x : κ} (hx : good x) (ty : TypeId) :
    ∃ w', (Builtin.delete_ #[t, k] ty #[.map (some b), ek x]).run P w = .ok (.tuple #[]) w' ∧ IterIs ek ev good w' r b (adel L x) (adel done x) ∧ w.mapTurned w' b ∧ w'.rangeLeft b r ≤ w.rangeLeft b r := by
  have hnd := h.map.nodup
  have hne := h.ne
  obtain ⟨es, clock, since, seen, c0, hb, hst, hm, hg, hr, hold, hsc, hsk, hseen, hdn, hds⟩ := h
  obtain ⟨lx, hlx⟩ := E.key x hx
  have hg' : ∀ p ∈ adel L x, good p.1 := fun p hp => hg p (mem_adel.1 hp).1
  have hdn' : (adel done x).Nodup := hdn.filter _
  have hds' : ∀ p ∈ adel done x, p ∈ adel L x := fun p hp => mem_adel.2 ⟨hds p (mem_adel.1 hp).1, (mem_adel.1 hp).2⟩
  rcases find_raw E hm hst.2.2 hg w hx with ⟨h1, h2⟩ | ⟨j, v0, e0, h1, h2, h3, h4, h5, h6⟩
  · have hLe : adel L x = L := adel_of_not h2
    have hDe : adel done x = done := by
      refine adel_of_not (aget_none_iff.2 fun p hp => ?_)
      exact aget_none_iff.1 h2 p (hds p hp)
    have hset := heap_set (o' := .map es clock) hb
    refine ⟨setBlock w b (.map es clock), ?_, ⟨es, clock, since, seen, c0, hset.1, hst, by rw [hLe]; exact hm, hg', (hset.2 r hne).trans hr, hold, hsc, hsk, by rw [hLe, hDe]; exact hseen, hdn', hds'⟩, ⟨es, clock, _, _, hb, rfl⟩, ?_⟩
    · simp [Builtin.delete_, run_underlying ht, MapKept.run_getObj_map hb, E.K.check w _ hlx, h1, MapKept.run_setObj_map _ hb, Result.andThen, setBlock]
    · unfold World.rangeLeft
      rw [show (setBlock w b (.map es clock)).heap[b]? = some (.map es clock) from hset.1, show (setBlock w b (.map es clock)).heap[r]? = w.heap[r]? from hset.2 r hne, hb]
      exact Nat.le_refl _
  · have hjs : j < es.size := (Array.getElem?_eq_some_iff.1 h4).1
    have hsub : (es.eraseIdxIfInBounds j).toList = es.toList.eraseIdx j := by
      unfold Array.eraseIdxIfInBounds
      rw [dif_pos hjs]
      simp
    have e1 : adel L x = L.eraseIdx j := by
        have hjl : j < L.length := (List.getElem?_eq_some_iff.1 h3).1
        have hL : L = L.take j ++ (x, v0) :: L.drop (j + 1) := by
          have h7 : L[j] = (x, v0) := (List.getElem?_eq_some_iff.1 h3).2
          rw [← h7, List.getElem_cons_drop, List.take_append_drop]
        unfold adel
        rw [List.eraseIdx_eq_take_drop_succ]
        conv => lhs; rw [hL]
        rw [List.filter_append, List.filter_cons]
        simp only [decide_true, Bool.not_true, Bool.false_eq_true, if_false]
        have hne : ∀ i p, L[i]? = some p → i ≠ j → p.1 ≠ x := by
          intro i p hi hij hp
          have := aget_of_mem hnd (List.mem_of_getElem? hi)
          obtain ⟨p1, p2⟩ := p
          simp only at hp this
          subst hp
          rw [h2] at this
          cases this
          exact hij (h6 i hi)
        congr 1
        · rw [List.filter_eq_self]
          intro p hp
          obtain ⟨i, hi⟩ := List.getElem?_of_mem hp
          rw [List.getElem?_take] at hi
          split at hi
          · simpa using hne i p hi (by omega)
          · cases hi
        · rw [List.filter_eq_self]
          intro p hp
          obtain ⟨i, hi⟩ := List.getElem?_of_mem hp
          rw [List.getElem?_drop] at hi
          simpa using hne _ p hi (by omega)
    have hset := heap_set (o' := .map (es.eraseIdxIfInBounds j) clock) hb
    refine ⟨setBlock w b (.map (es.eraseIdxIfInBounds j) clock), ?_, ⟨es.eraseIdxIfInBounds j, clock, since, seen, c0, hset.1, stamped_erase hst j, ?_, hg', (hset.2 r hne).trans hr, ?_, hsc, hsk, ?_, hdn', hds'⟩, ⟨es, clock, _, _, hb, rfl⟩, ?_⟩
    · simp [Builtin.delete_, run_underlying ht, MapKept.run_getObj_map hb, E.K.check w _ hlx, h1, MapKept.run_setObj_map _ hb, Result.andThen, setBlock]
    · rw [hsub, e1, ← map_eraseIdx', ← map_eraseIdx', hm]
    · intro y hy
      rw [hsub] at hy
      exact hold y (List.mem_of_mem_eraseIdx hy)
    · intro i e' p hi hp
      have hpm := List.mem_of_getElem? hp
      rw [mem_adel]
      rw [hsub, List.getElem?_eraseIdx] at hi
      rw [e1, List.getElem?_eraseIdx] at hp
      have hk := (mem_adel.1 hpm).2
      split at hi
      · rw [if_pos ‹_›] at hp
        rw [hseen i e' p hi hp]
        exact ⟨fun h => ⟨h, hk⟩, fun h => h.1⟩
      · rw [if_neg ‹_›] at hp
        rw [hseen (i + 1) e' p hi hp]
        exact ⟨fun h => ⟨h, hk⟩, fun h => h.1⟩
    · unfold World.rangeLeft
      rw [show (setBlock w b (.map (es.eraseIdxIfInBounds j) clock)).heap[b]? = some (.map (es.eraseIdxIfInBounds j) clock) from hset.1, show (setBlock w b (.map (es.eraseIdxIfInBounds j) clock)).heap[r]? = w.heap[r]? from hset.2 r hne, hb, hr]
      simp only
      have key : ∀ a : Array MapEntry, (leftOf a seen).size = (a.toList.filter fun e => !seen.contains e.born).length := fun a => by
        unfold leftOf
        rw [← Array.length_toList]
        simp
      rw [key, key, hsub]
      exact (List.Sublist.filter _ (List.eraseIdx_sublist _ _)).length_le
theorem wpList_dropi (w : World) {ops : Array Oper} {rest : List Oper} {o : Oper} {a : Act} {Q : Exit → Act → World → Prop} (hg : o.guard = none) (m x : Operand) (t : TypeId) (hop : o.op = Op.call { callee := Callee.builtin Builtin.delete, args := #[m, x], argTypes := #[t, k] }) (e : TypeId) (E : KeyEnc P k ek good) (ht : P.underlying t = some (.map k e))
    (h : IterIs ek ev good w r b L done) (hm : a.eval m = .map (some b)) (key : κ) (hx : a.eval x = ek key) (hkey : good key)
    (hK : ∀ w', IterIs ek ev good w' r b (adel L key) (adel done key) → w.mapTurned w' b → w'.rangeLeft b r ≤ w.rangeLeft b r → wpList P ops Q rest (a.put o.dst (.tuple #[])) w') : wpList P ops Q (o :: rest) a w := by
  refine wpList_plain hg fun K' hK' => ?_
  obtain ⟨w', hrun, r1, r2, r3⟩ := h.drop E ht hkey o.type
  unfold Oper.wp
  simp [execOp, hop, resolve, invoke, builtin, hm, hx, hrun, Result.andThen]
  exact hK' _ _ (hK w' r1 r2 r3)
end
end Go.Proofs.Ytgmekeeemimnpaa
