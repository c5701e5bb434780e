/- '==' of two tables. -/
import Derived.Test.YtgmekeeemimnpaaDoorC4
import Derived.Laws.StructEq
namespace Go.Proofs.YtgmekeeemimnpaaDoor
open Go Go.Maps Go.MapKept Go.RowKit

section
variable {P : Program}
theorem run_eq_loop (f g : Nat → Int) : ∀ (n a : Nat) (w : World) (F : Nat → Option Bool × Unit → Sem (ForInStep (Option Bool × Unit))),
    (∀ i s w, a ≤ i → i < a + n → (F i s).run P w = .ok (if f i = g i then .yield (none, ()) else .done (some false, ())) w) →
    (forIn (List.range' a n) ((none, ()) : Option Bool × Unit) F).run P w = .ok (if (List.range' a n).all (fun i => f i == g i) = true then (none, ()) else (some false, ())) w
  | 0, a, w, F, _ => by simp
  | n + 1, a, w, F, h => by
    rw [List.range'_succ, List.forIn_cons, Sem.run_bind, h a _ w (Nat.le_refl _) (by omega)]
    by_cases he : f a = g a
    · rw [if_pos he]
      simp only [Result.andThen_ok]
      rw [run_eq_loop f g n (a + 1) w F (fun i s w h1 h2 => h i s w (by omega) (by omega))]
      have h5 : (f a == g a) = true := by simpa using he
      rw [List.all_cons, h5, Bool.true_and]
    · rw [if_neg he]
      simp [he]
theorem run_equalIn_ints (w : World) (d : Nat) (t e : TypeId) (len : Nat) (ht : P.underlying t = some (.array len e)) (he : P.underlying e = some (.int .i64)) (hs : ∀ w, (sizeOf e).run P w = .ok 1 w) (ha : ∀ w, (isAgg e).run P w = .ok false w)
    (f g : Nat → Int) (xs ys : Array Value) (hx : ∀ i, i < len → xs[i]? = some (.int .i64 (f i))) (hy : ∀ i, i < len → ys[i]? = some (.int .i64 (g i))) :
    (Op.equalIn (d + 2) t (.agg xs) (.agg ys)).run P w = .ok ((List.range len).all fun i => f i == g i) w := by
  obtain ⟨d', hd⟩ : ∃ d', d' = d + 1 := ⟨_, rfl⟩
  rw [show d + 2 = (d + 1) + 1 from rfl, ← hd]
  simp only [Op.equalIn, Sem.run_bind, run_underlying ht, hs, Result.andThen_ok]
  rw [Std.Legacy.Range.forIn_eq_forIn_range']
  simp only [Std.Legacy.Range.size, Nat.sub_zero, Nat.add_sub_cancel, Nat.div_one]
  rw [run_eq_loop f g len 0 w _ (fun i s w h1 h2 => ?_)]
  · rw [List.range_eq_range']
    cases (List.range' 0 len).all (fun i => f i == g i) <;> simp
  · have h3 : i < len := by omega
    have h4 := run_equalIn_int (P := P) w d e .i64 .i64 (f i) (g i) he
    rw [← hd] at h4
    by_cases h5 : f i = g i
    · have h6 : (f i == g i) = true := by simpa using h5
      rw [if_pos h5]
      simp [part, ha, hx i h3, hy i h3, h4, h6, Result.andThen]
    · have h6 : (f i == g i) = false := by simpa using h5
      rw [if_neg h5]
      simp [part, ha, hx i h3, hy i h3, h4, h6, Result.andThen]
end
/-- Are two tables the same? -/
def sameT (f g : Nat → Int) : Bool := (List.range 64).all (fun i => f i == g i) && (List.range 64).all fun i => f (64 + i) == g (64 + i)
theorem sameT_true {f g : Nat → Int} (h : ∀ i, i < 128 → f i = g i) : sameT f g = true := by
  unfold sameT
  simp only [Bool.and_eq_true, List.all_eq_true, List.mem_range, beq_iff_eq]
  exact ⟨fun i hi => h i (by omega), fun i hi => h (64 + i) (by omega)⟩
theorem sizeInt (w : World) : (sizeOf 3).run Tryd.prog w = .ok 1 w := by kernel_rfl
theorem aggInt (w : World) : (isAgg 3).run Tryd.prog w = .ok false w := by kernel_rfl
theorem sizeArr (w : World) : (sizeOf 22).run Tryd.prog w = .ok 64 w := by kernel_rfl
theorem run_eq_tab (w : World) (f g : Nat → Int) : (Op.equalIn 10000 24 (.agg (tcs f)) (.agg (tcs g))).run Tryd.prog w = .ok (sameT f g) w := by
  have h1 := fun w => run_equalIn_ints (P := Tryd.prog) w 9997 22 3 64 Tryd.underlying22 Tryd.underlying3 sizeInt aggInt f g (ocs f) (ocs g) (fun i hi => ocs_get f hi) (fun i hi => ocs_get g hi)
  have h2 := fun w => run_equalIn_ints (P := Tryd.prog) w 9997 22 3 64 Tryd.underlying22 Tryd.underlying3 sizeInt aggInt (fun i => f (64 + i)) (fun i => g (64 + i)) (ocs fun i => f (64 + i)) (ocs fun i => g (64 + i)) (fun i hi => ocs_get _ hi) (fun i hi => ocs_get _ hi)
  have e1 : ∀ f w, (part 22 (tcs f) 0).run Tryd.prog w = .ok (.agg (ocs f)) w := fun f w => by
    have : (tcs f).extract 0 64 = ocs f := by
      apply Array.ext_getElem?
      intro j
      by_cases hj : j < 64
      · rw [ocs_get f hj, Array.getElem?_extract]
        simp [hj, tcs_size, tcs_get f (show j < 128 by omega)]
      · rw [Array.getElem?_eq_none (by simp [tcs_size]; omega), Array.getElem?_eq_none (by simp [ocs_size]; omega)]
    simp [part, this, Result.andThen]
  have e2 : ∀ f w, (part 22 (tcs f) 64).run Tryd.prog w = .ok (.agg (ocs fun i => f (64 + i))) w := fun f w => by
    have : (tcs f).extract 64 128 = ocs fun i => f (64 + i) := by
      apply Array.ext_getElem?
      intro j
      by_cases hj : j < 64
      · rw [ocs_get _ hj, Array.getElem?_extract]
        simp [hj, tcs_size, tcs_get f (show 64 + j < 128 by omega)]
      · rw [Array.getElem?_eq_none (by simp [tcs_size]; omega), Array.getElem?_eq_none (by simp [ocs_size]; omega)]
    simp [part, this, Result.andThen]
  rw [run_equalIn_agg (P := Tryd.prog) w 9999 24 (tcs f) (tcs g) (by kernel_rfl) (by kernel_rfl)]
  have hf : ∃ a b, (Tryd.prog.fieldsOf 24).toList = [a, b] ∧ a.name ≠ "_" ∧ b.name ≠ "_" ∧ a.type = 22 ∧ b.type = 22 ∧ a.offset = 0 ∧ b.offset = 64 := by
    refine ⟨_, _, rfl, ?_, ?_, rfl, rfl, rfl, rfl⟩ <;> decide
  obtain ⟨a, b, hab, n1, n2, t1, t2, o1, o2⟩ := hf
  rw [hab]
  have h1' : ∀ w, (Op.equalIn 9999 22 (.agg (ocs f)) (.agg (ocs g))).run Tryd.prog w = .ok ((List.range 64).all fun i => f i == g i) w := h1
  have h2' : ∀ w, (Op.equalIn 9999 22 (.agg (ocs fun i => f (64 + i))) (.agg (ocs fun i => g (64 + i)))).run Tryd.prog w = .ok ((List.range 64).all fun i => f (64 + i) == g (64 + i)) w := h2
  unfold sameT
  cases hx : (List.range 64).all (fun i => f i == g i) with
  | false =>
    rw [hx] at h1'
    simp [Op.eqFields, n1, t1, o1, e1, h1', Result.andThen]
  | true =>
    rw [hx] at h1'
    cases hy : (List.range 64).all (fun i => f (64 + i) == g (64 + i)) with
    | false =>
      rw [hy] at h2'
      simp [Op.eqFields, n1, n2, t1, t2, o1, o2, e1, e2, h1', h2', Result.andThen]
    | true =>
      rw [hy] at h2'
      simp [Op.eqFields, n1, n2, t1, t2, o1, o2, e1, e2, h1', h2', Result.andThen]
end Go.Proofs.YtgmekeeemimnpaaDoor
