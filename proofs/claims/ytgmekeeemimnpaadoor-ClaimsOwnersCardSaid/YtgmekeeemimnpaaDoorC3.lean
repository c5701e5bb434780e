/- A table by value: its cells, its block; (claims.Table).Of walked. -/
import Derived.Test.YtgmekeeemimnpaaDoorC2
import Derived.Laws.Cells
namespace Go.Proofs.YtgmekeeemimnpaaDoor
open Go Go.Maps Go.MapKept Go.RowKit

/-- A table's cells: the owners, then the epochs. -/
def tcs (f : Nat → Int) : Array Value := (Array.range 128).map fun i => .int .i64 (f i)
theorem tcs_size (f : Nat → Int) : (tcs f).size = 128 := by simp [tcs]
theorem tcs_get (f : Nat → Int) {i : Nat} (h : i < 128) : (tcs f)[i]? = some (.int .i64 (f i)) := by simp [tcs, h]
def upd (f : Nat → Int) (i : Nat) (v : Int) : Nat → Int := fun j => if j = i then v else f j
theorem tcs_set (f : Nat → Int) (i : Nat) (v : Int) : (tcs f).setIfInBounds i (.int .i64 v) = tcs (upd f i v) := by
  apply Array.ext_getElem?
  intro j
  by_cases hj : j < 128
  · rw [Array.getElem?_setIfInBounds, tcs_get _ hj, tcs_get _ hj]
    unfold upd
    by_cases he : i = j
    · subst he; simp [tcs_size, hj]
    · rw [if_neg he, if_neg (fun h => he h.symm)]
  · rw [Array.getElem?_eq_none (by simp [tcs_size]; omega), Array.getElem?_eq_none (by simp [tcs_size]; omega)]
theorem tcs_congr {f g : Nat → Int} (h : ∀ i, i < 128 → f i = g i) : tcs f = tcs g := by
  apply Array.ext_getElem?
  intro j
  by_cases hj : j < 128
  · rw [tcs_get _ hj, tcs_get _ hj, h j hj]
  · rw [Array.getElem?_eq_none (by simp [tcs_size]; omega), Array.getElem?_eq_none (by simp [tcs_size]; omega)]
theorem tcs_inj {f g : Nat → Int} (h : tcs f = tcs g) : ∀ i, i < 128 → f i = g i := by
  intro i hi
  have h1 := congrArg (·[i]?) h
  simp only [tcs_get f hi, tcs_get g hi, Option.some.injEq, Value.int.injEq, true_and] at h1
  exact h1
/-- The owners alone. -/
def ocs (f : Nat → Int) : Array Value := (Array.range 64).map fun i => .int .i64 (f i)
theorem ocs_size (f : Nat → Int) : (ocs f).size = 64 := by simp [ocs]
theorem ocs_get (f : Nat → Int) {i : Nat} (h : i < 64) : (ocs f)[i]? = some (.int .i64 (f i)) := by simp [ocs, h]

/-- Block b of w is a table. -/
def TabAt (w : World) (b : Nat) (f : Nat → Int) : Prop := Blk w b 24 (tcs f)
section
variable {w : World} {b : Nat} {f : Nat → Int}
theorem TabAt.cell (h : TabAt w b f) {i : Nat} (hi : i < 128) : w.cell? ⟨b, i, none⟩ = some (.int .i64 (f i)) := (Blk.cell h i).trans (tcs_get f hi)
theorem load_cells {P : Program} (t : TypeId) (ie : TypeInfo) (hie : P.info? t = some ie) (hagg : ∀ w, (isAgg t).run P w = .ok true w) (cs : Array Value) (hs : cs.size = ie.size)
    (hc : ∀ j v, cs[j]? = some v → w.cell? ⟨b, j, none⟩ = some v) : (loadVar t ⟨b, 0, none⟩).run P w = .ok (.agg cs) w := by
  have h1 := run_loadCells_list (P := P) w ⟨b, 0, none⟩ cs.toList (fun j v hj => by
    rw [Addr.add_lit, Nat.zero_add]; exact hc j v (by simpa using hj))
  have h2 : cs.toList.length = ie.size := by simpa using hs
  rw [h2] at h1
  simp [loadVar, hagg, sizeOf, typeInfo, hie, h1, Result.andThen]
theorem infoTab : (Tryd.prog.info? 24).map (·.size) = some 128 := by kernel_rfl
theorem infoArr : (Tryd.prog.info? 22).map (·.size) = some 64 := by kernel_rfl
theorem aggTab (w : World) : (isAgg 24).run Tryd.prog w = .ok true w := by kernel_rfl
theorem aggArr (w : World) : (isAgg 22).run Tryd.prog w = .ok true w := by kernel_rfl
theorem TabAt.load (h : TabAt w b f) : (loadVar 24 ⟨b, 0, none⟩).run Tryd.prog w = .ok (.agg (tcs f)) w := by
  obtain ⟨i, hi, hs⟩ := Option.map_eq_some_iff.1 infoTab
  exact load_cells _ i hi aggTab _ (by rw [hs, tcs_size]) (fun j v hj => (Blk.cell h j).trans hj)
theorem TabAt.owners (h : TabAt w b f) : (loadVar 22 ⟨b, 0, none⟩).run Tryd.prog w = .ok (.agg (ocs f)) w := by
  obtain ⟨i, hi, hs⟩ := Option.map_eq_some_iff.1 infoArr
  refine load_cells _ i hi aggArr _ (by rw [hs, ocs_size]) (fun j v hj => ?_)
  have hj64 : j < 64 := by have := (Array.getElem?_eq_some_iff.1 hj).1; rwa [ocs_size] at this
  rw [ocs_get f hj64] at hj
  cases hj
  exact h.cell (by omega)
end

section
variable {P : Program} (w : World) {ops : Array Oper} {rest : List Oper} {o : Oper} {a : Act} {Q : Exit → Act → World → Prop}
theorem wpList_loadv (hg : o.guard = none) (t : TypeId) (x : Operand) (hop : o.op = Op.load t x) {b : Addr} {v : Value} (hx : a.eval x = .pointer (some b)) (hl : (loadVar t b).run P w = .ok v w)
    (hK : wpList P ops Q rest (a.put o.dst v) w) : wpList P ops Q (o :: rest) a w := by
  refine wpList_plain hg fun K' hK' => ?_
  unfold Oper.wp
  simp [execOp, hop, hx, Instr.loadAt, Instr.sureAddr, hl, Result.andThen]
  exact hK' _ _ hK
theorem wpList_storev (hg : o.guard = none) (t : TypeId) (x y : Operand) (hop : o.op = Op.store t x y) {b : Addr} {v : Value} {w' : World} (hx : a.eval x = .pointer (some b)) (hy : a.eval y = v) (hl : (storeVar t b v).run P w = .ok () w')
    (hK : wpList P ops Q rest (a.put o.dst undef) w') : wpList P ops Q (o :: rest) a w := by
  refine wpList_plain hg fun K' hK' => ?_
  unfold Oper.wp
  simp [execOp, hop, hx, hy, Instr.storeAt, Instr.sureAddr, hl, Result.andThen]
  exact hK' _ _ hK
end

/-- The slots of somebody. -/
def ofN (f : Nat → Int) (who : Int) : Nat := mask (fun i => f i == who) 64
theorem ofN_lt (f : Nat → Int) (who : Int) : ofN f who < 2 ^ 64 := mask_lt _ _
theorem shl_u64 {k : Nat} (hk : k < 64) : IntKind.u64.wrap (2 ^ k) = ((2 ^ k : Nat) : Int) := by
  have h2 : 2 ^ k < 18446744073709551616 := Nat.pow_lt_pow_right (n := 64) (by decide) hk
  rw [IntKind.wrap_u64]
  have h3 : ((2 : Int) ^ k) = ((2 ^ k : Nat) : Int) := by simp
  rw [h3]
  exact Int.emod_eq_of_lt (Int.natCast_nonneg _) (Int.ofNat_lt.2 h2)
theorem mask_succ_or {p : Nat → Bool} {k : Nat} (hk : k < 64) (hp : p k = true) : bits .or .u64 ((mask p k : Nat) : Int) ((2 ^ k : Nat) : Int) = ((mask p (k + 1) : Nat) : Int) := by
  have h1 : mask p k < 2 ^ 64 := Nat.lt_of_lt_of_le (mask_lt p k) (Nat.pow_le_pow_right (by decide) (by omega))
  have h2 : 2 ^ k < 2 ^ 64 := Nat.pow_lt_pow_right (by decide) hk
  rw [u64_or_nat _ _ h1 h2]
  simp [mask, hp]
theorem mask_succ_no {p : Nat → Bool} {k : Nat} (hp : p k = false) : mask p k = mask p (k + 1) := by simp [mask, hp]

theorem run_index_owners (f : Nat → Int) {k : Nat} (hk : k < 64) (w : World) : (Instr.index 22 (.agg (ocs f)) (.int .i64 (k : Int))).run Tryd.prog w = .ok (.int .i64 (f k)) w := by
  have hg := ocs_get f hk
  have hs : ∀ w, (sizeOf 3).run Tryd.prog w = .ok 1 w := fun w => by kernel_rfl
  have ha : ∀ w, (isAgg 3).run Tryd.prog w = .ok false w := fun w => by kernel_rfl
  have h1 : (0 : Int) ≤ (k : Int) ∧ (k : Int) < 64 := by omega
  simp [Instr.index, asIntOf, run_underlying Tryd.underlying22, h1, hs, part, ha, hg, hk, Result.andThen]
set_option maxRecDepth 100000 in
set_option maxHeartbeats 1000000 in
theorem of_calls (w : World) (f : Nat → Int) (who : Int) : Calls Tryd.prog 17 #[.agg (tcs f), .int .i64 who] w fun e w' => e = .returned (.int .u64 (ofN f who : Int)) ∧ Chg (fun _ => False) w w' := by
  have hT : TabAt (w.alloc (.cells (tcs f) 24)) w.heap.size f := Blk.new _ _ _
  have hl := hT.owners
  have HC := hideIt ((Chg.refl (fun _ => False) w).alloc (.cells (tcs f) 24))
  go_enter Tryd.func17, Tryd.ntmps17
  go_wp2_with (refine wpList_loadv _ rfl 22 _ rfl rfl hl ?_)
  clear hl hT
  go_loop [5, 10] (fun s i => ∃ k : Nat, k ≤ 64 ∧ i = .int .i64 k ∧ s = .int .u64 ((mask (fun i => f i == who) k : Nat) : Int)) (fun _ i => 64 - (intOf i).toNat)
  case atStart => exact ⟨0, by omega, rfl, rfl⟩
  case round =>
    obtain ⟨k, hk, rfl, rfl⟩ := hrel
    by_cases hlt : k < 64
    · have hix := fun w => run_index_owners f hlt w
      have hsh := shl_u64 hlt
      cases hp : f k == who with
      | true =>
        have hor := mask_succ_or (p := fun i => f i == who) hlt hp
        have HOR := hideIt ((congrArg (bits .or .u64 _) hsh).trans hor)
        clear hsh hor
        go_wp2
        exact ⟨⟨k + 1, by omega, by go_num, by rw [HOR.out]⟩, by simp [intOf]; omega⟩
      | false =>
        have HNO := hideIt (mask_succ_no (p := fun i => f i == who) hp)
        clear hsh
        go_wp2
        exact ⟨⟨k + 1, by omega, by go_num, by rw [HNO.out]⟩, by simp [intOf]; omega⟩
    · obtain rfl : k = 64 := by omega
      go_wp2
      go_ret
      exact ⟨rfl, HC.out⟩
end Go.Proofs.YtgmekeeemimnpaaDoor
