/- Tables made and stored; Right, right, Has, id, epoch walked. -/
import Derived.Test.YtgmekeeemimnpaaDoorC3
import Derived.Laws.CopyRow
namespace Go.Proofs.YtgmekeeemimnpaaDoor
open Go Go.Maps Go.MapKept Go.RowKit

theorem ret_int {k : IntKind} {a b : Int} (h : a = b) : Ending.returned (.int k a) = .returned (.int k b) := by rw [h]
theorem ret_bool {a b : Bool} (h : a = b) : Ending.returned (.bool a) = .returned (.bool b) := by rw [h]

def zeroT : Nat → Int := fun _ => 0
theorem zero_tab (w : World) : (zeroValue 24).run Tryd.prog w = .ok (.agg (tcs zeroT)) w := by kernel_rfl
theorem build_tab (w : World) : (Instr.build 24 #[]).run Tryd.prog w = .ok (.agg (tcs zeroT)) w := by kernel_rfl
theorem tab_one (f : Nat → Int) : ∀ v ∈ (tcs f).toList, v.oneCell' = true := by
  intro v hv
  unfold tcs at hv
  simp at hv
  obtain ⟨i, _, rfl⟩ := hv
  rfl
theorem TabAt.store {w : World} {b : Nat} {f : Nat → Int} (h : TabAt w b f) (g : Nat → Int) :
    ∃ w', (storeVar 24 ⟨b, 0, none⟩ (.agg (tcs g))).run Tryd.prog w = .ok () w' ∧ TabAt w' b g ∧ Chg (fun i => i = b) w w' ∧ w'.heap.size = w.heap.size := by
  obtain ⟨i, hi, hs⟩ := Option.map_eq_some_iff.1 infoTab
  have h1 := run_storeCells_at Tryd.prog b 0 24 (tcs g).toList 0 (tcs f) w h (by simp [tcs_size]) (tab_one g)
  have e : (List.take (0 + 0) (tcs f).toList ++ (tcs g).toList ++ List.drop (0 + 0 + (tcs g).toList.length) (tcs f).toList).toArray = tcs g := by
    rw [List.drop_eq_nil_of_le (by simp [tcs_size])]
    simp
  rw [e] at h1
  refine ⟨w.setRow b (tcs g), ?_, setRow_heap w b (tcs f) (tcs g) _ _ h, ⟨rfl, rfl, rfl, by simp, fun i _ hne => setRow_other w b i _ hne⟩, by simp⟩
  simp [storeVar, Value.cells, sizeOf, typeInfo, hi, hs, tcs_size, h1, Result.andThen]

section
variable {P : Program} (w : World) {ops : Array Oper} {rest : List Oper} {o : Oper} {a : Act} {Q : Exit → Act → World → Prop}
theorem wpList_allocv (hg : o.guard = none) (t : TypeId) (hop : o.op = Op.alloc t) {v : Value} (hz : (zeroValue t).run P w = .ok v w)
    (hK : wpList P ops Q rest (a.put o.dst (.pointer (some ⟨w.heap.size, 0, none⟩))) (w.alloc (.cells v.cells t))) : wpList P ops Q (o :: rest) a w := by
  refine wpList_plain hg fun K' hK' => ?_
  unfold Oper.wp
  simp [execOp, hop, Instr.alloc, hz, newVar, newRow, Result.andThen]
  exact hK' _ _ hK
theorem wpList_buildv (hg : o.guard = none) (t : TypeId) (hop : o.op = Op.build t #[]) {v : Value} (hz : (Instr.build t #[]).run P w = .ok v w)
    (hK : wpList P ops Q rest (a.put o.dst v) w) : wpList P ops Q (o :: rest) a w := by
  refine wpList_plain hg fun K' hK' => ?_
  unfold Oper.wp
  simp [execOp, hop, hz, Result.andThen]
  exact hK' _ _ hK
end

/-- Is slot i of a table right? -/
def ok1 (f : Nat → Int) (i : Nat) : Bool := decide (0 ≤ f i) && decide (f i ≤ 4294967296) && decide (0 ≤ f (64 + i)) && decide (f (64 + i) ≤ 281474976710656) && !(decide (f i = 0) && decide (f (64 + i) ≠ 0))
def rightT (f : Nat → Int) : Bool := (List.range 64).all fun i => ok1 f i
theorem rightT_true {f : Nat → Int} (h : ∀ i, i < 64 → ok1 f i = true) : rightT f = true := by
  unfold rightT
  rw [List.all_eq_true]
  intro i hi
  exact h i (List.mem_range.1 hi)
theorem rightT_false {f : Nat → Int} {i : Nat} (hi : i < 64) (h : ok1 f i = false) : rightT f = false := by
  unfold rightT
  rw [List.all_eq_false]
  exact ⟨i, List.mem_range.2 hi, by simp [h]⟩

set_option maxRecDepth 100000 in
set_option maxHeartbeats 2000000 in
theorem right_calls (w : World) (f : Nat → Int) : Calls Tryd.prog 19 #[.agg (tcs f)] w fun e w' => e = .returned (.bool (rightT f)) ∧ Chg (fun _ => False) w w' := by
  have hT : TabAt (w.alloc (.cells (tcs f) 24)) w.heap.size f := Blk.new _ _ _
  have hl := hT.owners
  have HC := hideIt ((Chg.refl (fun _ => False) w).alloc (.cells (tcs f) 24))
  have HT := hideIt hT
  clear hT
  go_enter Tryd.func19, Tryd.ntmps19
  go_wp2_with (refine wpList_loadv _ rfl 22 _ rfl rfl hl ?_)
  clear hl
  go_loop [7] (fun i => ∃ k : Nat, k ≤ 64 ∧ i = .int .i64 k ∧ ∀ j, j < k → ok1 f j = true) (fun i => 64 - (intOf i).toNat)
  case atStart => exact ⟨0, by omega, rfl, fun j hj => absurd hj (by omega)⟩
  case round =>
    obtain ⟨k, hk, rfl, hall⟩ := hrel
    have HA := hideIt hall
    clear hall
    by_cases hlt : k < 64
    · have hix := fun w => run_index_owners f hlt w
      have hce := HT.out.cell (show 64 + k < 128 by omega)
      have hko := hideIt (show ok1 f k = (decide (0 ≤ f k) && decide (f k ≤ 4294967296) && decide (0 ≤ f (64 + k)) && decide (f (64 + k) ≤ 281474976710656) && !(decide (f k = 0) && decide (f (64 + k) ≠ 0))) from rfl)
      have HIX := hideIt hix
      obtain ⟨x, hx⟩ : ∃ x, f k = x := ⟨_, rfl⟩
      obtain ⟨y, hy⟩ : ∃ y, f (64 + k) = y := ⟨_, rfl⟩
      rw [hy] at hce hko
      simp only [hx] at hix hko
      have hok := hko.out
      by_cases a1 : x < 0
      · have b1 : decide (x < 0) = true := by simpa using a1
        have HF := hideIt (rightT_false hlt (show ok1 f k = false by rw [hok]; simp; omega))
        clear hok hko hx hy
        go_wp2
        go_ret
        exact ⟨ret_bool HF.out.symm, HC.out⟩
      have b1 : decide (x < 0) = false := by simpa using a1
      by_cases a2 : x > 4294967296
      · have b2 : decide (x > 4294967296) = true := by simpa using a2
        have HF := hideIt (rightT_false hlt (show ok1 f k = false by rw [hok]; simp; omega))
        clear hok hko hx hy
        go_wp2
        go_ret
        exact ⟨ret_bool HF.out.symm, HC.out⟩
      have b2 : decide (x > 4294967296) = false := by simpa using a2
      by_cases a3 : y < 0
      · have b3 : decide (y < 0) = true := by simpa using a3
        have HF := hideIt (rightT_false hlt (show ok1 f k = false by rw [hok]; simp; omega))
        clear hok hko hx hy
        go_wp2
        go_ret
        exact ⟨ret_bool HF.out.symm, HC.out⟩
      have b3 : decide (y < 0) = false := by simpa using a3
      by_cases a4 : y > 281474976710656
      · have b4 : decide (y > 281474976710656) = true := by simpa using a4
        have HF := hideIt (rightT_false hlt (show ok1 f k = false by rw [hok]; simp; omega))
        clear hok hko hx hy
        go_wp2
        go_ret
        exact ⟨ret_bool HF.out.symm, HC.out⟩
      have b4 : decide (y > 281474976710656) = false := by simpa using a4
      by_cases a5 : x = 0
      · have b5 : (x == 0) = true := by simpa using a5
        by_cases a6 : y = 0
        · have b6 : (y == 0) = true := by simp; omega
          have HK := hideIt (show ok1 f k = true by rw [hok]; simp; omega)
          clear hok hko hx hy
          go_wp2
          exact ⟨⟨k + 1, by omega, by go_num, fun j hj => by
            rcases Nat.lt_or_ge j k with h1 | h1
            · exact HA.out j h1
            · obtain rfl : j = k := by omega
              exact HK.out⟩, by simp [intOf]; omega⟩
        · have b6 : (y == 0) = false := by simp; omega
          have HF := hideIt (rightT_false hlt (show ok1 f k = false by rw [hok]; simp; omega))
          clear hok hko hx hy
          go_wp2
          go_ret
          exact ⟨ret_bool HF.out.symm, HC.out⟩
      · have b5 : (x == 0) = false := by simpa using a5
        have HK := hideIt (show ok1 f k = true by rw [hok]; simp; omega)
        clear hok hko hx hy
        go_wp2
        exact ⟨⟨k + 1, by omega, by go_num, fun j hj => by
          rcases Nat.lt_or_ge j k with h1 | h1
          · exact HA.out j h1
          · obtain rfl : j = k := by omega
            exact HK.out⟩, by simp [intOf]; omega⟩
    · obtain rfl : k = 64 := by omega
      have HR := hideIt (rightT_true HA.out)
      go_wp2
      go_ret
      exact ⟨ret_bool HR.out.symm, HC.out⟩

set_option maxRecDepth 100000 in
set_option maxHeartbeats 2000000 in
theorem lawright_calls (w : World) (f : Nat → Int) : Calls Tryd.prog 13 #[.agg (tcs f)] w fun e w' => e = .returned (.bool (rightT f)) ∧ Chg (fun _ => False) w w' := by
  have hT : TabAt (w.alloc (.cells (tcs f) 24)) w.heap.size f := Blk.new _ _ _
  have HC := hideIt ((Chg.refl (fun _ => False) w).alloc (.cells (tcs f) 24))
  have HT := hideIt hT
  clear hT
  go_enter Tryd.func13, Tryd.ntmps13
  go_wp2
  go_loop [4] (fun i => ∃ k : Nat, k ≤ 64 ∧ i = .int .i64 k ∧ ∀ j, j < k → ok1 f j = true) (fun i => 64 - (intOf i).toNat)
  case atStart => exact ⟨0, by omega, rfl, fun j hj => absurd hj (by omega)⟩
  case round =>
    obtain ⟨k, hk, rfl, hall⟩ := hrel
    have HA := hideIt hall
    clear hall
    by_cases hlt : k < 64
    · have hco := HT.out.cell (show k < 128 by omega)
      have hce := HT.out.cell (show 64 + k < 128 by omega)
      have hko := hideIt (show ok1 f k = (decide (0 ≤ f k) && decide (f k ≤ 4294967296) && decide (0 ≤ f (64 + k)) && decide (f (64 + k) ≤ 281474976710656) && !(decide (f k = 0) && decide (f (64 + k) ≠ 0))) from rfl)
      obtain ⟨x, hx⟩ : ∃ x, f k = x := ⟨_, rfl⟩
      obtain ⟨y, hy⟩ : ∃ y, f (64 + k) = y := ⟨_, rfl⟩
      rw [hy] at hce hko
      rw [hx] at hco
      simp only [hx] at hko
      have hok := hko.out
      by_cases a1 : x < 0
      · have b1 : decide (x < 0) = true := by simpa using a1
        have HF := hideIt (rightT_false hlt (show ok1 f k = false by rw [hok]; simp; omega))
        clear hok hko hx hy
        go_wp2
        go_ret
        exact ⟨ret_bool HF.out.symm, HC.out⟩
      have b1 : decide (x < 0) = false := by simpa using a1
      by_cases a2 : x > 4294967296
      · have b2 : decide (x > 4294967296) = true := by simpa using a2
        have HF := hideIt (rightT_false hlt (show ok1 f k = false by rw [hok]; simp; omega))
        clear hok hko hx hy
        go_wp2
        go_ret
        exact ⟨ret_bool HF.out.symm, HC.out⟩
      have b2 : decide (x > 4294967296) = false := by simpa using a2
      by_cases a3 : y < 0
      · have b3 : decide (y < 0) = true := by simpa using a3
        have HF := hideIt (rightT_false hlt (show ok1 f k = false by rw [hok]; simp; omega))
        clear hok hko hx hy
        go_wp2
        go_ret
        exact ⟨ret_bool HF.out.symm, HC.out⟩
      have b3 : decide (y < 0) = false := by simpa using a3
      by_cases a4 : y > 281474976710656
      · have b4 : decide (y > 281474976710656) = true := by simpa using a4
        have HF := hideIt (rightT_false hlt (show ok1 f k = false by rw [hok]; simp; omega))
        clear hok hko hx hy
        go_wp2
        go_ret
        exact ⟨ret_bool HF.out.symm, HC.out⟩
      have b4 : decide (y > 281474976710656) = false := by simpa using a4
      by_cases a5 : x = 0
      · have b5 : (x == 0) = true := by simpa using a5
        by_cases a6 : y = 0
        · have b6 : decide (y > 0) = false := by simp; omega
          have HK := hideIt (show ok1 f k = true by rw [hok]; simp; omega)
          clear hok hko hx hy
          go_wp2
          exact ⟨⟨k + 1, by omega, by go_num, fun j hj => by
            rcases Nat.lt_or_ge j k with h1 | h1
            · exact HA.out j h1
            · obtain rfl : j = k := by omega
              exact HK.out⟩, by simp [intOf]; omega⟩
        · have b6 : decide (y > 0) = true := by simp; omega
          have HF := hideIt (rightT_false hlt (show ok1 f k = false by rw [hok]; simp; omega))
          clear hok hko hx hy
          go_wp2
          go_ret
          exact ⟨ret_bool HF.out.symm, HC.out⟩
      · have b5 : (x == 0) = false := by simpa using a5
        have HK := hideIt (show ok1 f k = true by rw [hok]; simp; omega)
        clear hok hko hx hy
        go_wp2
        exact ⟨⟨k + 1, by omega, by go_num, fun j hj => by
          rcases Nat.lt_or_ge j k with h1 | h1
          · exact HA.out j h1
          · obtain rfl : j = k := by omega
            exact HK.out⟩, by simp [intOf]; omega⟩
    · obtain rfl : k = 64 := by omega
      have HR := hideIt (rightT_true HA.out)
      go_wp2
      go_ret
      exact ⟨ret_bool HR.out.symm, HC.out⟩

set_option maxHeartbeats 400000 in
theorem id_calls (w : World) (n : Int) : Calls Tryd.prog 14 #[.int .i64 n] w fun e w' => e = .returned (.bool (decide (1 ≤ n) && decide (n ≤ 4294967296))) ∧ w = w' := by
  by_cases a1 : n ≥ 1
  · have b1 : decide (n ≥ 1) = true := by simpa using a1
    go_enter Tryd.func14, Tryd.ntmps14
    go_wp2
    all_goals go_ret
    all_goals exact ⟨ret_bool (by simp; try omega), rfl⟩
  · have b1 : decide (n ≥ 1) = false := by simpa using a1
    go_enter Tryd.func14, Tryd.ntmps14
    go_wp2
    all_goals go_ret
    all_goals exact ⟨ret_bool (by simp; try omega), rfl⟩
set_option maxHeartbeats 400000 in
theorem epoch_calls (w : World) (n : Int) : Calls Tryd.prog 15 #[.int .i64 n] w fun e w' => e = .returned (.bool (decide (0 ≤ n) && decide (n ≤ 281474976710656))) ∧ w = w' := by
  by_cases a1 : n ≥ 0
  · have b1 : decide (n ≥ 0) = true := by simpa using a1
    go_enter Tryd.func15, Tryd.ntmps15
    go_wp2
    all_goals go_ret
    all_goals exact ⟨ret_bool (by simp; try omega), rfl⟩
  · have b1 : decide (n ≥ 0) = false := by simpa using a1
    go_enter Tryd.func15, Tryd.ntmps15
    go_wp2
    all_goals go_ret
    all_goals exact ⟨ret_bool (by simp; try omega), rfl⟩
end Go.Proofs.YtgmekeeemimnpaaDoor
