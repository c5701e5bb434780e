/- Package report's Forget, walked: what its closure tells. -/
import Derived.Test.YtgmekeeemimnpaaRp9
namespace Go.Proofs.Ytgmekeeemimnpaa
open Go Go.Maps Go.MapKept Go.RowKit

section
variable {w : World} {b m : Nat} {win : Int} {L : List (Pr × Int)}
/-- What Forget takes away. -/
def forgB (id : Int) (p : Pr × Int) : Bool := decide (p.1.1 = id) || decide (p.1.2 = id)
set_option maxHeartbeats 2000000 in
theorem forget1_calls (g : Nat) (id a y t : Int) (h : w.cell? ⟨g, 0, none⟩ = some (.int .i64 id)) (hg : g < w.heap.size) :
    Calls Try.prog 106 #[.agg #[.int .i64 a, .int .i64 y], .int .i64 t, .pointer (some ⟨g, 0, none⟩)] w fun e w' => e = .returned (.bool (forgB id ((a, y), t))) ∧ Chg (fun _ => False) w w' := by
  obtain ⟨wB, hwB⟩ : ∃ wB, wB = w.alloc (.cells #[.int .i64 a, .int .i64 y] 141) := ⟨_, rfl⟩
  have hC : Chg (fun _ => False) w wB := by rw [hwB]; exact (Chg.refl _ w).alloc _
  have p0 : wB.cell? ⟨w.heap.size, 0, none⟩ = some (.int .i64 a) := by rw [hwB]; exact (Blk.new w 141 #[.int .i64 a, .int .i64 y]).cell 0
  have p1 : wB.cell? ⟨w.heap.size, 1, none⟩ = some (.int .i64 y) := by rw [hwB]; exact (Blk.new w 141 #[.int .i64 a, .int .i64 y]).cell 1
  have p2 : wB.cell? ⟨g, 0, none⟩ = some (.int .i64 id) := (hC.cell (p := ⟨g, 0, none⟩) hg (fun h => h)).trans h
  rw [hwB] at p0 p1 p2 hC
  have HC := hideIt hC
  clear hwB hC h
  by_cases h1 : a = id
  · have H : Hid (forgB id ((a, y), t) = true) := hideIt (by unfold forgB; simp [h1])
    have d1 : (a == id) = true := by simpa using h1
    clear h1
    go_enter Try.func106, Try.ntmps106
    go_wp2
    go_ret
    exact ⟨ret_bool H.out.symm, HC.out⟩
  · have d1 : (a == id) = false := by simpa using h1
    by_cases h2 : y = id
    · have H : Hid (forgB id ((a, y), t) = true) := hideIt (by unfold forgB; simp [h2])
      have d2 : (y == id) = true := by simpa using h2
      clear h1 h2
      go_enter Try.func106, Try.ntmps106
      go_wp2
      go_ret
      exact ⟨ret_bool H.out.symm, HC.out⟩
    · have H : Hid (forgB id ((a, y), t) = false) := hideIt (by unfold forgB; simp [h1, h2])
      have d2 : (y == id) = false := by simpa using h2
      clear h1 h2
      go_enter Try.func106, Try.ntmps106
      go_wp2
      go_ret
      exact ⟨ret_bool H.out.symm, HC.out⟩
end
end Go.Proofs.Ytgmekeeemimnpaa

