/- Package report's Forget, walked. -/
import Derived.Test.YtgmekeeemimnpaaRpA
namespace Go.Proofs.Ytgmekeeemimnpaa
open Go Go.Maps Go.MapKept Go.RowKit

section
variable {w : World} {b m : Nat} {win : Int} {L : List (Pr × Int)}
set_option maxHeartbeats 2000000 in
theorem forget_calls (id : Int) (h : BookAt w b m win L) (hL : L.length ≤ 1000000) (r : Nat) (hr : r + (L.filter (fun p => !forgB id p)).length = L.length) :
    Calls Try.prog 67 #[.pointer (some ⟨b, 0, none⟩), .int .i64 id] w (BookE w b m win (L.filter (fun p => !forgB id p)) (.int .i64 (r : Int))) := by
  have hml := h.2.1.lt
  have hC : Chg (fun _ => False) w (w.alloc (.cells #[.int .i64 id] 3)) := (Chg.refl _ w).alloc _
  have h1 := h.new hC
  have c0 : (w.alloc (.cells #[.int .i64 id] 3)).cell? ⟨w.heap.size, 0, none⟩ = some (.int .i64 id) := (Blk.new w 3 #[.int .i64 id]).cell 0
  have HR := hideIt (remove_calls h1 hL 106 #[.pointer (some ⟨w.heap.size, 0, none⟩)] (forgB id) (enters_of Try.func106 (by kernel_rfl) rfl) (fun W a y t hc _ =>
    forget1_calls w.heap.size id a y t ((hc.cell (p := ⟨w.heap.size, 0, none⟩) (by simp) (show ¬ w.heap.size = m by omega)).trans c0) (by have := hc.size; simp at this; omega)) r hr)
  have HC := hideIt hC
  clear h h1 hC hL hr c0
  go_enter Try.func67, Try.ntmps67
  go_wp2_with fail
  refine HR.out.mono ?_
  rintro e w1 ⟨rfl, b1, k1⟩
  go_wp2
  go_ret
  exact ⟨rfl, b1, (HC.out.mono (fun _ h => h.elim)).trans k1⟩
end
end Go.Proofs.Ytgmekeeemimnpaa
