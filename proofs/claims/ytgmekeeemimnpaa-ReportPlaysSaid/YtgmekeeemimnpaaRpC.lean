/- Package report's Expire, walked. -/
import Derived.Test.YtgmekeeemimnpaaRpB
namespace Go.Proofs.Ytgmekeeemimnpaa
open Go Go.Maps Go.MapKept Go.RowKit

section
variable {w : World} {b m : Nat} {win : Int} {L : List (Pr × Int)}
/-- What Expire takes away. -/
def expB (win now : Int) (p : Pr × Int) : Bool := !countsB win p.2 now
set_option maxHeartbeats 2000000 in
theorem expire1_calls (g g2 : Nat) (now a y t : Int) (ht : 0 ≤ t ∧ t ≤ 1099511627776) (hn : -9223372036854775808 ≤ now ∧ now ≤ 9223372036854775807) (hb : Blk w b 139 #[.int .i64 win, .map (some m)]) (c0 : w.cell? ⟨g, 0, none⟩ = some (.pointer (some ⟨b, 0, none⟩))) (hg : g < w.heap.size) (c1 : w.cell? ⟨g2, 0, none⟩ = some (.int .i64 now)) (hg2 : g2 < w.heap.size) :
    Calls Try.prog 105 #[.agg #[.int .i64 a, .int .i64 y], .int .i64 t, .pointer (some ⟨g, 0, none⟩), .pointer (some ⟨g2, 0, none⟩)] w fun e w' => e = .returned (.bool (expB win now ((a, y), t))) ∧ Chg (fun _ => False) w w' := by
  have hC : Chg (fun _ => False) w (w.alloc (.cells #[.int .i64 a, .int .i64 y] 141)) := (Chg.refl _ w).alloc _
  have p0 := (hC.cell (p := ⟨g, 0, none⟩) hg (fun h => h)).trans c0
  have p1 := (hC.cell (p := ⟨g2, 0, none⟩) hg2 (fun h => h)).trans c1
  have HCO := hideIt (counts_calls t now ht hn (hb.chg hC (fun h => h)))
  have HC := hideIt hC
  obtain ⟨r, hr⟩ : ∃ r, countsB win t now = r := ⟨_, rfl⟩
  rw [hr] at HCO
  have H : Hid (expB win now ((a, y), t) = !r) := hideIt (by unfold expB; rw [hr])
  clear hr hC c0 c1 hb
  go_enter Try.func105, Try.ntmps105
  go_wp2_with (go_at_call 102; refine HCO.out.mono ?_; rintro e w3 ⟨rfl, rfl⟩)
  go_ret
  exact ⟨ret_bool H.out.symm, HC.out⟩
set_option maxHeartbeats 2000000 in
theorem expire_calls (now : Int) (hn : -9223372036854775808 ≤ now ∧ now ≤ 9223372036854775807) (h : BookAt w b m win L) (hL : L.length ≤ 1000000) (r : Nat) (hr : r + (L.filter (fun p => !expB win now p)).length = L.length) :
    Calls Try.prog 66 #[.pointer (some ⟨b, 0, none⟩), .int .i64 now] w (BookE w b m win (L.filter (fun p => !expB win now p)) (.int .i64 (r : Int))) := by
  have hml := h.2.1.lt
  have hbl := h.1.lt
  have hne := h.ne
  obtain ⟨wB, hwB⟩ : ∃ wB, wB = (w.alloc (.cells #[.pointer (some ⟨b, 0, none⟩)] 57)).alloc (.cells #[.int .i64 now] 3) := ⟨_, rfl⟩
  have hC : Chg (fun _ => False) w wB := by rw [hwB]; exact ((Chg.refl _ w).alloc _).alloc _
  have h1 := h.new hC
  have c0 : wB.cell? ⟨w.heap.size, 0, none⟩ = some (.pointer (some ⟨b, 0, none⟩)) := by rw [hwB]; exact ((Blk.new w 57 #[.pointer (some ⟨b, 0, none⟩)]).alloc _).cell 0
  have c1 : wB.cell? ⟨w.heap.size + 1, 0, none⟩ = some (.int .i64 now) := by rw [hwB]; exact (blk_at (by simp) (Blk.new (w.alloc (.cells #[.pointer (some ⟨b, 0, none⟩)] 57)) 3 #[.int .i64 now])).cell 0
  have hsz : wB.heap.size = w.heap.size + 2 := by rw [hwB]; simp
  have HR := hideIt (remove_calls h1 hL 105 #[.pointer (some ⟨w.heap.size, 0, none⟩), .pointer (some ⟨w.heap.size + 1, 0, none⟩)] (expB win now) (enters_of Try.func105 (by kernel_rfl) rfl) (fun W a y t hc hmem =>
    expire1_calls w.heap.size (w.heap.size + 1) now a y t (h.2.2.2 _ hmem).2.2 hn (h1.1.chg hc hne.symm) ((hc.cell (p := ⟨w.heap.size, 0, none⟩) (by simp; omega) (show ¬ w.heap.size = m by omega)).trans c0) (by have := hc.size; omega) ((hc.cell (p := ⟨w.heap.size + 1, 0, none⟩) (by simp; omega) (show ¬ w.heap.size + 1 = m by omega)).trans c1) (by have := hc.size; omega)) r hr)
  have k0 := c0
  rw [hwB] at HR k0
  have HC := hideIt hC
  have HW := hideIt hwB
  clear h h1 hC hL hr c0 c1 hsz hwB
  go_enter Try.func66, Try.ntmps66
  go_wp2_with fail
  refine HR.out.mono ?_
  rintro e w1 ⟨rfl, b1, k1⟩
  go_wp2
  go_ret
  have hc := HC.out
  rw [HW.out] at hc
  exact ⟨rfl, b1, (hc.mono (fun _ h => h.elim)).trans k1⟩
end
end Go.Proofs.Ytgmekeeemimnpaa

