/- Layer 15's twin, walked: a stand that is taken. -/
import Derived.Test.YtgmekeeemimnpaaBP5
import Derived.Deep.RegionHeld3
namespace Go.Proofs.Ytgmekeeemimnpaa
open Go Go.Maps Go.MapKept Go.RowKit

theorem keepAct {w' : World} {g n c : Nat} {A : Option Addr} {how ep id now : Int} (h : Blk w' g 90 #[.int .i64 how, .int .i64 ep, .int .i64 id, .int .i64 now, .slice A n c]) : w'.cell? ⟨g, 1, none⟩ = some (.int .i64 ep) ∧ w'.cell? ⟨g, 3, none⟩ = some (.int .i64 now) ∧ w'.cell? ⟨g, 4, none⟩ = some (.slice A n c) := ⟨h.cell 1, h.cell 3, h.cell 4⟩
section
variable {base t : Nat} {F : Nat → Prop} {s : TwSt} {A : Option Addr} {n c : Nat} {vs : List Int} {how ep id now to : Int}
set_option maxRecDepth 100000 in
set_option maxHeartbeats 8000000 in
theorem tstand_ok (w : World) (h : Twin w base F t s) (hv : Ints w A n vs) (hn : n ≤ 100) (hs : standB vs ep now = true) (hoff : s.on = false ∨ s.un < now) (to1 : 2 ≤ to) (to2 : to ≤ 1073741824) :
    Calls Try.prog 77 #[.pointer (some ⟨t, 0, none⟩), .agg #[.int .i64 how, .int .i64 ep, .int .i64 id, .int .i64 now, .slice A n c], .int .i64 to] w (TStand w base F t { s with on := true, ep := ep, un := now + 2 * to, vs := vs, ys := [] }) := by
  obtain ⟨i0, hi, hz0, hz1', hz2'⟩ := info_parts infoIntB
  obtain ⟨wB, hwB⟩ : ∃ wB, wB = w.alloc (.cells #[.int .i64 how, .int .i64 ep, .int .i64 id, .int .i64 now, .slice A n c] 90) := ⟨_, rfl⟩
  have tB : Hid (Blk wB w.heap.size 90 #[.int .i64 how, .int .i64 ep, .int .i64 id, .int .i64 now, .slice A n c]) := hideIt (by rw [hwB]; exact Blk.new w _ _)
  have CB : Hid (Chg (fun _ => False) w wB) := hideIt (by rw [hwB]; exact (Chg.refl _ w).alloc _)
  have HB := hideIt hwB
  have HR := right_calls A n c vs wB (hv.new CB.out) (by omega)
  unfold standB at hs
  rw [Bool.and_eq_true, Bool.and_eq_true, decide_eq_true_eq] at hs
  obtain ⟨hr, ⟨h1, h2⟩, h3⟩ := hs
  obtain ⟨n1, n2⟩ := timeB_true h3
  rw [hr] at HR
  have HR := hideIt HR
  have HV := hideIt hv
  obtain ⟨⟨v1, v2, v3, v4, hb, ho⟩, hbt, hFt, hFl⟩ := h
  have HBk := hideIt hb
  have HO := hideIt ho
  have HF := hideIt hFt
  have HFL := hideIt hFl
  have HBT := hideIt hbt
  have hTC : ∀ w1, Chg (fun _ => False) w w1 → Blk w1 t 88 #[.bool s.on, .int .i64 s.ep, .int .i64 s.un, v1, v2, v3, v4] := fun w1 hc => HBk.out.chg hc (fun h => h)
  have HTC := hideIt hTC
  have hw1 : IntKind.i64.wrap (2 * to) = 2 * to := IntWalk.i64_in _ (by omega)
  have hw2 : IntKind.i64.wrap (now + 2 * to) = now + 2 * to := IntWalk.i64_in _ (by omega)
  have N1 : ([] : List Int).length + n ≤ 17592186043904 := by simp; omega
  obtain ⟨un, hun⟩ : ∃ un, s.un = un := ⟨_, rfl⟩
  obtain ⟨sep, hsep⟩ : ∃ sep, s.ep = sep := ⟨_, rfl⟩
  rw [hun] at hoff
  have HUN := hideIt hun
  have HSEP := hideIt hsep
  have HT := hb.lt
  obtain ⟨A1, q1, e1, -, -, -⟩ := ho.o1.slice
  obtain ⟨A2, q2, e2, -, -, -⟩ := ho.o2.slice
  clear hwB hv hr h3 hb ho hFt hFl hbt hTC hun hsep
  cases hon : s.on with
  | false =>
    have HON := hideIt hon
    clear hon hoff
    go_enter Try.func77, Try.ntmps77
    go_wp2_with (go_at_call 41; rw [← HB.out]; refine HR.out.mono ?_; rintro e w1 ⟨rfl, k1⟩; have t1' := tB.out.chg k1 (fun h => h); have f1 : w1.cell? ⟨w.heap.size, 1, none⟩ = some (.int .i64 ep) := t1'.cell 1; have f3 : w1.cell? ⟨w.heap.size, 3, none⟩ = some (.int .i64 now) := t1'.cell 3; have T1 := HTC.out w1 (CB.out.trans k1); rw [HON.out] at T1; have c0 : w1.cell? ⟨t, 0, none⟩ = some (.bool false) := T1.cell 0; clear t1' T1)
    go_quiet (fail)
    go_wp2
    have K1 : Hid (Chg (fun _ => False) wB (w1.drewN nq)) := hideIt (k1.drewN nq)
    generalize w1.drewN nq = W at *
    clear f1 f3 c0 k1
    have tW := tB.out.chg K1.out (fun h => h)
    have f1 : W.cell? ⟨w.heap.size, 1, none⟩ = some (.int .i64 ep) := tW.cell 1
    have f3 : W.cell? ⟨w.heap.size, 3, none⟩ = some (.int .i64 now) := tW.cell 3
    have f4 : W.cell? ⟨w.heap.size, 4, none⟩ = some (.slice A n c) := tW.cell 4
    have C1 : Hid (Chg (fun _ => False) w W) := hideIt (CB.out.trans K1.out)
    have HW := hideIt (HV.out.new C1.out)
    have hz1 : w.heap.size < W.heap.size := tW.lt
    have hz2 : t < W.heap.size := by have := tW.lt; omega
    have TW := hideIt tW
    clear tW
    have hz3 : ¬ w.heap.size = t := by omega
    have hz4 : ¬ t = w.heap.size := by omega
    have hz5 : ¬ w.heap.size = W.heap.size := by omega
    go_region_held3 (fun w' => w'.cell? ⟨w.heap.size, 1, none⟩ = some (.int .i64 ep) ∧ w'.cell? ⟨w.heap.size, 3, none⟩ = some (.int .i64 now) ∧ w'.cell? ⟨w.heap.size, 4, none⟩ = some (.slice A n c))
      (first
      | (refine keepAct (how := how) (id := id) ?_; repeat' (first | with_reducible exact U5.out | with_reducible exact TW.out | with_reducible refine Blk.far ?_ hz3 _ | with_reducible refine Blk.alloc ?_ _ | with_reducible refine Blk.drew ?_)))
      (first
      | (refine step_append_ints (v := .slice (some ⟨W.heap.size, 0, none⟩) 0 0) (xs := []) rfl _ _ 25 rfl i0 _ Try.underlying25 hi hz0 hz1' hz2' rfl rfl (OwnI.empty W.drew w.heap.size _ (by simpa using C1.out.size)) rfl ((HW.out.drew).alloc _) N1 (by have := C1.out.size; simp; omega) ?_; intro v5 w5 o5 g5 q5; obtain ⟨A5, k5, e5, -, -, -⟩ := o5.slice; obtain ⟨n5, hn5⟩ : ∃ n, ([] ++ vs).length = n := ⟨_, rfl⟩; rw [hn5] at e5; subst e5; clear hn5; have D5 : Chg (fun _ => False) W w5 := ((((Chg.refl _ W).drew).alloc _).grown g5 (fun i e => .inr (by cases e; exact Nat.le_refl _))); have C5 : Hid (Chg (fun _ => False) w w5) := hideIt (C1.out.trans D5); have T5 := HTC.out w5 C5.out; have y0 : w5.cell? ⟨t, 0, none⟩ = some (.bool s.on) := T5.cell 0; have y1 : w5.cell? ⟨t, 1, none⟩ = some (.int .i64 s.ep) := T5.cell 1; have y2 : w5.cell? ⟨t, 2, none⟩ = some (.int .i64 s.un) := T5.cell 2; have y3 : w5.cell? ⟨t, 3, none⟩ = some v1 := T5.cell 3; have y4 : w5.cell? ⟨t, 4, none⟩ = some v2 := T5.cell 4; have x0 := T5.frozen 0; have x1 := T5.frozen 1; have x2 := T5.frozen 2; have x3 := T5.frozen 3; have x4 := T5.frozen 4; have U5 := hideIt (TW.out.chg D5 (fun h => h)); have O5 := hideIt o5; clear T5 D5 o5 g5 q5))
    all_goals
      go_wp2
      go_ret
      exact tstand_fin HBT.out HF.out HFL.out HBk.out HO.out C5.out (by simpa using O5.out)
  | true =>
    have HON := hideIt hon
    have hd : decide (now ≤ un) = false := by
      rcases hoff with h | h
      · rw [h] at hon; cases hon
      · simp; omega
    clear hon hoff
    go_enter Try.func77, Try.ntmps77
    go_wp2_with (go_at_call 41; rw [← HB.out]; refine HR.out.mono ?_; rintro e w1 ⟨rfl, k1⟩; have t1' := tB.out.chg k1 (fun h => h); have f1 : w1.cell? ⟨w.heap.size, 1, none⟩ = some (.int .i64 ep) := t1'.cell 1; have f3 : w1.cell? ⟨w.heap.size, 3, none⟩ = some (.int .i64 now) := t1'.cell 3; have T1 := HTC.out w1 (CB.out.trans k1); rw [HON.out] at T1; have c0 : w1.cell? ⟨t, 0, none⟩ = some (.bool true) := T1.cell 0; rw [HUN.out] at T1; have c2 : w1.cell? ⟨t, 2, none⟩ = some (.int .i64 un) := T1.cell 2; clear t1' T1)
    go_quiet (fail)
    go_wp2
    have K1 : Hid (Chg (fun _ => False) wB (w1.drewN nq)) := hideIt (k1.drewN nq)
    generalize w1.drewN nq = W at *
    clear f1 f3 c0 c2 k1
    have tW := tB.out.chg K1.out (fun h => h)
    have f1 : W.cell? ⟨w.heap.size, 1, none⟩ = some (.int .i64 ep) := tW.cell 1
    have f3 : W.cell? ⟨w.heap.size, 3, none⟩ = some (.int .i64 now) := tW.cell 3
    have f4 : W.cell? ⟨w.heap.size, 4, none⟩ = some (.slice A n c) := tW.cell 4
    have C1 : Hid (Chg (fun _ => False) w W) := hideIt (CB.out.trans K1.out)
    have HW := hideIt (HV.out.new C1.out)
    have hz1 : w.heap.size < W.heap.size := tW.lt
    have hz2 : t < W.heap.size := by have := tW.lt; omega
    have TW := hideIt tW
    clear tW
    have hz3 : ¬ w.heap.size = t := by omega
    have hz4 : ¬ t = w.heap.size := by omega
    have hz5 : ¬ w.heap.size = W.heap.size := by omega
    go_region_held3 (fun w' => w'.cell? ⟨w.heap.size, 1, none⟩ = some (.int .i64 ep) ∧ w'.cell? ⟨w.heap.size, 3, none⟩ = some (.int .i64 now) ∧ w'.cell? ⟨w.heap.size, 4, none⟩ = some (.slice A n c))
      (first
      | (refine keepAct (how := how) (id := id) ?_; repeat' (first | with_reducible exact U5.out | with_reducible exact TW.out | with_reducible refine Blk.far ?_ hz3 _ | with_reducible refine Blk.alloc ?_ _ | with_reducible refine Blk.drew ?_)))
      (first
      | (refine step_append_ints (v := .slice (some ⟨W.heap.size, 0, none⟩) 0 0) (xs := []) rfl _ _ 25 rfl i0 _ Try.underlying25 hi hz0 hz1' hz2' rfl rfl (OwnI.empty W.drew w.heap.size _ (by simpa using C1.out.size)) rfl ((HW.out.drew).alloc _) N1 (by have := C1.out.size; simp; omega) ?_; intro v5 w5 o5 g5 q5; obtain ⟨A5, k5, e5, -, -, -⟩ := o5.slice; obtain ⟨n5, hn5⟩ : ∃ n, ([] ++ vs).length = n := ⟨_, rfl⟩; rw [hn5] at e5; subst e5; clear hn5; have D5 : Chg (fun _ => False) W w5 := ((((Chg.refl _ W).drew).alloc _).grown g5 (fun i e => .inr (by cases e; exact Nat.le_refl _))); have C5 : Hid (Chg (fun _ => False) w w5) := hideIt (C1.out.trans D5); have T5 := HTC.out w5 C5.out; have y0 : w5.cell? ⟨t, 0, none⟩ = some (.bool s.on) := T5.cell 0; have y1 : w5.cell? ⟨t, 1, none⟩ = some (.int .i64 s.ep) := T5.cell 1; have y2 : w5.cell? ⟨t, 2, none⟩ = some (.int .i64 s.un) := T5.cell 2; have y3 : w5.cell? ⟨t, 3, none⟩ = some v1 := T5.cell 3; have y4 : w5.cell? ⟨t, 4, none⟩ = some v2 := T5.cell 4; have x0 := T5.frozen 0; have x1 := T5.frozen 1; have x2 := T5.frozen 2; have x3 := T5.frozen 3; have x4 := T5.frozen 4; have U5 := hideIt (TW.out.chg D5 (fun h => h)); have O5 := hideIt o5; clear T5 D5 o5 g5 q5))
    all_goals
      go_wp2
      go_ret
      exact tstand_fin HBT.out HF.out HFL.out HBk.out HO.out C5.out (by simpa using O5.out)
end
end Go.Proofs.Ytgmekeeemimnpaa
