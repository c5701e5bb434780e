/- QuorumOrder, walked: the order of voters, and of those who say yes, plays no part. -/
import Derived.Test.YtgmekeeemimnpaaQGrows
import Derived.Deep.RegionLaw
namespace Go.Proofs.Ytgmekeeemimnpaa
open Go Go.Maps Go.MapKept Go.RowKit

set_option maxRecDepth 100000 in
set_option maxHeartbeats 1000000 in
theorem turn_calls (g : Nat) (at_ : Int) (A : Option Addr) (n c : Nat) (xs : List Int) (w : World) (h : Ints w A n xs) (hnc : n ≤ c) (hn : n ≤ 60) (hat : 0 ≤ at_) (hok : okI at_) (hcell : w.cell? ⟨g, 0, none⟩ = some (.int .i64 at_)) :
    Calls Try.prog 40 #[.slice A n c, .pointer (some ⟨g, 0, none⟩)] w fun e w' =>
      ∃ (v : Value) (k : Nat), e = .returned v ∧ k ≤ n ∧ OwnI w' w.heap.size 3 v (xs.drop k ++ xs.take k) ∧ Chg (fun _ => False) w w' := by
  obtain ⟨i0, hi, hz0, hz1, hz2⟩ := info_parts infoInt
  have hb := okI_iff.1 hok
  obtain ⟨hb1, hb2⟩ := hb
  have hlen := h.len
  obtain ⟨k, hk⟩ : ∃ k : Nat, at_ % ((n : Int) + 1) = k := ⟨(at_ % ((n : Int) + 1)).toNat, by have := Int.emod_nonneg at_ (show ((n : Int) + 1) ≠ 0 by omega); omega⟩
  have hkn : k ≤ n := by have := Int.emod_lt_of_pos at_ (show 0 < (n : Int) + 1 by omega); omega
  have hcf := fun W => run_cut_from Try.underlying25 sizeInt W A n c k hkn
  have hct := fun W => run_cut_to Try.underlying25 sizeInt W A n c k (by omega)
  go_enter Try.func40, Try.ntmps40
  go_wp2_with fail
  have tok1 : True := trivial
  have hK := hideIt hk
  have hN : ([] : List Int).length + (n - k) ≤ 17592186043904 := by simp; omega
  have hN2 : ([] ++ xs.drop k).length + k ≤ 17592186043904 := by simp; omega
  have hB : w.heap.size ≤ ((w.drew).alloc (.cells #[] 3)).heap.size := by simp
  have i1 : Ints ((w.drew).alloc (.cells #[] 3)) (cutA A c k) (n - k) (xs.drop k) := ((h.drop hkn hnc).drew).alloc _
  have o1 : OwnI ((w.drew).alloc (.cells #[] 3)) w.heap.size 3 (.slice (some ⟨w.heap.size, 0, none⟩) 0 0) [] := OwnI.empty w.drew w.heap.size 3 (Nat.le_refl _)
  go_region_law (first
    | (have _t := tok1; refine step_append_ints rfl _ _ 25 rfl i0 _ Try.underlying25 hi hz0 hz1 hz2 rfl rfl o1 rfl i1 hN hB ?_; intro v2 w2 o2 g2 l2; clear tok1; have c2 : Chg (fun _ => False) w w2 := (((Chg.refl (fun _ => False) w).drew).alloc _).grown g2 (fun i e => .inr (by cases e; exact Nat.le_refl _)))
    | (refine step_append_ints rfl _ _ 25 rfl i0 _ Try.underlying25 hi hz0 hz1 hz2 rfl rfl o2 rfl ((h.take hkn).new c2) hN2 (Nat.le_trans hB g2.size) ?_; intro v3 w3 o3 g3 l3))
  go_wp2
  go_ret
  refine ⟨v3, k, rfl, hkn, by simpa using o3, c2.grown g3 (fun i e => .inr (o2.base_le e))⟩

/-- What a turn answers. -/
def TurnOk (w : World) (n : Nat) (xs : List Int) (e : Ending) (w' : World) : Prop :=
  ∃ (A : Option Addr) (c : Nat) (ys : List Int), e = .returned (.slice A n c) ∧ Ints w' A n ys ∧ xs.Perm ys ∧ Chg (fun _ => False) w w'
theorem turn_ok (g : Nat) (at_ : Int) (A : Option Addr) (n c : Nat) (xs : List Int) (w : World) (h : Ints w A n xs) (hnc : n ≤ c) (hn : n ≤ 60) (hat : 0 ≤ at_) (hok : okI at_) (hcell : w.cell? ⟨g, 0, none⟩ = some (.int .i64 at_)) :
    Calls Try.prog 40 #[.slice A n c, .pointer (some ⟨g, 0, none⟩)] w (TurnOk w n xs) := by
  refine (turn_calls g at_ A n c xs w h hnc hn hat hok hcell).mono ?_
  rintro e w' ⟨v, k, rfl, hk, ho, hc⟩
  obtain ⟨A', c', hv, _, _, _⟩ := ho.slice
  have hl : (xs.drop k ++ xs.take k).length = n := by have := h.len; simp; omega
  rw [hl] at hv
  have hp : xs.Perm (xs.drop k ++ xs.take k) := by
    conv => lhs; rw [← List.take_append_drop k xs]
    exact List.perm_append_comm
  refine ⟨A', c', _, by rw [hv], ho.ints (fun x hx => h.ok x (hp.mem_iff.2 hx)) hv, hp, hc⟩

set_option maxRecDepth 100000 in
set_option maxHeartbeats 4000000 in
theorem order_calls {A B : Option Addr} {n m c d : Nat} {vs ys : List Int} {q : Int} (w : World) (hv : Ints w A n vs ∧ n ≤ c ∧ c ≤ maxLen) (hy : Ints w B m ys ∧ m ≤ d ∧ d ≤ maxLen) (hq : okI q) :
    Calls Try.prog 8 #[.slice A n c, .slice B m d, .int .i64 q] w fun r w' => r = .returned (.bool true) ∧ Below w.heap.size w w' := by
  obtain ⟨hv, hnc, hcm⟩ := hv
  obtain ⟨hy, hmd, hdm⟩ := hy
  unfold maxLen at hcm hdm
  obtain ⟨q1, q2⟩ := okI_iff.1 hq
  have HA := hideIt (fun W => anchor04 W)
  have b0 : Blk (w.alloc (.cells #[.int .i64 q] 3)) w.heap.size 3 #[.int .i64 q] := Blk.new w _ _
  by_cases h1 : 30 < n
  · go_enter Try.func8, Try.ntmps8
    go_wp2_with (go_at_call 31; refine (HA.out _).mono ?_; rintro r w1 ⟨rfl, c1⟩)
    go_ret
    exact ⟨rfl, (((Chg.refl _ w).alloc _).trans c1).none_below⟩
  by_cases h2 : 60 < m
  · go_enter Try.func8, Try.ntmps8
    go_wp2_with (go_at_call 31; refine (HA.out _).mono ?_; rintro r w1 ⟨rfl, c1⟩)
    go_ret
    exact ⟨rfl, (((Chg.refl _ w).alloc _).trans c1).none_below⟩
  by_cases h3 : q < 0
  · go_enter Try.func8, Try.ntmps8
    go_wp2_with (go_at_call 31; refine (HA.out _).mono ?_; rintro r w1 ⟨rfl, c1⟩; have hcq : w1.cell? ⟨w.heap.size, 0, none⟩ = some (.int .i64 q) := (b0.chg c1 (fun h => h)).cell 0)
    go_ret
    exact ⟨rfl, (((Chg.refl _ w).alloc _).trans c1).none_below⟩
  go_enter Try.func8, Try.ntmps8
  go_wp2_with fail
  refine (HA.out _).mono ?_
  rintro r w1 ⟨rfl, k1⟩
  have c1 : Chg (fun _ => False) w w1 := ((Chg.refl _ w).alloc _).trans k1
  have b1 := b0.chg k1 (fun h => h)
  have hcq : w1.cell? ⟨w.heap.size, 0, none⟩ = some (.int .i64 q) := b1.cell 0
  go_wp2_with fail
  refine (maj_calls A B n m c d vs ys w1 (hv.new c1) (hy.new c1) (by omega) (by omega)).mono ?_
  rintro r w2 ⟨rfl, k2⟩
  have c2 := c1.trans k2
  have b2 := b1.chg k2 (fun h => h)
  go_wp2_with fail
  refine (turn_ok w.heap.size q A n c vs w2 (hv.new c2) hnc (by omega) (by omega) hq (b2.cell 0)).mono ?_
  rintro r w3 ⟨A3, d3, vs3, rfl, i3, p3, k3⟩
  have c3 := c2.trans k3
  have b3 := b2.chg k3 (fun h => h)
  go_wp2_with fail
  refine (turn_ok w.heap.size q B m d ys w3 (hy.new c3) hmd (by omega) (by omega) hq (b3.cell 0)).mono ?_
  rintro r w4 ⟨A4, d4, ys4, rfl, i4, p4, k4⟩
  have c4 := c3.trans k4
  have b4 := b3.chg k4 (fun h => h)
  go_wp2_with fail
  refine (maj_as A3 A4 n m d3 d4 vs3 ys4 w4 (i3.new k4) i4 (by omega) (by omega) (majB vs ys) (majB_perm p3 p4).symm).mono ?_
  rintro r w5 ⟨rfl, k5⟩
  have c5 := c4.trans k5
  have b5 := b4.chg k5 (fun h => h)
  have he : (majB vs ys == majB vs ys) = true := by simp
  generalize majB vs ys = bb at he ⊢
  go_wp2_with fail
  refine (right_calls A n c vs w5 (hv.new c5) (by omega)).mono ?_
  rintro r w6 ⟨rfl, k6⟩
  have c6 := c5.trans k6
  have b6 := b5.chg k6 (fun h => h)
  go_wp2_with fail
  refine (turn_ok w.heap.size q A n c vs w6 (hv.new c6) hnc (by omega) (by omega) hq (b6.cell 0)).mono ?_
  rintro r w7 ⟨A7, d7, vs7, rfl, i7, p7, k7⟩
  have c7 := c6.trans k7
  go_wp2_with fail
  refine (right_calls A7 n d7 vs7 w7 i7 (by omega)).mono ?_
  rintro r w8 ⟨rfl, k8⟩
  have HE := hideIt (rightB_perm p7)
  go_wp2_with fail
  go_ret
  exact ⟨ret_bool (by rw [HE.out]; simp), (c7.trans k8).none_below⟩
end Go.Proofs.Ytgmekeeemimnpaa
