/- The anchor of layer 4's statements, walked. -/
import Derived.Test.YtgmekeeemimnpaaQ4
namespace Go.Proofs.Ytgmekeeemimnpaa
open Go Go.Maps Go.MapKept Go.RowKit

/-- A slice of ints that was just laid. -/
theorem Ints.lit (w : World) (t : TypeId) (xs : List Int) (hok : ∀ x ∈ xs, okI x) : Ints (w.alloc (.cells (xs.map (Value.int .i64)).toArray t)) (some ⟨w.heap.size, 0, none⟩) xs.length xs :=
  ⟨rfl, hok, fun _ => ⟨w.heap.size, 0, rfl, by simp, fun j hj => by
    have := (Blk.new w t (xs.map (Value.int .i64)).toArray).cell j
    rw [Nat.zero_add, this]
    simp [List.getD, hj]⟩⟩

theorem grant_as (p m : Nat) (L : List (Int × Bool)) (id : Int) (w : World) (h : TallyAt w p m L) (hid : okI id) (b : Bool) (L' : List (Int × Bool)) (hb : grantB L id = b) (hL : grantL L id = L') :
    Calls Try.prog 34 #[.pointer (some ⟨p, 0, none⟩), .int .i64 id] w fun e w' =>
    e = .returned (.bool b) ∧ TallyAt w' p m L' ∧ Chg (fun i => i = p ∨ i = m) w w' ∧ w.heap.size = w'.heap.size := by
  subst hb; subst hL
  exact grant_calls p m L id w h hid

theorem need_as (n v : Int) (w : World) (h : okI n) (hv : need n = v) : Calls Try.prog 32 #[.int .i64 n] w fun e w' => e = .returned (.int .i64 v) ∧ w = w' := by
  subst hv
  exact need_calls n w h
theorem won_as (p m : Nat) (L : List (Int × Bool)) (w : World) (h : TallyAt w p m L) (b : Bool) (hb : wonB L = b) : Calls Try.prog 35 #[.pointer (some ⟨p, 0, none⟩)] w fun e w' => e = .returned (.bool b) ∧ ∃ n, w' = w.drewN n := by
  subst hb
  exact won_calls p m L w h
theorem TallyAt.drewN {w : World} {p m : Nat} {L : List (Int × Bool)} (h : TallyAt w p m L) (n : Nat) : TallyAt (w.drewN n) p m L := ⟨h.blk, h.map, h.small⟩

set_option maxHeartbeats 1000000 in
theorem anchor04 (w : World) : Calls Try.prog 31 #[] w fun e w' => e = .returned (.bool true) ∧ Chg (fun _ => False) w w' := by
  have hi := Ints.lit w 3 [1, 2, 3] (by intro x hx; exact okI_iff.2 (by simp at hx; omega))
  have hl : (([1, 2, 3] : List Int).map (Value.int .i64)).toArray = #[.int .i64 1, .int .i64 2, .int .i64 3] := rfl
  rw [hl] at hi
  have HN := hideIt (new_yes _ _ 3 [1, 2, 3] _ hi (by decide))
  clear hi hl
  have k2 : okI 2 := okI_iff.2 (by omega)
  have k3 : okI 3 := okI_iff.2 (by omega)
  have k4 : okI 4 := okI_iff.2 (by omega)
  have k9 : okI 9 := okI_iff.2 (by omega)
  go_enter Try.func31, Try.ntmps31
  go_wp2_with fail
  refine HN.out.mono ?_
  rintro e w1 ⟨p, m, rfl, hp, hm, t1, c1⟩
  go_wp2_with fail
  refine (need_as 4 3 _ k4 (by decide)).mono ?_
  rintro e w2 ⟨rfl, rfl⟩
  go_wp2_with fail
  refine (grant_as p m _ 2 _ t1 k2 true [(1, false), (2, true), (3, false)] (by decide) (by decide)).mono ?_
  rintro e w2 ⟨rfl, t2, c2, s2⟩
  clear s2
  go_wp2_with fail
  refine (grant_as p m _ 2 _ t2 k2 false [(1, false), (2, true), (3, false)] (by decide) (by decide)).mono ?_
  rintro e w3 ⟨rfl, t3, c3, s3⟩
  clear s3
  go_wp2_with fail
  refine (grant_as p m _ 9 _ t3 k9 false [(1, false), (2, true), (3, false)] (by decide) (by decide)).mono ?_
  rintro e w4 ⟨rfl, t4, c4, s4⟩
  clear s4
  go_wp2_with fail
  refine (won_as p m _ _ t4 false (by decide)).mono ?_
  rintro e w5 ⟨rfl, n5, rfl⟩
  go_wp2_with fail
  refine (grant_as p m _ 3 _ (t4.drewN n5) k3 true [(1, false), (2, true), (3, true)] (by decide) (by decide)).mono ?_
  rintro e w6 ⟨rfl, t6, c6, s6⟩
  clear s6
  go_wp2_with fail
  refine (won_as p m _ _ t6 true (by decide)).mono ?_
  rintro e w7 ⟨rfl, n7, rfl⟩
  go_wp2_with fail
  go_ret
  have hn : ∀ i, (i = p ∨ i = m) → False ∨ w.heap.size ≤ i := fun i hi => .inr (by simp at hp hm; rcases hi with rfl | rfl <;> omega)
  have d1 : Chg (fun _ => False) w w1 := ((Chg.refl _ w).alloc _).trans c1
  exact ⟨rfl, ((((d1.trans' c2 hn).trans' c3 hn).trans' c4 hn).drewN n5 |>.trans' c6 hn).drewN n7⟩
end Go.Proofs.Ytgmekeeemimnpaa
