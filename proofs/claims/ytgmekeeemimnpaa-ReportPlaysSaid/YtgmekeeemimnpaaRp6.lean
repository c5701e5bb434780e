/- Package report: the document's example. -/
import Derived.Test.YtgmekeeemimnpaaRp5
namespace Go.Proofs.Ytgmekeeemimnpaa
open Go Go.Maps Go.MapKept Go.RowKit

theorem sortI_self {xs : List Int} (h : xs.Pairwise (fun a b => a < b)) : sortI xs = xs :=
  rise_ext (sortI_lt (h.imp (fun h e => by omega))) h (fun _ => mem_sortI)
theorem sortI_to {xs ys : List Int} (e : xs = ys) (h : ys.Pairwise (fun a b => a < b)) : sortI xs = ys := by
  subst e; exact sortI_self h

set_option maxRecDepth 100000 in
set_option maxHeartbeats 4000000 in
theorem anchor08 (w : World) : Calls Try.prog 56 #[] w fun e w' => e = .returned (.bool true) ∧ Chg (fun _ => False) w w' := by
  have HN := hideIt (bookNew 10 w w (Chg.refl _ _) (by omega) (by omega))
  have hk : ∀ n : Int, 0 ≤ n → n ≤ 200 → okI n := fun n _ _ => okI_iff.2 (by omega)
  have HK := hideIt hk
  have i23 : Hid (∀ W : World, Ints (W.alloc (.cells #[.int .i64 2, .int .i64 3] 3)) (some ⟨W.heap.size, 0, none⟩) 2 [2, 3]) := hideIt (fun W => Ints.lit W 3 [2, 3] (by intro x hx; exact okI_iff.2 (by simp at hx; omega)))
  have i3 : Hid (∀ W : World, Ints (W.alloc (.cells #[.int .i64 3] 3)) (some ⟨W.heap.size, 0, none⟩) 1 [3]) := hideIt (fun W => Ints.lit W 3 [3] (by intro x hx; exact okI_iff.2 (by simp at hx; omega)))
  have i234 : Hid (∀ W : World, Ints (W.alloc (.cells #[.int .i64 2, .int .i64 3, .int .i64 4] 3)) (some ⟨W.heap.size, 0, none⟩) 3 [2, 3, 4]) := hideIt (fun W => Ints.lit W 3 [2, 3, 4] (by intro x hx; exact okI_iff.2 (by simp at hx; omega)))
  clear hk
  have e1 := hideIt (show noteE 1 2 100 = 0 by decide)
  have l1 := hideIt (show noteP [] 1 2 100 = [((1, 2), 100)] by decide)
  have e2 := hideIt (show noteE 1 3 105 = 0 by decide)
  have l2 := hideIt (show noteP [((1, 2), 100)] 1 3 105 = [((1, 2), 100), ((1, 3), 105)] by decide)
  have s1 := hideIt (show sortI (byL 10 [((1, 2), 100), ((1, 3), 105)] 1 110) = [2, 3] from sortI_to (by decide) (by decide))
  have s2 := hideIt (show sortI (byL 10 [((1, 2), 100), ((1, 3), 105)] 1 111) = [3] from sortI_to (by decide) (by decide))
  have m1 := hideIt (show majB [2, 3, 4] (sortI (byL 10 [((1, 2), 100), ((1, 3), 105)] 1 110)) = true by rw [s1.out]; decide)
  have m2 := hideIt (show majB [2, 3, 4] (sortI (byL 10 [((1, 2), 100), ((1, 3), 105)] 1 111)) = false by rw [s2.out]; decide)
  obtain ⟨L2, hL2⟩ : ∃ L2 : List (Pr × Int), [((1, 2), 100), ((1, 3), 105)] = L2 := ⟨_, rfl⟩
  rw [hL2] at l2 s1 s2 m1 m2
  have hlen : L2.length ≤ 1000000 := by rw [← hL2]; simp
  clear hL2
  go_enter Try.func56, Try.ntmps56
  go_wp2_with fail
  refine HN.out.mono ?_
  rintro e w1 ⟨b, m, rfl, b1, -, -, -⟩
  go_wp2_with fail
  refine (b1.note 1 2 100 (HK.out 1 (by omega) (by omega)) (HK.out 2 (by omega) (by omega)) (HK.out 100 (by omega) (by omega)) _ _ e1.out l1.out).mono ?_
  rintro e w2 ⟨rfl, b2, -⟩
  go_wp2_with fail
  refine (b2.note 1 3 105 (HK.out 1 (by omega) (by omega)) (HK.out 3 (by omega) (by omega)) (HK.out 105 (by omega) (by omega)) _ _ e2.out l2.out).mono ?_
  rintro e w3 ⟨rfl, b3, -⟩
  go_wp2_with fail
  refine (b3.by_ 1 110 (by omega) hlen _ s1.out 2 rfl).mono ?_
  rintro e w4 ⟨A4, c4, rfl, j4, -, -, b4, -⟩
  go_wp2_with fail
  refine (same8_eq _ (j4.new ((Chg.refl _ _).alloc _)) (i23.out w4) (by omega)).mono ?_
  rintro e w5 ⟨rfl, h5⟩
  have b5 := b4.new ((Chg.refl _ _).alloc (.cells #[.int .i64 2, .int .i64 3] 3))
  clear b4 j4 b3 b2 b1
  rw [h5] at b5
  clear h5
  go_wp2_with fail
  refine (b5.by_ 1 111 (by omega) hlen _ s2.out 1 rfl).mono ?_
  rintro e w6 ⟨A6, c6, rfl, j6, -, -, b6, -⟩
  go_wp2_with fail
  refine (same8_eq _ (j6.new ((Chg.refl _ _).alloc _)) (i3.out w6) (by omega)).mono ?_
  rintro e w7 ⟨rfl, h7⟩
  have b7 := b6.new ((Chg.refl _ _).alloc (.cells #[.int .i64 3] 3))
  clear b6 j6 b5
  rw [h7] at b7
  clear h7
  have b7' := b7.new ((Chg.refl _ _).alloc (.cells #[.int .i64 2, .int .i64 3, .int .i64 4] 3))
  have HF1 := hideIt (b7'.failing (cv := 3) 1 110 (by omega) hlen (i234.out w7) (by decide) _ m1.out)
  clear b7
  go_wp2_with fail
  refine HF1.out.mono ?_
  rintro e w8 ⟨rfl, c8⟩
  have b8 := b7'.new c8
  clear b7' c8 HF1
  have b8' := b8.new ((Chg.refl _ _).alloc (.cells #[.int .i64 2, .int .i64 3, .int .i64 4] 3))
  have HF2 := hideIt (b8'.failing (cv := 3) 1 111 (by omega) hlen (i234.out w8) (by decide) _ m2.out)
  clear b8
  go_wp2_with fail
  refine HF2.out.mono ?_
  rintro e w9 ⟨rfl, c9⟩
  have b9 := b8'.new c9
  clear b8' c9 HF2
  go_wp2
  go_ret
  exact ⟨rfl, b9.chg⟩
end Go.Proofs.Ytgmekeeemimnpaa
