/- ReportWindows, walked. (Printed by wip/gen/rwindows.py.) -/
import Derived.Test.YtgmekeeemimnpaaRpD
namespace Go.Proofs.Ytgmekeeemimnpaa
open Go Go.Maps Go.MapKept Go.RowKit

set_option maxRecDepth 100000 in
set_option maxHeartbeats 16000000 in
theorem rwindows_calls {win a1 a2 : Int} (w : World) (_o1 : okI win) (o2 : okI a1) (o3 : okI a2) :
    Calls Try.prog 17 #[.int .i64 win, .int .i64 a1, .int .i64 a2] w fun e w' => e = .returned (.bool true) ∧ Below w.heap.size w w' := by
  have HA := hideIt (anchor08 w)
  by_cases h0 : 1 ≤ win ∧ win ≤ 1073741824
  · obtain ⟨h01, h02⟩ := h0
    have HN := hideIt (fun W (hc : Chg (fun _ => False) w W) => bookNew win w W hc h01 h02)
    by_cases q0 : a1 < 0
    · go_enter Try.func17, Try.ntmps17
      go_wp2_with (first
        | (go_at_call 56; refine HA.out.mono ?_; rintro e w1 ⟨rfl, c1⟩)
        | (go_at_call 57; refine (HN.out w1 c1).mono ?_; rintro e w2 ⟨b, m, rfl, b2, -, -, -⟩))
      go_ret
      exact ⟨rfl, b2.chg.none_below⟩
    by_cases q1 : 1099511627776 < a1
    · go_enter Try.func17, Try.ntmps17
      go_wp2_with (first
        | (go_at_call 56; refine HA.out.mono ?_; rintro e w1 ⟨rfl, c1⟩)
        | (go_at_call 57; refine (HN.out w1 c1).mono ?_; rintro e w2 ⟨b, m, rfl, b2, -, -, -⟩))
      go_ret
      exact ⟨rfl, b2.chg.none_below⟩
    by_cases q2 : a2 < 0
    · go_enter Try.func17, Try.ntmps17
      go_wp2_with (first
        | (go_at_call 56; refine HA.out.mono ?_; rintro e w1 ⟨rfl, c1⟩)
        | (go_at_call 57; refine (HN.out w1 c1).mono ?_; rintro e w2 ⟨b, m, rfl, b2, -, -, -⟩))
      go_ret
      exact ⟨rfl, b2.chg.none_below⟩
    by_cases q3 : 1099511627776 < a2
    · go_enter Try.func17, Try.ntmps17
      go_wp2_with (first
        | (go_at_call 56; refine HA.out.mono ?_; rintro e w1 ⟨rfl, c1⟩)
        | (go_at_call 57; refine (HN.out w1 c1).mono ?_; rintro e w2 ⟨b, m, rfl, b2, -, -, -⟩))
      go_ret
      exact ⟨rfl, b2.chg.none_below⟩
    have k7 : okI 7 := okI_iff.2 (by omega)
    have k8 : okI 8 := okI_iff.2 (by omega)
    have e1 := hideIt (show noteE 7 8 a1 = 0 by unfold noteE; rw [if_neg (by omega), if_neg (by omega)])
    have e2 := hideIt (show noteE 7 8 a2 = 0 by unfold noteE; rw [if_neg (by omega), if_neg (by omega)])
    have l1 := hideIt (show noteP [] 7 8 a1 = [((7, 8), a1)] by unfold noteP; rw [e1.out, if_pos rfl]; simp [aput, aget]; omega)
    have l2 := hideIt (show noteP [((7, 8), a1)] 7 8 a2 = [((7, 8), max a1 a2)] by unfold noteP; rw [e2.out, if_pos rfl]; simp [aput, aget])
    have hMb : 0 ≤ max a1 a2 ∧ max a1 a2 ≤ 1099511627776 := by omega
    have cT : countsB win (max a1 a2) (max a1 a2 + win) = true := by unfold countsB; simp; omega
    have cF : countsB win (max a1 a2) (max a1 a2 + win + 1) = false := by unfold countsB; simp; omega
    have s1 := hideIt (show sortI (byL win [((7, 8), max a1 a2)] 7 (max a1 a2 + win)) = [8] from sortI_to (by simp [byL, tellsB, cT]) (by simp))
    have s2 := hideIt (show sortI (byL win [((7, 8), max a1 a2)] 7 (max a1 a2 + win + 1)) = [] from sortI_to (by simp [byL, tellsB, cF]) (by simp))
    have x1 := hideIt (show ([((7, 8), max a1 a2)] : List (Pr × Int)).filter (fun p => !expB win (max a1 a2 + win) p) = [((7, 8), max a1 a2)] by simp [expB, cT])
    have x2 := hideIt (show ([((7, 8), max a1 a2)] : List (Pr × Int)).filter (fun p => !expB win (max a1 a2 + win + 1) p) = [] by simp [expB, cF])
    have i8 : Hid (∀ W : World, Ints (W.alloc (.cells #[.int .i64 8] 3)) (some ⟨W.heap.size, 0, none⟩) 1 [8]) := hideIt (fun W => Ints.lit W 3 [8] (by intro x hx; exact okI_iff.2 (by simp at hx; omega)))
    obtain ⟨L1, hL1⟩ : ∃ L1 : List (Pr × Int), [((7, 8), max a1 a2)] = L1 := ⟨_, rfl⟩
    rw [hL1] at l2 s1 s2 x1 x2
    have hl1 : Hid (L1.length = 1) := hideIt (by rw [← hL1]; rfl)
    have hl3 : L1.length ≤ 1000000 := by rw [hl1.out]; omega
    have T1 := hideIt (show -9223372036854775808 ≤ max a1 a2 + win ∧ max a1 a2 + win ≤ 9223372036854775807 by omega)
    have T2 := hideIt (show -9223372036854775808 ≤ max a1 a2 + win + 1 ∧ max a1 a2 + win + 1 ≤ 9223372036854775807 by omega)
    clear cT cF hL1
    go_enter Try.func17, Try.ntmps17
    go_wp2_with fail
    refine HA.out.mono ?_
    rintro e w1 ⟨rfl, c1⟩
    go_wp2_with fail
    refine (HN.out w1 c1).mono ?_
    rintro e w2 ⟨b, m, rfl, b2, -, -, -⟩
    go_wp2_with fail
    refine (b2.note 7 8 a1 k7 k8 o2 _ _ e1.out l1.out).mono ?_
    rintro e w3 ⟨rfl, b3, -⟩
    go_wp2_with fail
    refine (b3.note 7 8 a2 k7 k8 o3 _ _ e2.out l2.out).mono ?_
    rintro e w4 ⟨rfl, b4, -⟩
    go_wp2_with fail
    refine (b4.len 1 hl1.out).mono ?_
    rintro e w5 ⟨rfl, rfl⟩
    go_wp2_with fail
    refine (b4.by_ 7 (max a1 a2 + win) T1.out hl3 _ s1.out 1 rfl).mono ?_
    rintro e w6 ⟨A6, c6, rfl, j6, -, -, b6, -⟩
    go_wp2_with fail
    refine (same8_eq _ (j6.new ((Chg.refl _ _).alloc _)) (i8.out w6) (by omega)).mono ?_
    rintro e w7 ⟨rfl, h7⟩
    have b7 := b6.new ((Chg.refl _ _).alloc (.cells #[.int .i64 8] 3))
    rw [h7] at b7
    clear h7 b6 j6 b4 b3 b2
    go_wp2_with fail
    refine (b7.by_ 7 (max a1 a2 + win + 1) T2.out hl3 _ s2.out 0 rfl).mono ?_
    rintro e w8 ⟨A8, c8, rfl, j8, -, -, b8, -⟩
    clear b7 j8
    go_wp2_with fail
    refine (b8.expire (max a1 a2 + win) T1.out hl3 _ x1.out 0 (by omega)).mono ?_
    rintro e w9 ⟨rfl, b9, -⟩
    clear b8
    go_wp2_with fail
    refine (b9.expire (max a1 a2 + win + 1) T2.out hl3 _ x2.out 1 (by rw [hl1.out]; rfl)).mono ?_
    rintro e w10 ⟨rfl, b10, -⟩
    clear b9
    go_wp2_with fail
    refine (b10.len 0 rfl).mono ?_
    rintro e w11 ⟨rfl, rfl⟩
    go_wp2
    go_ret
    exact ⟨rfl, b10.chg.none_below⟩
  · have HN := hideIt (fun W => rnew_no win W h0)
    by_cases p0 : win < 1
    · clear h0
      go_enter Try.func17, Try.ntmps17
      go_wp2_with (first
        | (go_at_call 56; refine HA.out.mono ?_; rintro e w1 ⟨rfl, c1⟩)
        | (go_at_call 57; refine (HN.out _).mono ?_; rintro e w2 ⟨rfl, rfl⟩))
      go_ret
      exact ⟨rfl, c1.none_below⟩
    · have p1 : 1073741824 < win := by omega
      clear h0
      go_enter Try.func17, Try.ntmps17
      go_wp2_with (first
        | (go_at_call 56; refine HA.out.mono ?_; rintro e w1 ⟨rfl, c1⟩)
        | (go_at_call 57; refine (HN.out _).mono ?_; rintro e w2 ⟨rfl, rfl⟩))
      go_ret
      exact ⟨rfl, c1.none_below⟩
end Go.Proofs.Ytgmekeeemimnpaa
