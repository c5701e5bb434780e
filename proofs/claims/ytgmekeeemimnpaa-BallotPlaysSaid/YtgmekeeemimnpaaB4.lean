/- The anchor of layer 15's statements; BallotLate and BallotMay, walked. -/
import Derived.Test.YtgmekeeemimnpaaB3
namespace Go.Proofs.Ytgmekeeemimnpaa
open Go Go.Maps Go.MapKept Go.RowKit

theorem ints123 (w : World) : Ints (w.alloc (.cells #[.int .i64 1, .int .i64 2, .int .i64 3] 3)) (some ⟨w.heap.size, 0, none⟩) 3 [1, 2, 3] := by
  have hi := Ints.lit w 3 [1, 2, 3] (by intro x hx; exact okI_iff.2 (by simp at hx; omega))
  exact hi

set_option maxRecDepth 100000 in
set_option maxHeartbeats 2000000 in
theorem anchor15 (w : World) : Calls Try.prog 42 #[] w fun e w' => e = .returned (.bool true) ∧ Chg (fun _ => False) w w' := by
  have HN := hideIt (ballNew 10 w w (Chg.refl _ w) (by omega) (by omega))
  have k1 : okI 1 := okI_iff.2 (by omega)
  have k2 : okI 2 := okI_iff.2 (by omega)
  have k3 : okI 3 := okI_iff.2 (by omega)
  go_enter Try.func42, Try.ntmps42
  go_wp2_with fail
  refine HN.out.mono ?_
  rintro e w1 ⟨b, rfl, b1⟩
  have b1' := b1.chg ((Chg.refl _ w1).alloc (.cells #[.int .i64 1, .int .i64 2, .int .i64 3] 3))
  have HS := hideIt (b1'.stand (n := 3) (c := 3) 5 100 (ints123 w1) (by decide) rfl)
  go_wp2_with fail
  refine HS.out.mono ?_
  rintro e w2 ⟨rfl, b2⟩
  go_wp2_with fail
  refine (b2.standing 120 (.tuple #[.int .i64 5, .bool true]) rfl).mono ?_
  rintro e w3 ⟨rfl, rfl⟩
  go_wp2_with fail
  refine (b2.standing 121 (.tuple #[.int .i64 0, .bool false]) rfl).mono ?_
  rintro e w3 ⟨rfl, rfl⟩
  go_wp2_with fail
  refine (b2.ack 1 5 101 k1 (some (5, 120, [(1, true), (2, false), (3, false)])) false (by decide)).mono ?_
  rintro e w3 ⟨rfl, b3⟩
  go_wp2_with fail
  refine (b3.ack 1 5 102 k1 (some (5, 120, [(1, true), (2, false), (3, false)])) false (by decide)).mono ?_
  rintro e w4 ⟨rfl, b4⟩
  go_wp2_with fail
  refine (b4.ack 2 5 103 k2 none true (by decide)).mono ?_
  rintro e w5 ⟨rfl, b5⟩
  go_wp2_with fail
  refine (b5.ack 3 5 104 k3 none false (by decide)).mono ?_
  rintro e w6 ⟨rfl, b6⟩
  go_wp2_with fail
  go_ret
  exact ⟨rfl, b6.2⟩

set_option maxRecDepth 100000 in
set_option maxHeartbeats 2000000 in
theorem bmay_calls {to m o a t : Int} (w : World) (_k0 : okI to) (k1 : okI m) (k2 : okI o) (_k3 : okI a) (k4 : okI t) :
    Calls Try.prog 12 #[.int .i64 to, .int .i64 m, .int .i64 o, .int .i64 a, .int .i64 t] w fun e w' => e = .returned (.bool true) ∧ Below w.heap.size w w' := by
  have HA := hideIt (anchor15 w)
  by_cases h0 : 2 ≤ to ∧ to ≤ 1073741824
  · obtain ⟨h01, h02⟩ := h0
    have HN := hideIt (fun W (hc : Chg (fun _ => False) w W) => ballNew to w W hc h01 h02)
    by_cases h1 : (1 ≤ m ∧ m ≤ 4294967296) ∧ (0 ≤ a ∧ a ≤ 1099511627776) ∧ (0 ≤ t ∧ t ≤ 2199023255552)
    · obtain ⟨⟨m1, m2⟩, ⟨a1, a2⟩, ⟨t1, t2⟩⟩ := h1
      have HG : Hid (gaveB m a = true) := hideIt (by simp [gaveB, timeB, m1, m2, a1, a2])
      have e1 : mayB to (aput [] m a) m t = decide (2 * to < t - a) := by
        have : aget (aput ([] : List (Int × Int)) m a) m = some a := by rw [aget_aput nodup_nil, if_pos rfl]
        unfold mayB
        rw [this]
        simp only
        rw [decide_eq_decide]
        omega
      have E1 := hideIt e1
      clear e1
      go_enter Try.func12, Try.ntmps12
      go_wp2_with fail
      refine HA.out.mono ?_
      rintro e w1 ⟨rfl, c1⟩
      go_wp2_with fail
      refine (HN.out w1 c1).mono ?_
      rintro e w2 ⟨b, rfl, b2⟩
      go_wp2_with fail
      refine (b2.may m t k1 k4 true rfl).mono ?_
      rintro e w3 ⟨rfl, rfl⟩
      go_wp2_with fail
      refine (b2.gave m a HG.out).mono ?_
      rintro e w4 ⟨rfl, b4⟩
      by_cases h3 : 2 * to < t - a
      · have h3' : decide (2 * to < t - a) = true := by simpa using h3
        rw [h3'] at E1
        by_cases h4 : o = m
        · have h4' : (o == m) = true := by simpa using h4
          clear h4
          go_wp2_with fail
          refine (b4.may m t k1 k4 true E1.out).mono ?_
          rintro e w5 ⟨rfl, rfl⟩
          go_wp2_with fail
          go_ret
          exact ⟨rfl, b4.2.none_below⟩
        · have h4' : (o == m) = false := by simpa using h4
          have HO := hideIt (show mayB to (aput [] m a) o t = true by unfold mayB; rw [aget_aput nodup_nil, if_neg h4]; rfl)
          clear h4
          go_wp2_with fail
          refine (b4.may m t k1 k4 true E1.out).mono ?_
          rintro e w5 ⟨rfl, rfl⟩
          go_wp2_with fail
          refine (b4.may o t k2 k4 true HO.out).mono ?_
          rintro e w5 ⟨rfl, rfl⟩
          go_wp2_with fail
          go_ret
          exact ⟨rfl, b4.2.none_below⟩
      · have h3' : decide (2 * to < t - a) = false := by simpa using h3
        rw [h3'] at E1
        by_cases h4 : o = m
        · have h4' : (o == m) = true := by simpa using h4
          clear h4
          go_wp2_with fail
          refine (b4.may m t k1 k4 false E1.out).mono ?_
          rintro e w5 ⟨rfl, rfl⟩
          go_wp2_with fail
          go_ret
          exact ⟨rfl, b4.2.none_below⟩
        · have h4' : (o == m) = false := by simpa using h4
          have HO := hideIt (show mayB to (aput [] m a) o t = true by unfold mayB; rw [aget_aput nodup_nil, if_neg h4]; rfl)
          clear h4
          go_wp2_with fail
          refine (b4.may m t k1 k4 false E1.out).mono ?_
          rintro e w5 ⟨rfl, rfl⟩
          go_wp2_with fail
          refine (b4.may o t k2 k4 true HO.out).mono ?_
          rintro e w5 ⟨rfl, rfl⟩
          go_wp2_with fail
          go_ret
          exact ⟨rfl, b4.2.none_below⟩
    · by_cases m1 : m < 1
      · clear h1
        go_enter Try.func12, Try.ntmps12
        go_wp2_with (first
          | (go_at_call 42; refine HA.out.mono ?_; rintro e w1 ⟨rfl, c1⟩)
          | (go_at_call 43; refine (HN.out w1 c1).mono ?_; rintro e w2 ⟨b, rfl, b2⟩))
        go_ret
        exact ⟨rfl, b2.2.none_below⟩
      by_cases m2 : 4294967296 < m
      · clear h1
        go_enter Try.func12, Try.ntmps12
        go_wp2_with (first
          | (go_at_call 42; refine HA.out.mono ?_; rintro e w1 ⟨rfl, c1⟩)
          | (go_at_call 43; refine (HN.out w1 c1).mono ?_; rintro e w2 ⟨b, rfl, b2⟩))
        go_ret
        exact ⟨rfl, b2.2.none_below⟩
      by_cases a1 : a < 0
      · clear h1
        go_enter Try.func12, Try.ntmps12
        go_wp2_with (first
          | (go_at_call 42; refine HA.out.mono ?_; rintro e w1 ⟨rfl, c1⟩)
          | (go_at_call 43; refine (HN.out w1 c1).mono ?_; rintro e w2 ⟨b, rfl, b2⟩))
        go_ret
        exact ⟨rfl, b2.2.none_below⟩
      by_cases a2 : 1099511627776 < a
      · clear h1
        go_enter Try.func12, Try.ntmps12
        go_wp2_with (first
          | (go_at_call 42; refine HA.out.mono ?_; rintro e w1 ⟨rfl, c1⟩)
          | (go_at_call 43; refine (HN.out w1 c1).mono ?_; rintro e w2 ⟨b, rfl, b2⟩))
        go_ret
        exact ⟨rfl, b2.2.none_below⟩
      by_cases t1 : t < 0
      · clear h1
        go_enter Try.func12, Try.ntmps12
        go_wp2_with (first
          | (go_at_call 42; refine HA.out.mono ?_; rintro e w1 ⟨rfl, c1⟩)
          | (go_at_call 43; refine (HN.out w1 c1).mono ?_; rintro e w2 ⟨b, rfl, b2⟩))
        go_ret
        exact ⟨rfl, b2.2.none_below⟩
      have t2 : 2199023255552 < t := by omega
      clear h1
      go_enter Try.func12, Try.ntmps12
      go_wp2_with (first
        | (go_at_call 42; refine HA.out.mono ?_; rintro e w1 ⟨rfl, c1⟩)
        | (go_at_call 43; refine (HN.out w1 c1).mono ?_; rintro e w2 ⟨b, rfl, b2⟩))
      go_ret
      exact ⟨rfl, b2.2.none_below⟩
  · have HN := hideIt (fun W => ballotNew_no to W h0)
    clear h0
    go_enter Try.func12, Try.ntmps12
    go_wp2_with (first
      | (go_at_call 42; refine HA.out.mono ?_; rintro e w1 ⟨rfl, c1⟩)
      | (go_at_call 43; refine (HN.out _).mono ?_; rintro e w2 ⟨rfl, rfl⟩))
    go_ret
    exact ⟨rfl, c1.none_below⟩
end Go.Proofs.Ytgmekeeemimnpaa
