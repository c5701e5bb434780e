/- WatchLate, walked: a peer that was pinged is late just when more than the timeout has passed since the first ping that waits. (Printed by wip/gen/wlate.py.) -/
import Derived.Test.YtgmekeeemimnpaaW4
namespace Go.Proofs.Ytgmekeeemimnpaa
open Go Go.Maps Go.MapKept Go.RowKit

theorem late_ping (a l t : Int) : pingW [(5, (a, true, l))] 5 t = if rightW 5 t then (0, [(5, (a, true, max l t))]) else (10, [(5, (a, true, l))]) := by
  cases h : rightW 5 t with
  | false => unfold pingW; rw [if_pos h]; simp
  | true => unfold pingW; rw [if_neg (by rw [h]; decide)]; simp [aget, aput, pinged]
theorem five_right {t : Int} (h1 : 0 ≤ t) (h2 : t ≤ 1099511627776) : rightW 5 t = true := by unfold rightW; simp [h1, h2]
theorem late_first (a : Int) (h1 : 0 ≤ a) (h2 : a ≤ 1099511627776) : pingW [(5, (0, false, 0))] 5 a = (0, [(5, (a, true, a))]) := by
  unfold pingW
  rw [if_neg (by rw [five_right h1 h2]; decide)]
  simp [aget, aput, pinged]
  omega
theorem late_pong (a l : Int) (h1 : 0 ≤ a) (h2 : a ≤ 1099511627776) (h3 : a ≤ l) : pongW [(5, (a, true, l))] 5 a = (0, [(5, (0, false, l))]) := by
  unfold pongW
  rw [if_neg (by rw [five_right h1 h2]; decide)]
  simp [aget, aput, ponged]
  omega
theorem max_if' (a b : Int) : (if a < b then b else a) = max a b := by omega

set_option maxRecDepth 100000 in
set_option maxHeartbeats 8000000 in
theorem watchlate_calls {to a now : Int} {A : Option Addr} {n c : Nat} {ts : List Int} (w : World) (_ot : okI to) (_oa : okI a) (hv : Ints w A n ts ∧ n ≤ c ∧ c ≤ maxLen) (on : okI now) :
    Calls Try.prog 13 #[.int .i64 to, .int .i64 a, .slice A n c, .int .i64 now] w fun e w' => e = .returned (.bool true) ∧ Below w.heap.size w w' := by
  have HA := hideIt (anchor09 w)
  obtain ⟨hv, hnc, hcm⟩ := hv
  unfold maxLen at hcm
  by_cases h0 : 2 ≤ to ∧ to ≤ 1073741824
  · obtain ⟨h01, h02⟩ := h0
    have HN := hideIt (fun W (hc : Chg (fun _ => False) w W) => watchNew to w W hc h01 h02)
    by_cases q0 : 50 < n
    · go_enter Try.func13, Try.ntmps13
      go_wp2_with (first
        | (go_at_call 48; refine HA.out.mono ?_; rintro e w1 ⟨rfl, c1⟩)
        | (go_at_call 49; refine (HN.out w1 c1).mono ?_; rintro e w2 ⟨b, rfl, b2, _, _⟩))
      go_ret
      exact ⟨rfl, b2.below⟩
    by_cases q1 : a < 0
    · go_enter Try.func13, Try.ntmps13
      go_wp2_with (first
        | (go_at_call 48; refine HA.out.mono ?_; rintro e w1 ⟨rfl, c1⟩)
        | (go_at_call 49; refine (HN.out w1 c1).mono ?_; rintro e w2 ⟨b, rfl, b2, _, _⟩))
      go_ret
      exact ⟨rfl, b2.below⟩
    by_cases q2 : 1099511627776 < a
    · go_enter Try.func13, Try.ntmps13
      go_wp2_with (first
        | (go_at_call 48; refine HA.out.mono ?_; rintro e w1 ⟨rfl, c1⟩)
        | (go_at_call 49; refine (HN.out w1 c1).mono ?_; rintro e w2 ⟨b, rfl, b2, _, _⟩))
      go_ret
      exact ⟨rfl, b2.below⟩
    by_cases q3 : now < a
    · go_enter Try.func13, Try.ntmps13
      go_wp2_with (first
        | (go_at_call 48; refine HA.out.mono ?_; rintro e w1 ⟨rfl, c1⟩)
        | (go_at_call 49; refine (HN.out w1 c1).mono ?_; rintro e w2 ⟨b, rfl, b2, _, _⟩))
      go_ret
      exact ⟨rfl, b2.below⟩
    by_cases q4 : 2199023255552 < now
    · go_enter Try.func13, Try.ntmps13
      go_wp2_with (first
        | (go_at_call 48; refine HA.out.mono ?_; rintro e w1 ⟨rfl, c1⟩)
        | (go_at_call 49; refine (HN.out w1 c1).mono ?_; rintro e w2 ⟨b, rfl, b2, _, _⟩))
      go_ret
      exact ⟨rfl, b2.below⟩
    have k5 : okI 5 := okI_iff.2 (by omega)
    have p1 := hideIt (show addW [] 5 0 = (0, [(5, (0, false, 0))]) by decide)
    have p2 := hideIt (late_first a (by omega) (by omega))
    have HLEN := hideIt hv.len
    have HV := hideIt hv
    go_enter Try.func13, Try.ntmps13
    go_wp2_with fail
    refine HA.out.mono ?_
    rintro e w1 ⟨rfl, c1⟩
    go_wp2_with fail
    refine (HN.out w1 c1).mono ?_
    rintro e w2 ⟨b, rfl, b2, _, _⟩
    go_wp2_with fail
    refine (b2.add 5 0 k5 _ _ p1.out).mono ?_
    rintro e w3 ⟨rfl, b3⟩
    go_wp2_with fail
    refine (b3.ping 5 a k5 _ _ p2.out).mono ?_
    rintro e w4 ⟨rfl, b4⟩
    go_wp2_with fail
    go_loopw [11, 58] (fun l i wr => ∃ (k : Nat) (x : Int), k ≤ n ∧ i = .int .i64 k ∧ l = .int .i64 x ∧ a ≤ x ∧ x ≤ 1099511627776 ∧ WatB w wr b to [(5, (a, true, x))]) (fun _ i _ => n - (intOf i).toNat)
    case atStart => exact ⟨0, a, Nat.zero_le _, rfl, rfl, by omega, by omega, b4⟩
    case round =>
      obtain ⟨k, x, hk, rfl, rfl, hx1, hx2, hb⟩ := hrel
      by_cases hlt : k < n
      · obtain ⟨p, off, rfl, hbl, hcell⟩ := HV.out.at_ (by omega)
        have hx : wr.cell? ⟨p, off + k, none⟩ = some (.int .i64 (ts.getD k 0)) := (hb.2.2.2.cell (p := ⟨p, off + k, none⟩) hbl (fun h => h)).trans (hcell k hlt)
        have hok : okI (ts.getD k 0) := HV.out.ok _ (getD_mem (by rw [HLEN.out]; exact hlt))
        obtain ⟨t, hT⟩ : ∃ t, ts.getD k 0 = t := ⟨_, rfl⟩
        rw [hT] at hx hok
        have hokt := okI_iff.1 hok
        clear hT hcell
        have hpg := late_ping a x t
        cases hr : rightW 5 t with
        | false =>
          rw [hr] at hpg
          have HP := hideIt hpg
          clear hpg hr
          go_wp2_with (go_at_call 51; refine (hb.ping 5 t k5 _ _ HP.out).mono ?_; rintro e w5 ⟨rfl, b5⟩)
          go_roundw
          case rel => exact ⟨k + 1, x, by omega, by go_num, rfl, hx1, hx2, b5⟩
          case measure => simp [intOf]; omega
        | true =>
          rw [hr] at hpg
          have HP := hideIt hpg
          have htr := rightW_true hr
          clear hpg hr
          go_wp2_with (go_at_call 51; refine (hb.ping 5 t k5 _ _ HP.out).mono ?_; rintro e w5 ⟨rfl, b5⟩)
          go_roundw
          case rel => exact ⟨k + 1, _, by omega, by go_num, rfl, by omega, by omega, b5⟩
          case measure => simp [intOf]; omega
      · obtain rfl : k = n := by omega
        have D1 := whichW_sing (dueB to now) 5 (a, true, x)
        have D2 := whichW_sing (lateB to now) 5 (a, true, x)
        have D3 := hideIt (late_pong a x (by omega) (by omega) hx1)
        have D4 := whichW_sing (lateB to now) 5 (0, false, x)
        have D5 := whichW_sing (dueB to now) 5 (0, false, x)
        have hl4 : lateB to now (0, false, x) = false := rfl
        rw [hl4] at D4
        have hdue : (dueB to now (a, true, x) = true ∧ dueB to now (0, false, x) = true ∧ now ≥ x ∧ now - x ≥ to / 2) ∨ (dueB to now (a, true, x) = false ∧ dueB to now (0, false, x) = false ∧ now ≥ x ∧ now - x < to / 2) ∨ (dueB to now (a, true, x) = false ∧ dueB to now (0, false, x) = false ∧ now < x ∧ now < x) := by
          unfold dueB
          simp only [Bool.and_eq_true, decide_eq_true_eq, Bool.and_eq_false_iff, decide_eq_false_iff_not]
          omega
        have hlate : (lateB to now (a, true, x) = true ∧ now - a > to) ∨ (lateB to now (a, true, x) = false ∧ now - a ≤ to) := by
          unfold lateB
          simp only [Bool.true_and, Bool.and_eq_true, decide_eq_true_eq, Bool.and_eq_false_iff, decide_eq_false_iff_not]
          omega
        have HB := hideIt hb
        clear hb hl4
        rcases hdue with ⟨e1, e3, g1, g2⟩ | ⟨e1, e3, g1, g2⟩ | ⟨e1, e3, g1, g2⟩ <;> rcases hlate with ⟨e2, g3⟩ | ⟨e2, g3⟩
        all_goals
          rw [e1] at D1
          rw [e2] at D2
          rw [e3] at D5
          have E1 := hideIt D1
          have E2 := hideIt D2
          have E4 := hideIt D4
          have E5 := hideIt D5
          clear D1 D2 D4 D5 e1 e2 e3
          go_wp2_with fail
          refine (HB.out.due now on _ E1.out _ rfl).mono ?_
          rintro e w5 ⟨A5, n5, rfl, i5, a5, b5, c5⟩
          clear i5 a5 c5
          go_wp2_with fail
          refine (b5.late now on _ E2.out _ rfl).mono ?_
          rintro e w6 ⟨A6, n6, rfl, i6, a6, b6, c6⟩
          clear i6 a6 c6
          go_wp2_with fail
          refine (b6.pong 5 a k5 _ _ D3.out).mono ?_
          rintro e w7 ⟨rfl, b7⟩
          go_wp2_with fail
          refine (b7.late now on _ E4.out _ rfl).mono ?_
          rintro e w8 ⟨A8, n8, rfl, i8, a8, b8, c8⟩
          clear i8 a8 c8
          go_wp2_with fail
          refine (b8.due now on _ E5.out _ rfl).mono ?_
          rintro e w9 ⟨A9, n9, rfl, i9, a9, b9, c9⟩
          clear i9 a9 c9
          go_wp2_with fail
          go_ret
          first
            | exact ⟨rfl, b9.below⟩
            | exact ⟨ret_bool (by simp; omega), b9.below⟩
  · have HN := hideIt (fun W => watchNew_no to W h0)
    clear h0
    go_enter Try.func13, Try.ntmps13
    go_wp2_with (first
      | (go_at_call 48; refine HA.out.mono ?_; rintro e w1 ⟨rfl, c1⟩)
      | (go_at_call 49; refine (HN.out _).mono ?_; rintro e w2 ⟨rfl, rfl⟩))
    go_ret
    exact ⟨rfl, c1.none_below⟩
end Go.Proofs.Ytgmekeeemimnpaa
