/- WatchGrows, walked: the law. (Printed by wip/gen/wgrows.py.) -/
import Derived.Test.YtgmekeeemimnpaaWGrows
namespace Go.Proofs.Ytgmekeeemimnpaa
open Go Go.Maps Go.MapKept Go.RowKit

set_option maxRecDepth 100000 in
set_option maxHeartbeats 16000000 in
theorem watchgrows_calls {to now later : Int} {A : Option Addr} {n c : Nat} {acs : List ActW} (w : World) (_ot : okI to) (hv : Recs encAW 3 d0AW w A n acs ∧ (∀ x ∈ acs, okAW x) ∧ n ≤ c ∧ c ≤ maxLen) (on : okI now) (ol : okI later) :
    Calls Try.prog 14 #[.int .i64 to, .slice A n c, .int .i64 now, .int .i64 later] w fun e w' => e = .returned (.bool true) ∧ Below w.heap.size w w' := by
  have HA := hideIt (anchor09 w)
  obtain ⟨hv, hok, hnc, hcm⟩ := hv
  unfold maxLen at hcm
  have HOK := hideIt hok
  have HV := hideIt hv
  have HLEN := hideIt hv.len
  clear hok hv
  by_cases h0 : 2 ≤ to ∧ to ≤ 1073741824
  · obtain ⟨h01, h02⟩ := h0
    have HN := hideIt (fun W (hc : Chg (fun _ => False) w W) => watchNew to w W hc h01 h02)
    by_cases q0 : 60 < n
    · go_enter Try.func14, Try.ntmps14
      go_wp2_with (first
        | (go_at_call 48; refine HA.out.mono ?_; rintro e w1 ⟨rfl, c1⟩)
        | (go_at_call 49; refine (HN.out w1 c1).mono ?_; rintro e w2 ⟨b, rfl, b2, _, _⟩))
      go_ret
      exact ⟨rfl, b2.below⟩
    by_cases q1 : now < 0
    · go_enter Try.func14, Try.ntmps14
      go_wp2_with (first
        | (go_at_call 48; refine HA.out.mono ?_; rintro e w1 ⟨rfl, c1⟩)
        | (go_at_call 49; refine (HN.out w1 c1).mono ?_; rintro e w2 ⟨b, rfl, b2, _, _⟩))
      go_ret
      exact ⟨rfl, b2.below⟩
    by_cases q2 : later < now
    · go_enter Try.func14, Try.ntmps14
      go_wp2_with (first
        | (go_at_call 48; refine HA.out.mono ?_; rintro e w1 ⟨rfl, c1⟩)
        | (go_at_call 49; refine (HN.out w1 c1).mono ?_; rintro e w2 ⟨b, rfl, b2, _, _⟩))
      go_ret
      exact ⟨rfl, b2.below⟩
    by_cases q3 : 1125899906842624 < later
    · go_enter Try.func14, Try.ntmps14
      go_wp2_with (first
        | (go_at_call 48; refine HA.out.mono ?_; rintro e w1 ⟨rfl, c1⟩)
        | (go_at_call 49; refine (HN.out w1 c1).mono ?_; rintro e w2 ⟨b, rfl, b2, _, _⟩))
      go_ret
      exact ⟨rfl, b2.below⟩
    go_enter Try.func14, Try.ntmps14
    go_wp2_with fail
    refine HA.out.mono ?_
    rintro e w1 ⟨rfl, c1⟩
    go_wp2_with fail
    refine (HN.out w1 c1).mono ?_
    rintro e w2 ⟨b, rfl, b2, _, _⟩
    go_wp2_with fail
    go_loopw [43] (fun i wr => ∃ (k : Nat) (L : List (Int × Peer)), k ≤ n ∧ i = .int .i64 k ∧ WatB w wr b to L) (fun i _ => n - (intOf i).toNat)
    case atStart => exact ⟨0, [], Nat.zero_le _, rfl, b2⟩
    case round =>
      obtain ⟨k, L, hk, rfl, hb⟩ := hrel
      by_cases hlt : k < n
      · obtain ⟨p, off, rfl, hbl, _⟩ := HV.out.at_ (by omega)
        have hrec := HV.out.chg hb.2.2.2 (fun _ _ _ _ h => h)
        have hload := hrec.load (P := Try.prog) hlt 54 infoAW aggAW (fun _ => rfl)
        have hoka := HOK.out _ (getD_mem' (d := d0AW) (by rw [HLEN.out]; exact hlt))
        obtain ⟨⟨x, y, z⟩, hT⟩ : ∃ t, acs.getD k d0AW = t := ⟨_, rfl⟩
        rw [hT] at hload hoka
        obtain ⟨ok1, ok2, ok3⟩ := hoka
        simp only at ok1 ok2 ok3
        have hl2 : (encAW (x, y, z)).toArray = #[.int .i64 x, .int .i64 y, .int .i64 z] := rfl
        rw [hl2] at hload
        clear hT hrec hl2
        obtain ⟨w2, s2, t2, c2, z2⟩ := keep_rec (P := Try.prog) wr infoAW (cs := #[.int .i64 0, .int .i64 0, .int .i64 0]) (cs' := #[.int .i64 x, .int .i64 y, .int .i64 z]) rfl rfl (by intro v hv; simp at hv; rcases hv with rfl | rfl | rfl <;> rfl)
        have hb2 := hb.chg' c2
        have e0 : w2.cell? ⟨wr.heap.size, 0, none⟩ = some (.int .i64 x) := t2.cell 0
        have e1 : w2.cell? ⟨wr.heap.size, 1, none⟩ = some (.int .i64 y) := t2.cell 1
        have e2 : w2.cell? ⟨wr.heap.size, 2, none⟩ = some (.int .i64 z) := t2.cell 2
        by_cases x1 : x = 1
        · have dx : (x == 1) = true := by simpa using x1
          clear x1
          go_wp2_with (first
            | (refine wpList_loadv _ rfl 54 _ rfl rfl hload ?_)
            | (refine wpList_allocv _ rfl 54 rfl (zeroAW _) ?_)
            | (refine wpList_storev _ rfl 54 _ _ rfl rfl rfl s2 ?_)
            | (go_at_call 50; refine (hb2.add y z ok2 _ _ rfl).mono ?_; rintro e w5 ⟨rfl, b5⟩))
          go_roundw
          case rel => exact ⟨k + 1, _, by omega, by go_num, b5⟩
          case measure => simp [intOf]; omega
        have dx1 : (x == 1) = false := by simpa using x1
        by_cases x3 : x = 3
        · have dx : (x == 3) = true := by simpa using x3
          clear x1 x3
          go_wp2_with (first
            | (refine wpList_loadv _ rfl 54 _ rfl rfl hload ?_)
            | (refine wpList_allocv _ rfl 54 rfl (zeroAW _) ?_)
            | (refine wpList_storev _ rfl 54 _ _ rfl rfl rfl s2 ?_)
            | (go_at_call 51; refine (hb2.ping y z ok2 _ _ rfl).mono ?_; rintro e w5 ⟨rfl, b5⟩))
          go_roundw
          case rel => exact ⟨k + 1, _, by omega, by go_num, b5⟩
          case measure => simp [intOf]; omega
        have dx3 : (x == 3) = false := by simpa using x3
        by_cases x4 : x = 4
        · have dx : (x == 4) = true := by simpa using x4
          clear x1 x3 x4
          go_wp2_with (first
            | (refine wpList_loadv _ rfl 54 _ rfl rfl hload ?_)
            | (refine wpList_allocv _ rfl 54 rfl (zeroAW _) ?_)
            | (refine wpList_storev _ rfl 54 _ _ rfl rfl rfl s2 ?_)
            | (go_at_call 54; refine (hb2.pong y z ok2 _ _ rfl).mono ?_; rintro e w5 ⟨rfl, b5⟩))
          go_roundw
          case rel => exact ⟨k + 1, _, by omega, by go_num, b5⟩
          case measure => simp [intOf]; omega
        have dx4 : (x == 4) = false := by simpa using x4
        clear x1 x3 x4
        go_wp2_with (first
          | (refine wpList_loadv _ rfl 54 _ rfl rfl hload ?_)
          | (refine wpList_allocv _ rfl 54 rfl (zeroAW _) ?_)
          | (refine wpList_storev _ rfl 54 _ _ rfl rfl rfl s2 ?_))
        go_roundw
        case rel => exact ⟨k + 1, _, by omega, by go_num, hb2⟩
        case measure => simp [intOf]; omega
      · obtain rfl : k = n := by omega
        have hle : now ≤ later := by omega
        have H1 := hideIt (due_later (to := to) hb.wok hle)
        have H2 := hideIt (late_later (to := to) hb.wok hle)
        have HB := hideIt hb
        have hl16 := hb.wok.1
        have N1 : Hid ((whichW (dueB to now) L).length ≤ 16) := hideIt (Nat.le_trans (whichW_len _ _) hl16)
        have N2 : Hid ((whichW (dueB to later) L).length ≤ 16) := hideIt (Nat.le_trans (whichW_len _ _) hl16)
        have N3 : Hid ((whichW (lateB to now) L).length ≤ 16) := hideIt (Nat.le_trans (whichW_len _ _) hl16)
        have N4 : Hid ((whichW (lateB to later) L).length ≤ 16) := hideIt (Nat.le_trans (whichW_len _ _) hl16)
        clear hb hl16
        go_wp2_with fail
        refine (HB.out.due now on _ rfl _ rfl).mono ?_
        rintro e w5 ⟨A5, n5, rfl, i5, a5, b5, c5⟩
        have I5 := hideIt i5
        clear i5 a5 c5
        go_wp2_with fail
        refine (b5.due later ol _ rfl _ rfl).mono ?_
        rintro e w6 ⟨A6, n6, rfl, i6, a6, b6, c6⟩
        have I6 := hideIt i6
        clear i6 a6
        go_wp2_with fail
        refine (in_calls _ (I5.out.new c6) I6.out H1.out (by have := N1.out; omega) (by have := N2.out; omega)).mono ?_
        rintro e w7 ⟨rfl, rfl⟩
        clear c6
        go_wp2_with fail
        refine (b6.late now on _ rfl _ rfl).mono ?_
        rintro e w8 ⟨A8, n8, rfl, i8, a8, b8, c8⟩
        have I8 := hideIt i8
        clear i8 a8 c8
        go_wp2_with fail
        refine (b8.late later ol _ rfl _ rfl).mono ?_
        rintro e w9 ⟨A9, n9, rfl, i9, a9, b9, c9⟩
        have I9 := hideIt i9
        clear i9 a9
        go_wp2_with fail
        refine (in_calls _ (I8.out.new c9) I9.out H2.out (by have := N3.out; omega) (by have := N4.out; omega)).mono ?_
        rintro e w10 ⟨rfl, rfl⟩
        go_wp2_with fail
        go_ret
        exact ⟨rfl, b9.below⟩
  · have HN := hideIt (fun W => watchNew_no to W h0)
    clear h0
    go_enter Try.func14, Try.ntmps14
    go_wp2_with (first
      | (go_at_call 48; refine HA.out.mono ?_; rintro e w1 ⟨rfl, c1⟩)
      | (go_at_call 49; refine (HN.out _).mono ?_; rintro e w2 ⟨rfl, rfl⟩))
    go_ret
    exact ⟨rfl, c1.none_below⟩
end Go.Proofs.Ytgmekeeemimnpaa
