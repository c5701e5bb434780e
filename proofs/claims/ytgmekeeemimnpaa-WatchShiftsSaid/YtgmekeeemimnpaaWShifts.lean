/- WatchShifts, walked. (Printed by wip/gen/wshifts.py.) -/
import Derived.Test.YtgmekeeemimnpaaW5
import Derived.Test.YtgmekeeemimnpaaWShP
namespace Go.Proofs.Ytgmekeeemimnpaa
open Go Go.Maps Go.MapKept Go.RowKit

set_option maxRecDepth 100000 in
set_option maxHeartbeats 32000000 in
theorem watchshifts_calls {to now by_ : Int} {A : Option Addr} {n c : Nat} {acs : List ActW} (w : World) (_ot : okI to) (hv : Recs encAW 3 d0AW w A n acs ∧ (∀ x ∈ acs, okAW x) ∧ n ≤ c ∧ c ≤ maxLen) (_on : okI now) (_ob : okI by_) :
    Calls Try.prog 22 #[.int .i64 to, .slice A n c, .int .i64 now, .int .i64 by_] w fun e w' => e = .returned (.bool true) ∧ Below w.heap.size w w' := by
  have HA := hideIt (anchor09 w)
  obtain ⟨hv, hok, hnc, hcm⟩ := hv
  unfold maxLen at hcm
  have HOK := hideIt hok
  have HV := hideIt hv
  have HLEN := hideIt hv.len
  clear hok hv
  by_cases h0 : 2 ≤ to ∧ to ≤ 1073741824
  · obtain ⟨h01, h02⟩ := h0
    have HN := hideIt (fun W (hc : Chg (fun _ => False) w W) => watchNew to w W hc h01 h02)
    have HN2 := hideIt (fun W => watchNew to W W (Chg.refl _ _) h01 h02)
    clear h01 h02
    by_cases q0 : 60 < n
    · have tok : True := trivial
      go_enter Try.func22, Try.ntmps22
      go_wp2_with (first
        | (go_at_call 48; refine HA.out.mono ?_; rintro e w1 ⟨rfl, c1⟩)
        | (have _t := tok; go_at_call 49; refine (HN.out w1 c1).mono ?_; rintro e w2 ⟨a, rfl, a2, _, _⟩; clear tok _t)
        | (go_at_call 49; refine (HN2.out w2).mono ?_; intro e w3 hn3; obtain ⟨b, rfl, b3⟩ := a2.two hn3; clear hn3))
      go_ret
      exact ⟨rfl, b3.chg.none_below⟩
    by_cases q1 : now < 0
    · have tok : True := trivial
      go_enter Try.func22, Try.ntmps22
      go_wp2_with (first
        | (go_at_call 48; refine HA.out.mono ?_; rintro e w1 ⟨rfl, c1⟩)
        | (have _t := tok; go_at_call 49; refine (HN.out w1 c1).mono ?_; rintro e w2 ⟨a, rfl, a2, _, _⟩; clear tok _t)
        | (go_at_call 49; refine (HN2.out w2).mono ?_; intro e w3 hn3; obtain ⟨b, rfl, b3⟩ := a2.two hn3; clear hn3))
      go_ret
      exact ⟨rfl, b3.chg.none_below⟩
    by_cases q2 : 274877906944 < now
    · have tok : True := trivial
      go_enter Try.func22, Try.ntmps22
      go_wp2_with (first
        | (go_at_call 48; refine HA.out.mono ?_; rintro e w1 ⟨rfl, c1⟩)
        | (have _t := tok; go_at_call 49; refine (HN.out w1 c1).mono ?_; rintro e w2 ⟨a, rfl, a2, _, _⟩; clear tok _t)
        | (go_at_call 49; refine (HN2.out w2).mono ?_; intro e w3 hn3; obtain ⟨b, rfl, b3⟩ := a2.two hn3; clear hn3))
      go_ret
      exact ⟨rfl, b3.chg.none_below⟩
    by_cases q3 : by_ < 0
    · have tok : True := trivial
      go_enter Try.func22, Try.ntmps22
      go_wp2_with (first
        | (go_at_call 48; refine HA.out.mono ?_; rintro e w1 ⟨rfl, c1⟩)
        | (have _t := tok; go_at_call 49; refine (HN.out w1 c1).mono ?_; rintro e w2 ⟨a, rfl, a2, _, _⟩; clear tok _t)
        | (go_at_call 49; refine (HN2.out w2).mono ?_; intro e w3 hn3; obtain ⟨b, rfl, b3⟩ := a2.two hn3; clear hn3))
      go_ret
      exact ⟨rfl, b3.chg.none_below⟩
    by_cases q4 : 274877906944 < by_
    · have tok : True := trivial
      go_enter Try.func22, Try.ntmps22
      go_wp2_with (first
        | (go_at_call 48; refine HA.out.mono ?_; rintro e w1 ⟨rfl, c1⟩)
        | (have _t := tok; go_at_call 49; refine (HN.out w1 c1).mono ?_; rintro e w2 ⟨a, rfl, a2, _, _⟩; clear tok _t)
        | (go_at_call 49; refine (HN2.out w2).mono ?_; intro e w3 hn3; obtain ⟨b, rfl, b3⟩ := a2.two hn3; clear hn3))
      go_ret
      exact ⟨rfl, b3.chg.none_below⟩
    have tok : True := trivial
    go_enter Try.func22, Try.ntmps22
    go_wp2_with (first
      | (go_at_call 48; refine HA.out.mono ?_; rintro e w1 ⟨rfl, c1⟩)
      | (have _t := tok; go_at_call 49; refine (HN.out w1 c1).mono ?_; rintro e w2 ⟨a, rfl, a2, _, _⟩; clear tok _t)
      | (go_at_call 49; refine (HN2.out w2).mono ?_; intro e w3 hn3; obtain ⟨b, rfl, b3⟩ := a2.two hn3; clear hn3))
    go_loopw [56] (fun i wr => ∃ (k : Nat) (L : List (Int × Peer)), k ≤ n ∧ i = .int .i64 k ∧ Wat2 (fun _ => False) w wr a b to L (shL by_ L)) (fun i _ => n - (intOf i).toNat)
    case atStart => exact ⟨0, [], Nat.zero_le _, rfl, b3⟩
    case round =>
      obtain ⟨k, L, hk, rfl, hb⟩ := hrel
      by_cases hlt : k < n
      · obtain ⟨p, off, rfl, hbl, _⟩ := HV.out.at_ (by omega)
        have hrec := HV.out.chg hb.chg (fun _ _ _ _ h => h)
        have hload := hrec.load (P := Try.prog) hlt 54 infoAW aggAW (fun _ => rfl)
        have hoka := HOK.out _ (getD_mem' (d := d0AW) (by rw [HLEN.out]; exact hlt))
        obtain ⟨⟨x, y, z⟩, hT⟩ : ∃ t, acs.getD k d0AW = t := ⟨_, rfl⟩
        rw [hT] at hload hoka
        obtain ⟨ok1, ok2, ok3⟩ := hoka
        simp only at ok1 ok2 ok3
        have hl2 : (encAW (x, y, z)).toArray = #[.int .i64 x, .int .i64 y, .int .i64 z] := rfl
        rw [hl2] at hload
        clear hT hrec hl2
        obtain ⟨w2, s2, t2, c2, z2⟩ := keep_rec (P := Try.prog) wr infoAW (cs := #[.int .i64 0, .int .i64 0, .int .i64 0]) (cs' := #[.int .i64 x, .int .i64 y, .int .i64 z]) rfl rfl (by intro v hv; simp at hv; rcases hv with rfl | rfl | rfl <;> rfl)
        have hb2 := hb.guard c2 (by omega)
        have e0 : w2.cell? ⟨wr.heap.size, 0, none⟩ = some (.int .i64 x) := t2.cell 0
        have e1 : w2.cell? ⟨wr.heap.size, 1, none⟩ = some (.int .i64 y) := t2.cell 1
        have e2 : w2.cell? ⟨wr.heap.size, 2, none⟩ = some (.int .i64 z) := t2.cell 2
        have tok : True := trivial
        by_cases z1 : z < 0
        · go_wp2_with (first
            | (refine wpList_loadv _ rfl 54 _ rfl rfl hload ?_)
            | (refine wpList_allocv _ rfl 54 rfl (zeroAW _) ?_)
            | (refine wpList_storev _ rfl 54 _ _ rfl rfl rfl s2 ?_))
          go_ret
          exact ⟨rfl, hb2.chg.none_below⟩
        by_cases z3 : 274877906944 < z
        · go_wp2_with (first
            | (refine wpList_loadv _ rfl 54 _ rfl rfl hload ?_)
            | (refine wpList_allocv _ rfl 54 rfl (zeroAW _) ?_)
            | (refine wpList_storev _ rfl 54 _ _ rfl rfl rfl s2 ?_))
          go_ret
          exact ⟨rfl, hb2.chg.none_below⟩
        by_cases x1 : x = 1
        · have dx : (x == 1) = true := by simpa using x1
          clear x1
          have HS := hideIt (sh_add (L := L) (id := y) (at_ := z) (by_ := by_) (by omega) (by omega) (by omega) (by omega))
          go_wp2_with (first
            | (refine wpList_loadv _ rfl 54 _ rfl rfl hload ?_)
            | (refine wpList_allocv _ rfl 54 rfl (zeroAW _) ?_)
            | (refine wpList_storev _ rfl 54 _ _ rfl rfl rfl s2 ?_)
            | (have _t := tok; go_at_call 50; refine (hb2.addA y z ok2 _ _ rfl).mono ?_; rintro e w5 ⟨rfl, b5, k5⟩; clear tok _t; have g0 := t2.chg k5 (fun h => h rfl); have e1' : w5.cell? ⟨wr.heap.size, 1, none⟩ = some (.int .i64 y) := g0.cell 1; have e2' : w5.cell? ⟨wr.heap.size, 2, none⟩ = some (.int .i64 z) := g0.cell 2)
            | (go_at_call 50; refine (b5.addB y (z + by_) ok2 _ _ HS.out).mono ?_; rintro e w6 ⟨rfl, b6, k6⟩))
          go_roundw
          case rel => exact ⟨k + 1, _, by omega, by go_num, b6.free⟩
          case measure => simp [intOf]; omega
        have dx1 : (x == 1) = false := by simpa using x1
        by_cases x2 : x = 2
        · have dx : (x == 2) = true := by simpa using x2
          clear x1 x2
          have HS := hideIt (shL_del (by_ := by_) (L := L) (id := y))
          go_wp2_with (first
            | (refine wpList_loadv _ rfl 54 _ rfl rfl hload ?_)
            | (refine wpList_allocv _ rfl 54 rfl (zeroAW _) ?_)
            | (refine wpList_storev _ rfl 54 _ _ rfl rfl rfl s2 ?_)
            | (have _t := tok; go_at_call 70; refine (hb2.removeA y ok2 _ _ rfl rfl).mono ?_; rintro e w5 ⟨rfl, b5, k5⟩; clear tok _t; have g0 := t2.chg k5 (fun h => h rfl); have e1' : w5.cell? ⟨wr.heap.size, 1, none⟩ = some (.int .i64 y) := g0.cell 1; have e2' : w5.cell? ⟨wr.heap.size, 2, none⟩ = some (.int .i64 z) := g0.cell 2)
            | (go_at_call 70; refine (b5.removeB y ok2 _ _ rfl HS.out).mono ?_; rintro e w6 ⟨rfl, b6, k6⟩))
          go_roundw
          case rel => exact ⟨k + 1, _, by omega, by go_num, b6.free⟩
          case measure => simp [intOf]; omega
        have dx2 : (x == 2) = false := by simpa using x2
        by_cases x3 : x = 3
        · have dx : (x == 3) = true := by simpa using x3
          clear x1 x2 x3
          have HS := hideIt (sh_ping (L := L) (id := y) (at_ := z) (by_ := by_) (by omega) (by omega) (by omega) (by omega))
          go_wp2_with (first
            | (refine wpList_loadv _ rfl 54 _ rfl rfl hload ?_)
            | (refine wpList_allocv _ rfl 54 rfl (zeroAW _) ?_)
            | (refine wpList_storev _ rfl 54 _ _ rfl rfl rfl s2 ?_)
            | (have _t := tok; go_at_call 51; refine (hb2.pingA y z ok2 _ _ rfl).mono ?_; rintro e w5 ⟨rfl, b5, k5⟩; clear tok _t; have g0 := t2.chg k5 (fun h => h rfl); have e1' : w5.cell? ⟨wr.heap.size, 1, none⟩ = some (.int .i64 y) := g0.cell 1; have e2' : w5.cell? ⟨wr.heap.size, 2, none⟩ = some (.int .i64 z) := g0.cell 2)
            | (go_at_call 51; refine (b5.pingB y (z + by_) ok2 _ _ HS.out).mono ?_; rintro e w6 ⟨rfl, b6, k6⟩))
          go_roundw
          case rel => exact ⟨k + 1, _, by omega, by go_num, b6.free⟩
          case measure => simp [intOf]; omega
        have dx3 : (x == 3) = false := by simpa using x3
        by_cases x4 : x = 4
        · have dx : (x == 4) = true := by simpa using x4
          clear x1 x2 x3 x4
          have HS := hideIt (sh_pong (L := L) (id := y) (at_ := z) (by_ := by_) (by omega) (by omega) (by omega) (by omega))
          go_wp2_with (first
            | (refine wpList_loadv _ rfl 54 _ rfl rfl hload ?_)
            | (refine wpList_allocv _ rfl 54 rfl (zeroAW _) ?_)
            | (refine wpList_storev _ rfl 54 _ _ rfl rfl rfl s2 ?_)
            | (have _t := tok; go_at_call 54; refine (hb2.pongA y z ok2 _ _ rfl).mono ?_; rintro e w5 ⟨rfl, b5, k5⟩; clear tok _t; have g0 := t2.chg k5 (fun h => h rfl); have e1' : w5.cell? ⟨wr.heap.size, 1, none⟩ = some (.int .i64 y) := g0.cell 1; have e2' : w5.cell? ⟨wr.heap.size, 2, none⟩ = some (.int .i64 z) := g0.cell 2)
            | (go_at_call 54; refine (b5.pongB y (z + by_) ok2 _ _ HS.out).mono ?_; rintro e w6 ⟨rfl, b6, k6⟩))
          go_roundw
          case rel => exact ⟨k + 1, _, by omega, by go_num, b6.free⟩
          case measure => simp [intOf]; omega
        have dx4 : (x == 4) = false := by simpa using x4
        clear x1 x2 x3 x4
        go_wp2_with (first
          | (refine wpList_loadv _ rfl 54 _ rfl rfl hload ?_)
          | (refine wpList_allocv _ rfl 54 rfl (zeroAW _) ?_)
          | (refine wpList_storev _ rfl 54 _ _ rfl rfl rfl s2 ?_))
        go_roundw
        case rel => exact ⟨k + 1, _, by omega, by go_num, hb2.free⟩
        case measure => simp [intOf]; omega
      · obtain rfl : k = n := by omega
        have hl16 := hb.wokA.1
        have okn : okI now := okI_iff.2 (by omega)
        have oknb : okI (now + by_) := okI_iff.2 (by omega)
        have N1 : Hid ((whichW (dueB to now) L).length ≤ 16) := hideIt (Nat.le_trans (whichW_len _ _) hl16)
        have N3 : Hid ((whichW (lateB to now) L).length ≤ 16) := hideIt (Nat.le_trans (whichW_len _ _) hl16)
        have N5 : Hid ((sortI (L.map (·.1))).length ≤ 16) := hideIt (by rw [sortI_len, List.length_map]; exact hl16)
        have D := hideIt (sh_due (to := to) (now := now) (by_ := by_) (L := L))
        have T := hideIt (sh_late (to := to) (now := now) (by_ := by_) (L := L))
        have E := hideIt (sh_peers (by_ := by_) (L := L))
        clear hl16
        go_wp2_with fail
        refine (hb.dueA now okn _ rfl _ rfl).mono ?_
        rintro e w5 ⟨A5, n5, rfl, i5, b5, c5⟩
        have I5 := hideIt i5
        clear i5
        go_wp2_with fail
        refine (b5.dueB (now + by_) oknb _ D.out _ rfl).mono ?_
        rintro e w6 ⟨A6, n6, rfl, i6, b6, c6⟩
        have I6 := hideIt i6
        clear i6
        go_wp2_with fail
        refine (same_eq _ (I5.out.new c6) I6.out (by have := N1.out; omega)).mono ?_
        rintro e w7 ⟨rfl, c7⟩
        have b7 := b6.chg' c7
        clear c5 c6 c7
        go_wp2_with fail
        refine (b7.lateA now okn _ rfl _ rfl).mono ?_
        rintro e w8 ⟨A8, n8, rfl, i8, b8, c8⟩
        have I8 := hideIt i8
        clear i8
        go_wp2_with fail
        refine (b8.lateB (now + by_) oknb _ T.out _ rfl).mono ?_
        rintro e w9 ⟨A9, n9, rfl, i9, b9, c9⟩
        have I9 := hideIt i9
        clear i9
        go_wp2_with fail
        refine (same_eq _ (I8.out.new c9) I9.out (by have := N3.out; omega)).mono ?_
        rintro e w10 ⟨rfl, c10⟩
        have b10 := b9.chg' c10
        clear c8 c9 c10
        go_wp2_with fail
        refine (b10.peersA  _ rfl _ rfl).mono ?_
        rintro e w11 ⟨A11, n11, rfl, i11, b11, c11⟩
        have I11 := hideIt i11
        clear i11
        go_wp2_with fail
        refine (b11.peersB  _ E.out _ rfl).mono ?_
        rintro e w12 ⟨A12, n12, rfl, i12, b12, c12⟩
        have I12 := hideIt i12
        clear i12
        go_wp2_with fail
        refine (same_eq _ (I11.out.new c12) I12.out (by have := N5.out; omega)).mono ?_
        rintro e w13 ⟨rfl, c13⟩
        have b13 := b12.chg' c13
        clear c11 c12 c13
        go_wp2_with fail
        go_ret
        exact ⟨rfl, b13.chg.none_below⟩
  · have HN := hideIt (fun W => watchNew_no to W h0)
    clear h0
    go_enter Try.func22, Try.ntmps22
    go_wp2_with (first
      | (go_at_call 48; refine HA.out.mono ?_; rintro e w1 ⟨rfl, c1⟩)
      | (go_at_call 49; refine (HN.out _).mono ?_; rintro e w2 ⟨rfl, rfl⟩))
    go_ret
    exact ⟨rfl, c1.none_below⟩
end Go.Proofs.Ytgmekeeemimnpaa
