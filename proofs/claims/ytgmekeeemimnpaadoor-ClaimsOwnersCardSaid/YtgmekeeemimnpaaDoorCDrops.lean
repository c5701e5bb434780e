/- ClaimsDrops, walked. (Printed by wip/gen_cdrops.py.) -/
import Derived.Test.YtgmekeeemimnpaaDoorC11
import Derived.Test.YtgmekeeemimnpaaDoorCD1
import Derived.Deep.Cut
namespace Go.Proofs.YtgmekeeemimnpaaDoor
open Go Go.Maps Go.MapKept Go.RowKit

/-- A law's table argument in its block; the library's table; nothing else has turned since w0. -/
structure S1 (w0 w : World) (B : Nat) (f : Nat → Int) : Prop where
  chg : Chg (fun _ => False) w0 w
  tw : TabW w
  tf : TabAt w B f
theorem S1.step {w0 w w' : World} {B : Nat} {f : Nat → Int} (h : S1 w0 w B f) (hc : Chg (fun _ => False) w w') : S1 w0 w' B f :=
  ⟨h.chg.trans hc, h.tw.chg hc (fun h => h), h.tf.chg hc (fun h => h)⟩
theorem S1.start (w : World) (hTW : TabW w) (f : Nat → Int) : S1 w (w.alloc (.cells (tcs f) 24)) w.heap.size f := by
  have hc : Chg (fun _ => False) w (w.alloc (.cells (tcs f) 24)) := (Chg.refl _ w).alloc _
  exact ⟨hc, hTW.chg hc (fun h => h), Blk.new w _ _⟩
theorem S1.drwN {w0 w : World} {B : Nat} {f : Nat → Int} (h : S1 w0 w B f) (n : Nat) : S1 w0 (w.drewN n) B f := ⟨h.chg.drewN n, h.tw, h.tf⟩
theorem dp_of {f : Nat → Int} {id : Int} {m : Nat} (hm : m < 2 ^ 64) (hid : id ≠ 0) : ofN (dpT f (dpN f id m).testBit) id = (ofN f id &&& m) := by
  refine bits_eq (ofN_lt _ _) (Nat.lt_of_le_of_lt Nat.and_le_left (ofN_lt _ _)) fun i hi => ?_
  rw [ofN_bit hi, Nat.testBit_and, ofN_bit hi, dpT_own hi, dpN_bit hm hi]
  cases h1 : (f i == id) with
  | false => simp [h1]
  | true =>
    cases m.testBit i with
    | true => simp [h1]
    | false =>
      simp
      exact fun h => hid h.symm
theorem dp_at {f : Nat → Int} {id : Int} {m k : Nat} (hm : m < 2 ^ 64) (hk : k < 64) {x y : Int} (hx : f k = x) (hy : f (64 + k) = y) {b : Bool} (hb : m.testBit k = b) :
    dpT f (dpN f id m).testBit k = (if (x == id) && !b then 0 else x) ∧ dpT f (dpN f id m).testBit (64 + k) = (if (x == id) && !b then 0 else y) ∧ (dpN f id m).testBit k = ((x == id) && !b) := by
  subst hx hy hb
  rw [dpT_own hk, dpT_ep, dpN_bit hm hk]
  exact ⟨rfl, rfl, rfl⟩

set_option maxRecDepth 100000 in
set_option maxHeartbeats 16000000 in
theorem drops_law_calls (w : World) (hTW : TabW w) (f : Nat → Int) (id : Int) (_oi : okI id) (m : Nat) (hm : m < 2 ^ 64) :
    Calls Tryd.prog 8 #[.agg (tcs f), .int .i64 id, .int .u64 (m : Int)] w fun e w' => e = .returned (.bool true) ∧ Chg (fun _ => False) w w' := by
  have S0 := S1.start w hTW f
  obtain ⟨wB, hwB⟩ : ∃ wB, wB = w.alloc (.cells (tcs f) 24) := ⟨_, rfl⟩
  rw [← hwB] at S0
  have HB := hideIt hwB
  clear hwB hTW
  have tokA : True := trivial
  obtain ⟨r1, h1⟩ : ∃ r, rightT f = r := ⟨_, rfl⟩
  obtain ⟨r2, h2⟩ : ∃ r, idB id = r := ⟨_, rfl⟩
  have hok : okD f id = (r1 && r2) := by rw [okD_eq, h1, h2]
  have HOK := hideIt hok
  clear hok
  cases r1 with
  | false =>
    have tokD : True := trivial
    have OKF : Hid (okD f id = false) := hideIt (HOK.out.trans (by rfl))
    have HSZ := hideIt (sameT_true (f := zeroT) (g := zeroT) (fun _ _ => rfl))
    go_enter Tryd.func8, Tryd.ntmps8
    go_wp2_with (first
      | (have _t := tokA; go_at_call 12; rw [← HB.out]; refine (anchor_calls wB S0.tw).mono ?_; rintro e wa ⟨rfl, ka⟩; clear tokA _t; have Sa := hideIt (S0.step ka); clear ka S0 HB)
      | (have _t := tokD; refine wpList_loadv _ rfl 24 _ rfl rfl Sa.out.tf.load ?_; clear tokD _t)
      | (go_at_call 23; refine (drop_bad wa f id m OKF.out).mono ?_; rintro e v1 ⟨rfl, k1⟩; obtain ⟨w1, s1, y1, c1⟩ := keep_tab v1 zeroT; have Sx1 := hideIt (Sa.out.step (k1.trans c1)); have Z1 := hideIt y1; clear y1 k1 c1)
      | (refine wpList_storev _ rfl 24 _ _ rfl rfl rfl s1 ?_; clear s1)
      | (refine wpList_allocagg _ rfl 24 rfl (zero_tab _) ?_)
      | (refine wpList_loadv _ rfl 24 _ rfl rfl Sx1.out.tf.load ?_)
      | (go_at_call 13; refine (lawright w1 f _ h1).mono ?_; rintro e w4 ⟨rfl, k4⟩; have Sx4 := hideIt (Sx1.out.step k4); have Z4 := hideIt (Z1.out.chg k4 (fun h => h)); clear k4)
      | (go_at_call 14; refine (lawid w4 id _ h2).mono ?_; rintro e w9 ⟨rfl, rfl⟩)
      | (refine wpList_loadg _ rfl 24 _ rfl rfl Z4.out.load ?_)
      | (refine wpList_buildg rfl rfl ?_)
      | (refine wpList_eqtab rfl _ _ _ rfl rfl rfl HSZ.out ?_))
    go_ret
    exact ⟨rfl, Sx4.out.chg⟩
  | true =>
    cases r2 with
    | false =>
      have tokD : True := trivial
      have OKF : Hid (okD f id = false) := hideIt (HOK.out.trans (by rfl))
      have HSZ := hideIt (sameT_true (f := zeroT) (g := zeroT) (fun _ _ => rfl))
      go_enter Tryd.func8, Tryd.ntmps8
      go_wp2_with (first
        | (have _t := tokA; go_at_call 12; rw [← HB.out]; refine (anchor_calls wB S0.tw).mono ?_; rintro e wa ⟨rfl, ka⟩; clear tokA _t; have Sa := hideIt (S0.step ka); clear ka S0 HB)
        | (have _t := tokD; refine wpList_loadv _ rfl 24 _ rfl rfl Sa.out.tf.load ?_; clear tokD _t)
        | (go_at_call 23; refine (drop_bad wa f id m OKF.out).mono ?_; rintro e v1 ⟨rfl, k1⟩; obtain ⟨w1, s1, y1, c1⟩ := keep_tab v1 zeroT; have Sx1 := hideIt (Sa.out.step (k1.trans c1)); have Z1 := hideIt y1; clear y1 k1 c1)
        | (refine wpList_storev _ rfl 24 _ _ rfl rfl rfl s1 ?_; clear s1)
        | (refine wpList_allocagg _ rfl 24 rfl (zero_tab _) ?_)
        | (refine wpList_loadv _ rfl 24 _ rfl rfl Sx1.out.tf.load ?_)
        | (go_at_call 13; refine (lawright w1 f _ h1).mono ?_; rintro e w4 ⟨rfl, k4⟩; have Sx4 := hideIt (Sx1.out.step k4); have Z4 := hideIt (Z1.out.chg k4 (fun h => h)); clear k4)
        | (go_at_call 14; refine (lawid w4 id _ h2).mono ?_; rintro e w9 ⟨rfl, rfl⟩)
        | (refine wpList_loadg _ rfl 24 _ rfl rfl Z4.out.load ?_)
        | (refine wpList_buildg rfl rfl ?_)
        | (refine wpList_eqtab rfl _ _ _ rfl rfl rfl HSZ.out ?_))
      go_ret
      exact ⟨rfl, Sx4.out.chg⟩
    | true =>
      have tokD : True := trivial
      have OK0 := hideIt (HOK.out.trans (by rfl) : okD f id = true)
      have hidn : id ≠ 0 := by
        have := OK0.out
        unfold okD at this
        simp at this
        omega
      obtain ⟨d, hd⟩ : ∃ d, dpN f id m = d := ⟨_, rfl⟩
      obtain ⟨g, hg⟩ : ∃ g, dpT f d.testBit = g := ⟨_, rfl⟩
      have hdl : d < 2 ^ 64 := by rw [← hd]; exact dpN_lt
      obtain ⟨so, hso⟩ : ∃ so, ofN f id = so := ⟨_, rfl⟩
      have hsl : so < 2 ^ 64 := by rw [← hso]; exact ofN_lt _ _
      have hand : bits .and .u64 (so : Int) (m : Int) = ((ofN g id : Nat) : Int) := by
        rw [u64_and_nat _ _ hsl hm, ← hso, ← hg, ← hd, dp_of hm hidn]
      obtain ⟨sg, hsg⟩ : ∃ sg, ofN g id = sg := ⟨_, rfl⟩
      rw [hsg] at hand
      have HOG := hideIt (fun W : World => of_calls W g id)
      rw [hsg] at HOG
      have HOF := hideIt (fun W : World => of_calls W f id)
      rw [hso] at HOF
      have HD := hideIt hd
      have HG := hideIt hg
      clear hd hg hso hsg hidn
      go_enter Tryd.func8, Tryd.ntmps8
      go_wp2_with (first
        | (have _t := tokA; go_at_call 12; rw [← HB.out]; refine (anchor_calls wB S0.tw).mono ?_; rintro e wa ⟨rfl, ka⟩; clear tokA _t; have Sa := hideIt (S0.step ka); clear ka S0 HB)
        | (have _t := tokD; refine wpList_loadv _ rfl 24 _ rfl rfl Sa.out.tf.load ?_; clear tokD _t)
        | (go_at_call 23; refine (drop_is wa Sa.out.tw f id m hm OK0.out d HD.out g HG.out).mono ?_; rintro e v1 ⟨rfl, k1⟩; obtain ⟨w1, s1, y1, c1⟩ := keep_tab v1 g; have Sx1 := hideIt (Sa.out.step (k1.trans c1)); have Z1 := hideIt y1; clear y1 k1 c1)
        | (refine wpList_storev _ rfl 24 _ _ rfl rfl rfl s1 ?_; clear s1)
        | (refine wpList_allocagg _ rfl 24 rfl (zero_tab _) ?_)
        | (refine wpList_loadv _ rfl 24 _ rfl rfl Sx1.out.tf.load ?_)
        | (go_at_call 13; refine (lawright w1 f _ h1).mono ?_; rintro e w4 ⟨rfl, k4⟩; have Sx4 := hideIt (Sx1.out.step k4); have Z4 := hideIt (Z1.out.chg k4 (fun h => h)); clear k4)
        | (go_at_call 14; refine (lawid w4 id _ h2).mono ?_; rintro e w9 ⟨rfl, rfl⟩))
      go_loopw [45] (fun i wr => ∃ k : Nat, k ≤ 64 ∧ i = .int .i64 k ∧ Hid (S1 w wr w.heap.size f) ∧ Hid (TabAt wr v1.heap.size g)) (fun i _ => 64 - (intOf i).toNat)
      case atStart => exact ⟨0, by omega, rfl, Sx4, Z4⟩
      case round =>
        obtain ⟨k, hk, rfl, hS, hZ⟩ := hrel
        by_cases hk64 : k < 64
        · have hco := hS.out.tf.cell (show k < 128 by omega)
          have hce := hS.out.tf.cell (show 64 + k < 128 by omega)
          have gco := hZ.out.cell (show k < 128 by omega)
          have gce := hZ.out.cell (show 64 + k < 128 by omega)
          obtain ⟨x, hxe⟩ : ∃ x, f k = x := ⟨_, rfl⟩
          obtain ⟨y, hye⟩ : ∃ y, f (64 + k) = y := ⟨_, rfl⟩
          obtain ⟨bt, hbt⟩ : ∃ b, m.testBit k = b := ⟨_, rfl⟩
          have hat := dp_at (id := id) hm hk64 hxe hye hbt
          rw [HD.out, HG.out] at hat
          rw [hxe] at hco
          rw [hye] at hce
          have HHM : Hid (∀ W, Calls Tryd.prog 20 #[.int .u64 (m : Int), .int .i64 (k : Int)] W fun e w' => e = .returned (.bool bt) ∧ W = w') := hideIt (fun W => by rw [← hbt]; exact has_calls W m hm k hk64)
          have HS : Hid (∀ n, Hid (S1 w (wr.drewN n) w.heap.size f)) := hideIt (fun n => hideIt (hS.out.drwN n))
          have HZ : Hid (∀ n, Hid (TabAt (wr.drewN n) v1.heap.size g)) := hideIt (fun n => hideIt hZ.out)
          clear hxe hye hbt hS hZ
          by_cases c1 : x = id
          · have d2 : (x == id) = true := by simpa using c1
            clear c1
            cases bt with
            | false =>
              obtain ⟨a1, a2, a3⟩ := hat
              have G1 : g k = 0 := a1.trans (by simp [d2])
              have G2 : g (64 + k) = 0 := a2.trans (by simp [d2])
              have HHT : Hid (∀ W, Calls Tryd.prog 20 #[.int .u64 (d : Int), .int .i64 (k : Int)] W fun e w' => e = .returned (.bool true) ∧ W = w') := hideIt (fun W => by rw [show true = d.testBit k from (a3.trans (by simp [d2])).symm]; exact has_calls W d hdl k hk64)
              rw [G1] at gco
              rw [G2] at gce
              clear G1 G2 a1 a2 a3
              go_wp2
              go_quiet (fail)
              go_upto_region 15 with (first
                | (go_at_call 20; refine (HHM.out _).mono ?_; rintro e w9 ⟨rfl, rfl⟩))
              go_wp2_with (first
                | (go_at_call 20; refine (HHT.out _).mono ?_; rintro e w9 ⟨rfl, rfl⟩))
              go_roundw
              case rel => exact ⟨k + 1, by omega, by go_num, HS.out _, HZ.out _⟩
              case measure => simp [intOf]; omega
            | true =>
              obtain ⟨a1, a2, a3⟩ := hat
              have G1 : g k = x := a1.trans (by simp [d2])
              have G2 : g (64 + k) = y := a2.trans (by simp [d2])
              have HHT : Hid (∀ W, Calls Tryd.prog 20 #[.int .u64 (d : Int), .int .i64 (k : Int)] W fun e w' => e = .returned (.bool false) ∧ W = w') := hideIt (fun W => by rw [show false = d.testBit k from (a3.trans (by simp [d2])).symm]; exact has_calls W d hdl k hk64)
              rw [G1] at gco
              rw [G2] at gce
              clear G1 G2 a1 a2 a3
              go_wp2
              go_quiet (fail)
              go_upto_region 15 with (first
                | (go_at_call 20; refine (HHM.out _).mono ?_; rintro e w9 ⟨rfl, rfl⟩))
              go_wp2_with (first
                | (go_at_call 20; refine (HHT.out _).mono ?_; rintro e w9 ⟨rfl, rfl⟩))
              go_roundw
              case rel => exact ⟨k + 1, by omega, by go_num, HS.out _, HZ.out _⟩
              case measure => simp [intOf]; omega
          · have d2 : (x == id) = false := by simpa using c1
            clear c1
            obtain ⟨a1, a2, a3⟩ := hat
            have G1 : g k = x := a1.trans (by simp [d2])
            have G2 : g (64 + k) = y := a2.trans (by simp [d2])
            have HHT : Hid (∀ W, Calls Tryd.prog 20 #[.int .u64 (d : Int), .int .i64 (k : Int)] W fun e w' => e = .returned (.bool false) ∧ W = w') := hideIt (fun W => by rw [show false = d.testBit k from (a3.trans (by simp [d2])).symm]; exact has_calls W d hdl k hk64)
            rw [G1] at gco
            rw [G2] at gce
            clear G1 G2 a1 a2 a3
            go_wp2
            go_quiet (fail)
            go_upto_region 15 with (first
              | (go_at_call 20; refine (HHM.out _).mono ?_; rintro e w9 ⟨rfl, rfl⟩))
            go_wp2_with (first
              | (go_at_call 20; refine (HHT.out _).mono ?_; rintro e w9 ⟨rfl, rfl⟩))
            go_roundw
            case rel => exact ⟨k + 1, by omega, by go_num, HS.out _, HZ.out _⟩
            case measure => simp [intOf]; omega
        · obtain rfl : k = 64 := by omega
          go_upto_region 18 with fail
          refine wp_region_held_drew (S := fun w' => TabAt w' w.heap.size f ∧ TabAt w' v1.heap.size g) (by kernel_rfl) (show TabAt wr.drew w.heap.size f ∧ TabAt wr.drew v1.heap.size g from ⟨hS.out.tf, hZ.out⟩) (fun hH => ?_)
          refine wpAnyH_take (i := 0) rfl (by kernel_rfl) (by kernel_rfl) (by kernel_rfl) (fun _ _ _ h => h) (yields_tab (by rfl) _ rfl rfl (fun _ h => h.2)) hH ?_
          try simp [Act.put]
          refine wpAnyH_take (i := 3) rfl (by kernel_rfl) (by kernel_rfl) (by kernel_rfl) (fun _ _ _ h => h) (yields_tab (by rfl) _ rfl rfl (fun _ h => h.1)) hH ?_
          try simp [Act.put]
          refine wpAnyH_take (i := 1) (v := .int .i64 id) rfl (by kernel_rfl) (by kernel_rfl) (by kernel_rfl) (fun _ _ _ h => h) (Or.inl ⟨by rfl, fun _ _ => rfl⟩) hH ?_
          try simp [Act.put]
          refine wpAnyH_take (i := 4) (v := .int .i64 id) rfl (by kernel_rfl) (by kernel_rfl) (by kernel_rfl) (fun _ _ _ h => h) (Or.inl ⟨by rfl, fun _ _ => rfl⟩) hH ?_
          try simp [Act.put]
          refine wpAnyH_take (i := 6) (v := .int .u64 (m : Int)) rfl (by kernel_rfl) (by kernel_rfl) (by kernel_rfl) (fun _ _ _ h => h) (Or.inl ⟨by rfl, fun _ _ => rfl⟩) hH ?_
          try simp [Act.put]
          refine wpAnyH_ready (rs := [2]) (by kernel_rfl) (by simp) (AllReadyH.cons rfl (fun K hK => ?_) AllReadyH.nil)
          go_simp
          go_at_call 17
          refine (HOG.out _).mono ?_
          rintro e w6 ⟨rfl, k6⟩
          refine hK.out _ _ ⟨hH.1.chg k6 (fun h => h), hH.2.chg k6 (fun h => h)⟩ (fun hH2 => ?_)
          clear hK K hH
          try simp [Act.put]
          refine wpAnyH_ready (rs := [5]) (by kernel_rfl) (by simp) (AllReadyH.cons rfl (fun K hK => ?_) AllReadyH.nil)
          go_simp
          go_at_call 17
          refine (HOF.out _).mono ?_
          rintro e w7 ⟨rfl, k7⟩
          refine hK.out _ _ ⟨hH2.1.chg k7 (fun h => h), hH2.2.chg k7 (fun h => h)⟩ (fun hH3 => ?_)
          clear hK K hH2
          try simp [Act.put]
          refine wpAnyH_ready (rs := [7]) (by kernel_rfl) (by simp) (AllReadyH.cons rfl (fun K hK => ?_) AllReadyH.nil)
          go_simp
          refine hK.out _ _ hH3 (fun hH4 => ?_)
          clear hK K hH3
          try simp [Act.put]
          refine wpAnyH_ready (rs := [8]) (by kernel_rfl) (by simp) (AllReadyH.cons rfl (fun K hK => ?_) AllReadyH.nil)
          go_simp
          refine hK.out _ _ hH4 (fun hH5 => ?_)
          clear hK K hH4
          try simp [Act.put]
          refine wpAnyH_ready (rs := [9]) (by kernel_rfl) (by simp) (AllReadyH.cons rfl (fun K hK => ?_) AllReadyH.nil)
          go_simp
          refine hK.out _ _ hH5 (fun _ => ?_)
          clear hK K hH5
          try simp [Act.put]
          refine wpAnyH_done (by kernel_rfl) ?_ _
          go_wp2
          go_ret
          exact ⟨rfl, (hS.out.chg.drew.trans k6).trans k7⟩
end Go.Proofs.YtgmekeeemimnpaaDoor
