/- ClaimsClaims, walked. (Printed by wip/gen_cclaims.py.) -/
import Derived.Test.YtgmekeeemimnpaaDoorC11
import Derived.Deep.Cut
namespace Go.Proofs.YtgmekeeemimnpaaDoor
open Go Go.Maps Go.MapKept Go.RowKit

set_option maxRecDepth 100000 in
set_option maxHeartbeats 16000000 in
theorem claims_law_calls (w : World) (hTW : TabW w) (f : Nat → Int) (id ep : Int) (m : Nat) (hm : m < 2 ^ 64) (_oi : okI id) (_oe : okI ep) :
    Calls Tryd.prog 5 #[.agg (tcs f), .agg #[.int .i64 id, .int .i64 ep, .int .u64 (m : Int)]] w fun e w' => e = .returned (.bool true) ∧ Chg (fun _ => False) w w' := by
  have S0 := St.start w hTW f id ep m
  obtain ⟨wB, hwB⟩ : ∃ wB, wB = (w.alloc (.cells (tcs f) 24)).alloc (.cells #[.int .i64 id, .int .i64 ep, .int .u64 (m : Int)] 28) := ⟨_, rfl⟩
  rw [← hwB] at S0
  have HB := hideIt hwB
  clear hwB hTW
  have tokA : True := trivial
  obtain ⟨r1, h1⟩ : ∃ r, rightT f = r := ⟨_, rfl⟩
  obtain ⟨r2, h2⟩ : ∃ r, idB id = r := ⟨_, rfl⟩
  obtain ⟨r3, h3⟩ : ∃ r, epB ep = r := ⟨_, rfl⟩
  have hok : okC f id ep = (r1 && r2 && r3) := by rw [okC_eq, h1, h2, h3]
  have HOK := hideIt hok
  clear hok
  cases r1 with
  | false =>
    have OKF : Hid (okC f id ep = false) := hideIt (HOK.out.trans (by rfl))
    have HSZ := hideIt (sameT_true (f := zeroT) (g := zeroT) (fun _ _ => rfl))
    go_enter Tryd.func5, Tryd.ntmps5
    go_upto_region 4 with (first
      | (have _t := tokA; go_at_call 12; rw [← HB.out]; refine (anchor_calls wB S0.tw).mono ?_; rintro e wa ⟨rfl, ka⟩; clear tokA _t; have Sa := hideIt (S0.step ka); obtain ⟨q01, q02, q03⟩ := Sa.out.cells; clear ka S0 HB)
      | (refine wpList_loadv _ rfl 24 _ rfl rfl Sa.out.tf.load ?_)
      | (go_at_call 16; refine (claim_bad wa f id ep m OKF.out).mono ?_; rintro e v1 ⟨rfl, k1⟩; obtain ⟨w1, s1, y1, c1⟩ := keep_tab v1 zeroT; have Sx1 := hideIt (Sa.out.step (k1.trans c1)); obtain ⟨q11, q12, q13⟩ := Sx1.out.cells; have Z1 := hideIt y1; clear y1 k1 c1 q01 q02 q03)
      | (refine wpList_storev _ rfl 24 _ _ rfl rfl rfl s1 ?_; clear s1)
      | (refine wpList_allocagg _ rfl 24 rfl (zero_tab _) ?_))
    refine wp_region_held_drew (S := fun w' => TabAt w' w.heap.size f) (by kernel_rfl) (show TabAt w1.drew w.heap.size f from Sx1.out.tf) (fun hH => ?_)
    refine wpAnyH_take (i := 0) rfl (by kernel_rfl) (by kernel_rfl) (by kernel_rfl) (fun _ _ _ h => h) (yields_tab (by rfl) _ rfl rfl (fun _ h => h)) hH ?_
    try simp [Act.put]
    refine wpAnyH_take (i := 2) rfl (by kernel_rfl) (by kernel_rfl) (by kernel_rfl) (fun _ _ _ h => h) (yields_tab (by rfl) _ rfl rfl (fun _ h => h)) hH ?_
    try simp [Act.put]
    refine wpAnyH_ready (rs := [1]) (by kernel_rfl) (by simp) (AllReadyH.cons rfl (fun K hK => ?_) AllReadyH.nil)
    go_simp
    go_at_call 19
    refine (right_calls w1.drew f).mono ?_
    rintro e w2 ⟨rfl, k2⟩
    rw [h1]
    refine hK.out _ _ (hH.chg k2 (fun h => h)) (fun hH2 => ?_)
    clear hK K hH
    try simp [Act.put]
    refine wpAnyH_ready (rs := [3]) (by kernel_rfl) (by simp) (AllReadyH.cons rfl (fun K hK => ?_) AllReadyH.nil)
    go_simp
    go_at_call 13
    refine (lawright w2 f _ h1).mono ?_
    rintro e w3 ⟨rfl, k3⟩
    refine hK.out _ _ (hH2.chg k3 (fun h => h)) (fun hH3 => ?_)
    clear hK K hH2
    try simp [Act.put]
    refine wpAnyH_ready (rs := [4]) (by kernel_rfl) (by simp) (AllReadyH.cons rfl (fun K hK => ?_) AllReadyH.nil)
    go_simp
    refine hK.out _ _ hH3 (fun hH4 => ?_)
    clear hK K hH3
    try simp [Act.put]
    refine wpAnyH_done (by kernel_rfl) ?_ _
    have Sx3 := hideIt (Sx1.out.drw.step (k2.trans k3))
    obtain ⟨q31, q32, q33⟩ := Sx3.out.cells
    have Z3 := hideIt (TabAt.chg (w := w1.drew) Z1.out (k2.trans k3) (fun h => h))
    clear k2 k3 hH4 q11 q12 q13
    go_wp2_with (first
      | (refine wpList_loadv _ rfl 24 _ rfl rfl Sx3.out.tf.load ?_)
      | (go_at_call 13; refine (lawright w3 f _ h1).mono ?_; rintro e w4 ⟨rfl, k4⟩; have Sx4 := hideIt (Sx3.out.step k4); obtain ⟨q41, q42, q43⟩ := Sx4.out.cells; have Z4 := hideIt (Z3.out.chg k4 (fun h => h)); clear k4 q31 q32 q33)
      | (go_at_call 14; refine (lawid w4 id _ h2).mono ?_; rintro e w9 ⟨rfl, rfl⟩)
      | (go_at_call 15; refine (lawepoch w4 ep _ h3).mono ?_; rintro e w9 ⟨rfl, rfl⟩)
      | (refine wpList_loadg _ rfl 24 _ rfl rfl Z4.out.load ?_)
      | (refine wpList_buildg rfl rfl ?_)
      | (refine wpList_eqtab rfl _ _ _ rfl rfl rfl HSZ.out ?_))
    go_ret
    exact ⟨rfl, Sx4.out.chg⟩
  | true =>
    cases r2 with
    | false =>
      have OKF : Hid (okC f id ep = false) := hideIt (HOK.out.trans (by rfl))
      have HSZ := hideIt (sameT_true (f := zeroT) (g := zeroT) (fun _ _ => rfl))
      go_enter Tryd.func5, Tryd.ntmps5
      go_upto_region 4 with (first
        | (have _t := tokA; go_at_call 12; rw [← HB.out]; refine (anchor_calls wB S0.tw).mono ?_; rintro e wa ⟨rfl, ka⟩; clear tokA _t; have Sa := hideIt (S0.step ka); obtain ⟨q01, q02, q03⟩ := Sa.out.cells; clear ka S0 HB)
        | (refine wpList_loadv _ rfl 24 _ rfl rfl Sa.out.tf.load ?_)
        | (go_at_call 16; refine (claim_bad wa f id ep m OKF.out).mono ?_; rintro e v1 ⟨rfl, k1⟩; obtain ⟨w1, s1, y1, c1⟩ := keep_tab v1 zeroT; have Sx1 := hideIt (Sa.out.step (k1.trans c1)); obtain ⟨q11, q12, q13⟩ := Sx1.out.cells; have Z1 := hideIt y1; clear y1 k1 c1 q01 q02 q03)
        | (refine wpList_storev _ rfl 24 _ _ rfl rfl rfl s1 ?_; clear s1)
        | (refine wpList_allocagg _ rfl 24 rfl (zero_tab _) ?_))
      refine wp_region_held_drew (S := fun w' => TabAt w' w.heap.size f) (by kernel_rfl) (show TabAt w1.drew w.heap.size f from Sx1.out.tf) (fun hH => ?_)
      refine wpAnyH_take (i := 0) rfl (by kernel_rfl) (by kernel_rfl) (by kernel_rfl) (fun _ _ _ h => h) (yields_tab (by rfl) _ rfl rfl (fun _ h => h)) hH ?_
      try simp [Act.put]
      refine wpAnyH_take (i := 2) rfl (by kernel_rfl) (by kernel_rfl) (by kernel_rfl) (fun _ _ _ h => h) (yields_tab (by rfl) _ rfl rfl (fun _ h => h)) hH ?_
      try simp [Act.put]
      refine wpAnyH_ready (rs := [1]) (by kernel_rfl) (by simp) (AllReadyH.cons rfl (fun K hK => ?_) AllReadyH.nil)
      go_simp
      go_at_call 19
      refine (right_calls w1.drew f).mono ?_
      rintro e w2 ⟨rfl, k2⟩
      rw [h1]
      refine hK.out _ _ (hH.chg k2 (fun h => h)) (fun hH2 => ?_)
      clear hK K hH
      try simp [Act.put]
      refine wpAnyH_ready (rs := [3]) (by kernel_rfl) (by simp) (AllReadyH.cons rfl (fun K hK => ?_) AllReadyH.nil)
      go_simp
      go_at_call 13
      refine (lawright w2 f _ h1).mono ?_
      rintro e w3 ⟨rfl, k3⟩
      refine hK.out _ _ (hH2.chg k3 (fun h => h)) (fun hH3 => ?_)
      clear hK K hH2
      try simp [Act.put]
      refine wpAnyH_ready (rs := [4]) (by kernel_rfl) (by simp) (AllReadyH.cons rfl (fun K hK => ?_) AllReadyH.nil)
      go_simp
      refine hK.out _ _ hH3 (fun hH4 => ?_)
      clear hK K hH3
      try simp [Act.put]
      refine wpAnyH_done (by kernel_rfl) ?_ _
      have Sx3 := hideIt (Sx1.out.drw.step (k2.trans k3))
      obtain ⟨q31, q32, q33⟩ := Sx3.out.cells
      have Z3 := hideIt (TabAt.chg (w := w1.drew) Z1.out (k2.trans k3) (fun h => h))
      clear k2 k3 hH4 q11 q12 q13
      go_wp2_with (first
        | (refine wpList_loadv _ rfl 24 _ rfl rfl Sx3.out.tf.load ?_)
        | (go_at_call 13; refine (lawright w3 f _ h1).mono ?_; rintro e w4 ⟨rfl, k4⟩; have Sx4 := hideIt (Sx3.out.step k4); obtain ⟨q41, q42, q43⟩ := Sx4.out.cells; have Z4 := hideIt (Z3.out.chg k4 (fun h => h)); clear k4 q31 q32 q33)
        | (go_at_call 14; refine (lawid w4 id _ h2).mono ?_; rintro e w9 ⟨rfl, rfl⟩)
        | (go_at_call 15; refine (lawepoch w4 ep _ h3).mono ?_; rintro e w9 ⟨rfl, rfl⟩)
        | (refine wpList_loadg _ rfl 24 _ rfl rfl Z4.out.load ?_)
        | (refine wpList_buildg rfl rfl ?_)
        | (refine wpList_eqtab rfl _ _ _ rfl rfl rfl HSZ.out ?_))
      go_ret
      exact ⟨rfl, Sx4.out.chg⟩
    | true =>
      cases r3 with
      | false =>
        have OKF : Hid (okC f id ep = false) := hideIt (HOK.out.trans (by rfl))
        have HSZ := hideIt (sameT_true (f := zeroT) (g := zeroT) (fun _ _ => rfl))
        go_enter Tryd.func5, Tryd.ntmps5
        go_upto_region 4 with (first
          | (have _t := tokA; go_at_call 12; rw [← HB.out]; refine (anchor_calls wB S0.tw).mono ?_; rintro e wa ⟨rfl, ka⟩; clear tokA _t; have Sa := hideIt (S0.step ka); obtain ⟨q01, q02, q03⟩ := Sa.out.cells; clear ka S0 HB)
          | (refine wpList_loadv _ rfl 24 _ rfl rfl Sa.out.tf.load ?_)
          | (go_at_call 16; refine (claim_bad wa f id ep m OKF.out).mono ?_; rintro e v1 ⟨rfl, k1⟩; obtain ⟨w1, s1, y1, c1⟩ := keep_tab v1 zeroT; have Sx1 := hideIt (Sa.out.step (k1.trans c1)); obtain ⟨q11, q12, q13⟩ := Sx1.out.cells; have Z1 := hideIt y1; clear y1 k1 c1 q01 q02 q03)
          | (refine wpList_storev _ rfl 24 _ _ rfl rfl rfl s1 ?_; clear s1)
          | (refine wpList_allocagg _ rfl 24 rfl (zero_tab _) ?_))
        refine wp_region_held_drew (S := fun w' => TabAt w' w.heap.size f) (by kernel_rfl) (show TabAt w1.drew w.heap.size f from Sx1.out.tf) (fun hH => ?_)
        refine wpAnyH_take (i := 0) rfl (by kernel_rfl) (by kernel_rfl) (by kernel_rfl) (fun _ _ _ h => h) (yields_tab (by rfl) _ rfl rfl (fun _ h => h)) hH ?_
        try simp [Act.put]
        refine wpAnyH_take (i := 2) rfl (by kernel_rfl) (by kernel_rfl) (by kernel_rfl) (fun _ _ _ h => h) (yields_tab (by rfl) _ rfl rfl (fun _ h => h)) hH ?_
        try simp [Act.put]
        refine wpAnyH_ready (rs := [1]) (by kernel_rfl) (by simp) (AllReadyH.cons rfl (fun K hK => ?_) AllReadyH.nil)
        go_simp
        go_at_call 19
        refine (right_calls w1.drew f).mono ?_
        rintro e w2 ⟨rfl, k2⟩
        rw [h1]
        refine hK.out _ _ (hH.chg k2 (fun h => h)) (fun hH2 => ?_)
        clear hK K hH
        try simp [Act.put]
        refine wpAnyH_ready (rs := [3]) (by kernel_rfl) (by simp) (AllReadyH.cons rfl (fun K hK => ?_) AllReadyH.nil)
        go_simp
        go_at_call 13
        refine (lawright w2 f _ h1).mono ?_
        rintro e w3 ⟨rfl, k3⟩
        refine hK.out _ _ (hH2.chg k3 (fun h => h)) (fun hH3 => ?_)
        clear hK K hH2
        try simp [Act.put]
        refine wpAnyH_ready (rs := [4]) (by kernel_rfl) (by simp) (AllReadyH.cons rfl (fun K hK => ?_) AllReadyH.nil)
        go_simp
        refine hK.out _ _ hH3 (fun hH4 => ?_)
        clear hK K hH3
        try simp [Act.put]
        refine wpAnyH_done (by kernel_rfl) ?_ _
        have Sx3 := hideIt (Sx1.out.drw.step (k2.trans k3))
        obtain ⟨q31, q32, q33⟩ := Sx3.out.cells
        have Z3 := hideIt (TabAt.chg (w := w1.drew) Z1.out (k2.trans k3) (fun h => h))
        clear k2 k3 hH4 q11 q12 q13
        go_wp2_with (first
          | (refine wpList_loadv _ rfl 24 _ rfl rfl Sx3.out.tf.load ?_)
          | (go_at_call 13; refine (lawright w3 f _ h1).mono ?_; rintro e w4 ⟨rfl, k4⟩; have Sx4 := hideIt (Sx3.out.step k4); obtain ⟨q41, q42, q43⟩ := Sx4.out.cells; have Z4 := hideIt (Z3.out.chg k4 (fun h => h)); clear k4 q31 q32 q33)
          | (go_at_call 14; refine (lawid w4 id _ h2).mono ?_; rintro e w9 ⟨rfl, rfl⟩)
          | (go_at_call 15; refine (lawepoch w4 ep _ h3).mono ?_; rintro e w9 ⟨rfl, rfl⟩)
          | (refine wpList_loadg _ rfl 24 _ rfl rfl Z4.out.load ?_)
          | (refine wpList_buildg rfl rfl ?_)
          | (refine wpList_eqtab rfl _ _ _ rfl rfl rfl HSZ.out ?_))
        go_ret
        exact ⟨rfl, Sx4.out.chg⟩
      | true =>
        have OK0 := hideIt (HOK.out.trans (by rfl) : okC f id ep = true)
        obtain ⟨g, hg⟩ : ∃ g, clT f id ep m.testBit = g := ⟨_, rfl⟩
        obtain ⟨t, ht⟩ : ∃ t, tkN f id ep m.testBit = t := ⟨_, rfl⟩
        have htl : t < 2 ^ 64 := by rw [← ht]; exact tkN_lt
        have HGR := hideIt (show rightT g = true by rw [← hg]; exact clT_right OK0.out)
        have HG := hideIt hg
        have HT := hideIt ht
        clear hg ht
        go_enter Tryd.func5, Tryd.ntmps5
        go_upto_region 4 with (first
          | (have _t := tokA; go_at_call 12; rw [← HB.out]; refine (anchor_calls wB S0.tw).mono ?_; rintro e wa ⟨rfl, ka⟩; clear tokA _t; have Sa := hideIt (S0.step ka); obtain ⟨q01, q02, q03⟩ := Sa.out.cells; clear ka S0 HB)
          | (refine wpList_loadv _ rfl 24 _ rfl rfl Sa.out.tf.load ?_)
          | (go_at_call 16; refine (claim_is wa Sa.out.tw f id ep m hm OK0.out g HG.out t HT.out).mono ?_; rintro e v1 ⟨rfl, k1⟩; obtain ⟨w1, s1, y1, c1⟩ := keep_tab v1 g; have Sx1 := hideIt (Sa.out.step (k1.trans c1)); obtain ⟨q11, q12, q13⟩ := Sx1.out.cells; have Z1 := hideIt y1; clear y1 k1 c1 q01 q02 q03)
          | (refine wpList_storev _ rfl 24 _ _ rfl rfl rfl s1 ?_; clear s1)
          | (refine wpList_allocagg _ rfl 24 rfl (zero_tab _) ?_))
        refine wp_region_held_drew (S := fun w' => TabAt w' w.heap.size f) (by kernel_rfl) (show TabAt w1.drew w.heap.size f from Sx1.out.tf) (fun hH => ?_)
        refine wpAnyH_take (i := 0) rfl (by kernel_rfl) (by kernel_rfl) (by kernel_rfl) (fun _ _ _ h => h) (yields_tab (by rfl) _ rfl rfl (fun _ h => h)) hH ?_
        try simp [Act.put]
        refine wpAnyH_take (i := 2) rfl (by kernel_rfl) (by kernel_rfl) (by kernel_rfl) (fun _ _ _ h => h) (yields_tab (by rfl) _ rfl rfl (fun _ h => h)) hH ?_
        try simp [Act.put]
        refine wpAnyH_ready (rs := [1]) (by kernel_rfl) (by simp) (AllReadyH.cons rfl (fun K hK => ?_) AllReadyH.nil)
        go_simp
        go_at_call 19
        refine (right_calls w1.drew f).mono ?_
        rintro e w2 ⟨rfl, k2⟩
        rw [h1]
        refine hK.out _ _ (hH.chg k2 (fun h => h)) (fun hH2 => ?_)
        clear hK K hH
        try simp [Act.put]
        refine wpAnyH_ready (rs := [3]) (by kernel_rfl) (by simp) (AllReadyH.cons rfl (fun K hK => ?_) AllReadyH.nil)
        go_simp
        go_at_call 13
        refine (lawright w2 f _ h1).mono ?_
        rintro e w3 ⟨rfl, k3⟩
        refine hK.out _ _ (hH2.chg k3 (fun h => h)) (fun hH3 => ?_)
        clear hK K hH2
        try simp [Act.put]
        refine wpAnyH_ready (rs := [4]) (by kernel_rfl) (by simp) (AllReadyH.cons rfl (fun K hK => ?_) AllReadyH.nil)
        go_simp
        refine hK.out _ _ hH3 (fun hH4 => ?_)
        clear hK K hH3
        try simp [Act.put]
        refine wpAnyH_done (by kernel_rfl) ?_ _
        have Sx3 := hideIt (Sx1.out.drw.step (k2.trans k3))
        obtain ⟨q31, q32, q33⟩ := Sx3.out.cells
        have Z3 := hideIt (TabAt.chg (w := w1.drew) Z1.out (k2.trans k3) (fun h => h))
        clear k2 k3 hH4 q11 q12 q13
        go_wp2_with (first
          | (refine wpList_loadv _ rfl 24 _ rfl rfl Sx3.out.tf.load ?_)
          | (go_at_call 13; refine (lawright w3 f _ h1).mono ?_; rintro e w4 ⟨rfl, k4⟩; have Sx4 := hideIt (Sx3.out.step k4); obtain ⟨q41, q42, q43⟩ := Sx4.out.cells; have Z4 := hideIt (Z3.out.chg k4 (fun h => h)); clear k4 q31 q32 q33)
          | (go_at_call 14; refine (lawid w4 id _ h2).mono ?_; rintro e w9 ⟨rfl, rfl⟩)
          | (go_at_call 15; refine (lawepoch w4 ep _ h3).mono ?_; rintro e w9 ⟨rfl, rfl⟩)
          | (refine wpList_loadg _ rfl 24 _ rfl rfl Z4.out.load ?_)
          | (go_at_call 19; refine (right_calls w4 g).mono ?_; rintro e w5 ⟨rfl, k5⟩; rw [HGR.out]; have Sx5 := hideIt (Sx4.out.step k5); have Z5 := hideIt (Z4.out.chg k5 (fun h => h)); clear k5 q41 q42 q43))
        go_loopw [64] (fun i wr => ∃ k : Nat, k ≤ 64 ∧ i = .int .i64 k ∧ Hid (St w wr w.heap.size f id ep m) ∧ Hid (TabAt wr v1.heap.size g)) (fun i _ => 64 - (intOf i).toNat)
        case atStart => exact ⟨0, by omega, rfl, Sx5, Z5⟩
        case round =>
          obtain ⟨k, hk, rfl, hS, hZ⟩ := hrel
          by_cases hk64 : k < 64
          · have hco := hS.out.tf.cell (show k < 128 by omega)
            have hce := hS.out.tf.cell (show 64 + k < 128 by omega)
            have gco := hZ.out.cell (show k < 128 by omega)
            have gce := hZ.out.cell (show 64 + k < 128 by omega)
            obtain ⟨g1, g2, g3⟩ := hS.out.cells
            obtain ⟨x, hxe⟩ : ∃ x, f k = x := ⟨_, rfl⟩
            obtain ⟨y, hye⟩ : ∃ y, f (64 + k) = y := ⟨_, rfl⟩
            obtain ⟨bt, hbt⟩ : ∃ b, m.testBit k = b := ⟨_, rfl⟩
            have hat := clT_at (id := id) (ep := ep) (p := m.testBit) hk64 hxe hye hbt
            rw [HG.out, HT.out] at hat
            rw [hxe] at hco
            rw [hye] at hce
            have HHM : Hid (∀ W, Calls Tryd.prog 20 #[.int .u64 (m : Int), .int .i64 (k : Int)] W fun e w' => e = .returned (.bool bt) ∧ W = w') := hideIt (fun W => by rw [← hbt]; exact has_calls W m hm k hk64)
            have HS : Hid (∀ n, Hid (St w (wr.drewN n) w.heap.size f id ep m)) := hideIt (fun n => hideIt (hS.out.drwN n))
            have HZ : Hid (∀ n, Hid (TabAt (wr.drewN n) v1.heap.size g)) := hideIt (fun n => hideIt hZ.out)
            clear hxe hye hbt hS hZ
            cases bt with
            | false =>
              obtain ⟨a1, a2, a3⟩ := hat
              have G1 : g k = x := a1.trans (by rfl)
              have G2 : g (64 + k) = y := a2.trans (by rfl)
              have HHT : Hid (∀ W, Calls Tryd.prog 20 #[.int .u64 (t : Int), .int .i64 (k : Int)] W fun e w' => e = .returned (.bool false) ∧ W = w') := hideIt (fun W => by rw [show false = t.testBit k from (a3.trans (by rfl)).symm]; exact has_calls W t htl k hk64)
              rw [G1] at gco
              rw [G2] at gce
              clear G1 G2 a1 a2 a3
              go_wp2
              go_quiet (fail)
              go_upto_region 19 with (first
                | (go_at_call 20; refine (HHM.out _).mono ?_; rintro e w9 ⟨rfl, rfl⟩))
              go_wp2_with (first
                | (go_at_call 20; refine (HHT.out _).mono ?_; rintro e w9 ⟨rfl, rfl⟩))
              all_goals
                go_roundw
                case rel => exact ⟨k + 1, by omega, by go_num, HS.out _, HZ.out _⟩
                case measure => simp [intOf]; omega
            | true =>
              by_cases c1 : x = id
              · have d1 : (x != id) = false := by simpa using c1
                have d2 : (x == id) = true := by simpa using c1
                obtain ⟨a1, a2, a3⟩ := hat
                have G1 : g k = x := a1.trans (by simp [d2])
                have G2 : g (64 + k) = max y ep := a2.trans (by simp [d2])
                have HHT : Hid (∀ W, Calls Tryd.prog 20 #[.int .u64 (t : Int), .int .i64 (k : Int)] W fun e w' => e = .returned (.bool false) ∧ W = w') := hideIt (fun W => by rw [show false = t.testBit k from (a3.trans (by simp [d2])).symm]; exact has_calls W t htl k hk64)
                rw [G1] at gco
                rw [G2] at gce
                clear G1 G2 a1 a2 a3
                go_wp2
                go_quiet (fail)
                go_upto_region 19 with (first
                  | (go_at_call 20; refine (HHM.out _).mono ?_; rintro e w9 ⟨rfl, rfl⟩))
                go_wp2_with (first
                  | (go_at_call 20; refine (HHT.out _).mono ?_; rintro e w9 ⟨rfl, rfl⟩))
                all_goals
                  go_roundw
                  case rel => exact ⟨k + 1, by omega, by go_num, HS.out _, HZ.out _⟩
                  case measure => simp [intOf]; omega
              · have d1 : (x != id) = true := by simpa using c1
                have d2 : (x == id) = false := by simpa using c1
                clear c1
                by_cases c2 : x = 0
                · have d3 : (x == 0) = true := by simpa using c2
                  clear c2
                  obtain ⟨a1, a2, a3⟩ := hat
                  have G1 : g k = id := a1.trans (by simp [d2, d3])
                  have G2 : g (64 + k) = ep := a2.trans (by simp [d2, d3])
                  have HHT : Hid (∀ W, Calls Tryd.prog 20 #[.int .u64 (t : Int), .int .i64 (k : Int)] W fun e w' => e = .returned (.bool true) ∧ W = w') := hideIt (fun W => by rw [show true = t.testBit k from (a3.trans (by simp [d2, d3])).symm]; exact has_calls W t htl k hk64)
                  rw [G1] at gco
                  rw [G2] at gce
                  clear G1 G2 a1 a2 a3
                  go_wp2
                  go_quiet (fail)
                  go_upto_region 16 with (first
                    | (go_at_call 20; refine (HHM.out _).mono ?_; rintro e w9 ⟨rfl, rfl⟩))
                  go_quiet (fail)
                  go_upto_region 19 with (first
                    | (go_at_call 20; refine (HHM.out _).mono ?_; rintro e w9 ⟨rfl, rfl⟩))
                  go_wp2_with (first
                    | (go_at_call 20; refine (HHT.out _).mono ?_; rintro e w9 ⟨rfl, rfl⟩))
                  all_goals
                    go_roundw
                    case rel => exact ⟨k + 1, by omega, by go_num, HS.out _, HZ.out _⟩
                    case measure => simp [intOf]; omega
                · have d3 : (x == 0) = false := by simpa using c2
                  clear c2
                  by_cases c3 : y < ep
                  · have d4 : decide (y < ep) = true := by simpa using c3
                    obtain ⟨a1, a2, a3⟩ := hat
                    have G1 : g k = id := a1.trans (by simp [d2, d3, d4])
                    have G2 : g (64 + k) = ep := a2.trans (by simp [d2, d3, d4])
                    have HHT : Hid (∀ W, Calls Tryd.prog 20 #[.int .u64 (t : Int), .int .i64 (k : Int)] W fun e w' => e = .returned (.bool true) ∧ W = w') := hideIt (fun W => by rw [show true = t.testBit k from (a3.trans (by simp [d2, d3, d4])).symm]; exact has_calls W t htl k hk64)
                    rw [G1] at gco
                    rw [G2] at gce
                    clear G1 G2 a1 a2 a3
                    go_wp2
                    go_quiet (fail)
                    go_upto_region 16 with (first
                      | (go_at_call 20; refine (HHM.out _).mono ?_; rintro e w9 ⟨rfl, rfl⟩))
                    go_quiet (fail)
                    go_upto_region 19 with (first
                      | (go_at_call 20; refine (HHM.out _).mono ?_; rintro e w9 ⟨rfl, rfl⟩))
                    go_wp2_with (first
                      | (go_at_call 20; refine (HHT.out _).mono ?_; rintro e w9 ⟨rfl, rfl⟩))
                    all_goals
                      go_roundw
                      case rel => exact ⟨k + 1, by omega, by go_num, HS.out _, HZ.out _⟩
                      case measure => simp [intOf]; omega
                  · have d4 : decide (y < ep) = false := by simpa using c3
                    obtain ⟨a1, a2, a3⟩ := hat
                    have G1 : g k = x := a1.trans (by simp [d2, d3, d4])
                    have G2 : g (64 + k) = y := a2.trans (by simp [d2, d3, d4])
                    have HHT : Hid (∀ W, Calls Tryd.prog 20 #[.int .u64 (t : Int), .int .i64 (k : Int)] W fun e w' => e = .returned (.bool false) ∧ W = w') := hideIt (fun W => by rw [show false = t.testBit k from (a3.trans (by simp [d2, d3, d4])).symm]; exact has_calls W t htl k hk64)
                    rw [G1] at gco
                    rw [G2] at gce
                    clear G1 G2 a1 a2 a3
                    go_wp2
                    go_quiet (fail)
                    go_upto_region 19 with (first
                      | (go_at_call 20; refine (HHM.out _).mono ?_; rintro e w9 ⟨rfl, rfl⟩))
                    go_wp2_with (first
                      | (go_at_call 20; refine (HHT.out _).mono ?_; rintro e w9 ⟨rfl, rfl⟩))
                    all_goals
                      go_roundw
                      case rel => exact ⟨k + 1, by omega, by go_num, HS.out _, HZ.out _⟩
                      case measure => simp [intOf]; omega
          · obtain rfl : k = 64 := by omega
            go_wp2
            go_ret
            exact ⟨rfl, hS.out.chg⟩
end Go.Proofs.YtgmekeeemimnpaaDoor
