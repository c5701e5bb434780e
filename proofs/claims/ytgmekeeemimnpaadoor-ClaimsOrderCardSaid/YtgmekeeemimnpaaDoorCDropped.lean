/- ClaimsDropped, walked. (Printed by wip/gen_cdropped.py.) -/
import Derived.Test.YtgmekeeemimnpaaDoorCDrops
namespace Go.Proofs.YtgmekeeemimnpaaDoor
open Go Go.Maps Go.MapKept Go.RowKit

theorem dp_all {f : Nat → Int} {id : Int} : dpN f id 0 = ofN f id := by
  unfold dpN
  refine bits_eq (Nat.lt_of_le_of_lt Nat.and_le_left (ofN_lt _ _)) (ofN_lt _ _) fun i hi => ?_
  rw [not_bit (by decide) hi]
  simp
theorem dp_none {f : Nat → Int} {id : Int} (hid : id ≠ 0) : ofN (dpT f (ofN f id).testBit) id = 0 := by
  refine bits_eq (ofN_lt _ _) (by decide) fun i hi => ?_
  rw [ofN_bit hi, dpT_own hi, ofN_bit hi]
  cases h1 : (f i == id) with
  | false => simp [h1]
  | true => simp; exact fun h => hid h.symm
theorem dp_zero {f : Nat → Int} {id : Int} : ofN (dpT f (ofN f id).testBit) 0 = (ofN f 0 ||| ofN f id) := by
  refine bits_eq (ofN_lt _ _) (Nat.or_lt_two_pow (ofN_lt _ _) (ofN_lt _ _)) fun i hi => ?_
  rw [ofN_bit hi, dpT_own hi, Nat.testBit_or, ofN_bit hi, ofN_bit hi]
  cases h1 : (f i == id) with
  | false => simp
  | true => simp
theorem dpT_right {f : Nat → Int} {p : Nat → Bool} (h : rightT f = true) : rightT (dpT f p) = true := by
  rw [rightT_iff] at h ⊢
  intro i hi
  have h1 := h i hi
  unfold ok1 at h1 ⊢
  rw [dpT_own hi, dpT_ep]
  cases p i with
  | false => simpa using h1
  | true => simp
theorem dp_take {f : Nat → Int} {id od ep : Int} (hod : od ≠ 0) : tkN (dpT f (ofN f id).testBit) od ep (ofN f id).testBit = ofN f id := by
  refine bits_eq tkN_lt (ofN_lt _ _) fun i hi => ?_
  rw [tkN_bit]
  unfold took
  rw [dpT_own hi, ofN_bit hi]
  cases h1 : (f i == id) with
  | false => simp
  | true => simp [hi]; exact fun h => hod h.symm
theorem dp_had {f : Nat → Int} {id od ep : Int} : (ofN (clT (dpT f (ofN f id).testBit) od ep (ofN f id).testBit) od &&& ofN f id) = ofN f id := by
  refine bits_eq (Nat.lt_of_le_of_lt Nat.and_le_right (ofN_lt _ _)) (ofN_lt _ _) fun i hi => ?_
  rw [Nat.testBit_and, ofN_bit hi, ofN_bit hi]
  cases h1 : (f i == id) with
  | false => simp
  | true =>
    have e : clT (dpT f (ofN f id).testBit) od ep (ofN f id).testBit i = od := by
      unfold clT took
      rw [if_pos hi, dpT_own hi, ofN_bit hi, h1]
      simp
    rw [e]
    simp

set_option maxRecDepth 100000 in
set_option maxHeartbeats 16000000 in
theorem dropped_law_calls (w : World) (hTW : TabW w) (f : Nat → Int) (id : Int) (_oi : okI id) (od : Int) (_oo : okI od) (ep : Int) (_oe : okI ep) :
    Calls Tryd.prog 7 #[.agg (tcs f), .int .i64 id, .int .i64 od, .int .i64 ep] w fun e w' => e = .returned (.bool true) ∧ Chg (fun _ => False) w w' := by
  have S0 := S1.start w hTW f
  obtain ⟨wB, hwB⟩ : ∃ wB, wB = w.alloc (.cells (tcs f) 24) := ⟨_, rfl⟩
  rw [← hwB] at S0
  have HB := hideIt hwB
  clear hwB hTW
  have tokA : True := trivial
  have tokD : True := trivial
  have tokI : True := trivial
  obtain ⟨r1, h1⟩ : ∃ r, rightT f = r := ⟨_, rfl⟩
  obtain ⟨r2, h2⟩ : ∃ r, idB id = r := ⟨_, rfl⟩
  obtain ⟨r3, h3⟩ : ∃ r, idB od = r := ⟨_, rfl⟩
  obtain ⟨r4, h4⟩ : ∃ r, epB ep = r := ⟨_, rfl⟩
  cases r1 with
  | false =>
    go_enter Tryd.func7, Tryd.ntmps7
    go_wp2_with (first
      | (have _t := tokA; go_at_call 12; rw [← HB.out]; refine (anchor_calls wB S0.tw).mono ?_; rintro e wa ⟨rfl, ka⟩; clear tokA _t; have Sa := hideIt (S0.step ka); clear ka S0 HB)
      | (have _t := tokD; refine wpList_loadv _ rfl 24 _ rfl rfl Sa.out.tf.load ?_; clear tokD _t)
      | (go_at_call 13; refine (lawright wa f _ h1).mono ?_; rintro e w1 ⟨rfl, k1⟩; have Sx1 := hideIt (Sa.out.step k1); clear k1)
      | (have _t := tokI; go_at_call 14; refine (lawid w1 id _ h2).mono ?_; rintro e w9 ⟨rfl, rfl⟩; clear tokI _t)
      | (go_at_call 14; refine (lawid w1 od _ h3).mono ?_; rintro e w9 ⟨rfl, rfl⟩)
      | (go_at_call 15; refine (lawepoch w1 ep _ h4).mono ?_; rintro e w9 ⟨rfl, rfl⟩))
    go_ret
    exact ⟨rfl, Sx1.out.chg⟩
  | true =>
    cases r2 with
    | false =>
      go_enter Tryd.func7, Tryd.ntmps7
      go_wp2_with (first
        | (have _t := tokA; go_at_call 12; rw [← HB.out]; refine (anchor_calls wB S0.tw).mono ?_; rintro e wa ⟨rfl, ka⟩; clear tokA _t; have Sa := hideIt (S0.step ka); clear ka S0 HB)
        | (have _t := tokD; refine wpList_loadv _ rfl 24 _ rfl rfl Sa.out.tf.load ?_; clear tokD _t)
        | (go_at_call 13; refine (lawright wa f _ h1).mono ?_; rintro e w1 ⟨rfl, k1⟩; have Sx1 := hideIt (Sa.out.step k1); clear k1)
        | (have _t := tokI; go_at_call 14; refine (lawid w1 id _ h2).mono ?_; rintro e w9 ⟨rfl, rfl⟩; clear tokI _t)
        | (go_at_call 14; refine (lawid w1 od _ h3).mono ?_; rintro e w9 ⟨rfl, rfl⟩)
        | (go_at_call 15; refine (lawepoch w1 ep _ h4).mono ?_; rintro e w9 ⟨rfl, rfl⟩))
      go_ret
      exact ⟨rfl, Sx1.out.chg⟩
    | true =>
      cases r3 with
      | false =>
        go_enter Tryd.func7, Tryd.ntmps7
        go_wp2_with (first
          | (have _t := tokA; go_at_call 12; rw [← HB.out]; refine (anchor_calls wB S0.tw).mono ?_; rintro e wa ⟨rfl, ka⟩; clear tokA _t; have Sa := hideIt (S0.step ka); clear ka S0 HB)
          | (have _t := tokD; refine wpList_loadv _ rfl 24 _ rfl rfl Sa.out.tf.load ?_; clear tokD _t)
          | (go_at_call 13; refine (lawright wa f _ h1).mono ?_; rintro e w1 ⟨rfl, k1⟩; have Sx1 := hideIt (Sa.out.step k1); clear k1)
          | (have _t := tokI; go_at_call 14; refine (lawid w1 id _ h2).mono ?_; rintro e w9 ⟨rfl, rfl⟩; clear tokI _t)
          | (go_at_call 14; refine (lawid w1 od _ h3).mono ?_; rintro e w9 ⟨rfl, rfl⟩)
          | (go_at_call 15; refine (lawepoch w1 ep _ h4).mono ?_; rintro e w9 ⟨rfl, rfl⟩))
        go_ret
        exact ⟨rfl, Sx1.out.chg⟩
      | true =>
        cases r4 with
        | false =>
          go_enter Tryd.func7, Tryd.ntmps7
          go_wp2_with (first
            | (have _t := tokA; go_at_call 12; rw [← HB.out]; refine (anchor_calls wB S0.tw).mono ?_; rintro e wa ⟨rfl, ka⟩; clear tokA _t; have Sa := hideIt (S0.step ka); clear ka S0 HB)
            | (have _t := tokD; refine wpList_loadv _ rfl 24 _ rfl rfl Sa.out.tf.load ?_; clear tokD _t)
            | (go_at_call 13; refine (lawright wa f _ h1).mono ?_; rintro e w1 ⟨rfl, k1⟩; have Sx1 := hideIt (Sa.out.step k1); clear k1)
            | (have _t := tokI; go_at_call 14; refine (lawid w1 id _ h2).mono ?_; rintro e w9 ⟨rfl, rfl⟩; clear tokI _t)
            | (go_at_call 14; refine (lawid w1 od _ h3).mono ?_; rintro e w9 ⟨rfl, rfl⟩)
            | (go_at_call 15; refine (lawepoch w1 ep _ h4).mono ?_; rintro e w9 ⟨rfl, rfl⟩))
          go_ret
          exact ⟨rfl, Sx1.out.chg⟩
        | true =>
          have tokL : True := trivial
          have OK0 := hideIt (show okD f id = true by rw [okD_eq, h1, h2]; rfl)
          have hid : id ≠ 0 := by unfold idB at h2; simp at h2; omega
          have hod : od ≠ 0 := by unfold idB at h3; simp at h3; omega
          obtain ⟨so, hso⟩ : ∃ so, ofN f id = so := ⟨_, rfl⟩
          have hsl : so < 2 ^ 64 := by rw [← hso]; exact ofN_lt _ _
          obtain ⟨g, hg⟩ : ∃ g, dpT f so.testBit = g := ⟨_, rfl⟩
          have HD := hideIt (dp_all.trans hso)
          have HG := hideIt hg
          have hOKG : okC g od ep = true := by
            rw [okC_eq, ← hg, dpT_right h1, h3, h4]; rfl
          have HOKG := hideIt hOKG
          have e1 : ofN g id = 0 := by rw [← hg, ← hso]; exact dp_none hid
          obtain ⟨sz, hsz⟩ : ∃ sz, ofN f 0 = sz := ⟨_, rfl⟩
          have hzl : sz < 2 ^ 64 := by rw [← hsz]; exact ofN_lt _ _
          obtain ⟨sy, hsy⟩ : ∃ sy, ofN g 0 = sy := ⟨_, rfl⟩
          have e2 : sy = (sz ||| so) := by rw [← hsy, ← hg, ← hso, ← hsz]; exact dp_zero
          have hor : bits .or .u64 (sz : Int) (so : Int) = (sy : Int) := by rw [u64_or_nat _ _ hzl hsl, e2]
          obtain ⟨g2, hg2⟩ : ∃ g2, clT g od ep so.testBit = g2 := ⟨_, rfl⟩
          have e3 : tkN g od ep so.testBit = so := by rw [← hg, ← hso]; exact dp_take hod
          obtain ⟨sb, hsb⟩ : ∃ sb, ofN g2 od = sb := ⟨_, rfl⟩
          have hbl : sb < 2 ^ 64 := by rw [← hsb]; exact ofN_lt _ _
          have e4 : (sb &&& so) = so := by rw [← hsb, ← hg2, ← hg, ← hso]; exact dp_had
          have hand : bits .and .u64 (sb : Int) (so : Int) = (so : Int) := by rw [u64_and_nat _ _ hbl hsl, e4]
          have HOF := hideIt (fun W : World => of_calls W f id)
          rw [hso] at HOF
          have HOG := hideIt (fun W : World => of_calls W g id)
          rw [e1] at HOG
          have HOG0 := hideIt (fun W : World => of_calls W g 0)
          rw [hsy] at HOG0
          have HOF0 := hideIt (fun W : World => of_calls W f 0)
          rw [hsz] at HOF0
          have HOB := hideIt (fun W : World => of_calls W g2 od)
          rw [hsb] at HOB
          have HG2 := hideIt hg2
          have HT2 := hideIt e3
          clear hso hg hOKG e1 hsz hsy e2 hg2 e3 hsb e4 hid hod
          go_enter Tryd.func7, Tryd.ntmps7
          go_upto_region 7 with (first
            | (have _t := tokA; go_at_call 12; rw [← HB.out]; refine (anchor_calls wB S0.tw).mono ?_; rintro e wa ⟨rfl, ka⟩; clear tokA _t; have Sa := hideIt (S0.step ka); clear ka S0 HB)
            | (have _t := tokD; refine wpList_loadv _ rfl 24 _ rfl rfl Sa.out.tf.load ?_; clear tokD _t)
            | (go_at_call 13; refine (lawright wa f _ h1).mono ?_; rintro e w1 ⟨rfl, k1⟩; have Sx1 := hideIt (Sa.out.step k1); clear k1)
            | (have _t := tokI; go_at_call 14; refine (lawid w1 id _ h2).mono ?_; rintro e w9 ⟨rfl, rfl⟩; clear tokI _t)
            | (go_at_call 14; refine (lawid w1 od _ h3).mono ?_; rintro e w9 ⟨rfl, rfl⟩)
            | (go_at_call 15; refine (lawepoch w1 ep _ h4).mono ?_; rintro e w9 ⟨rfl, rfl⟩)
            | (have _t := tokL; refine wpList_loadv _ rfl 24 _ rfl rfl Sx1.out.tf.load ?_; clear tokL _t)
            | (go_at_call 17; refine (HOF.out _).mono ?_; rintro e w2 ⟨rfl, k2⟩; have Sx2 := hideIt (Sx1.out.step k2); clear k2)
            | (refine wpList_loadv _ rfl 24 _ rfl rfl Sx2.out.tf.load ?_)
            | (go_at_call 23; refine (drop_is w2 Sx2.out.tw f id 0 (by decide) OK0.out so HD.out g HG.out).mono ?_; rintro e v3 ⟨rfl, k3⟩; obtain ⟨w3, s3, y3, c3⟩ := keep_tab v3 g; have Sx3 := hideIt (Sx2.out.step (k3.trans c3)); have Z3 := hideIt y3; clear y3 k3 c3)
            | (refine wpList_storev _ rfl 24 _ _ rfl rfl rfl s3 ?_; clear s3)
            | (refine wpList_allocagg _ rfl 24 rfl (zero_tab _) ?_))
          refine wp_region_held_drew (S := fun w' => TabAt w' w.heap.size f ∧ TabAt w' v3.heap.size g) (by kernel_rfl) (show TabAt w3.drew w.heap.size f ∧ TabAt w3.drew v3.heap.size g from ⟨Sx3.out.tf, Z3.out⟩) (fun hH0 => ?_)
          refine wpAnyH_take (i := 0) (v := (.int .i64 0)) rfl (by kernel_rfl) (by kernel_rfl) (by kernel_rfl) (fun _ _ _ h => h) (Or.inl ⟨by rfl, fun _ _ => rfl⟩) hH0 ?_
          try simp [Act.put]
          refine wpAnyH_take (i := 1) (v := (.bool false)) rfl (by kernel_rfl) (by kernel_rfl) (by kernel_rfl) (fun _ _ _ h => h) (Or.inl ⟨by rfl, fun _ hSw => by first | (go_simp; done) | rfl⟩) hH0 ?_
          try simp [Act.put]
          refine wpAnyH_take (i := 2) (v := (.bool false)) rfl (by kernel_rfl) (by kernel_rfl) (by kernel_rfl) (fun _ _ _ h => h) (Or.inl ⟨by rfl, fun _ _ => rfl⟩) hH0 ?_
          try simp [Act.put]
          refine wpAnyH_take (i := 3) (v := (.int .u64 (so : Int))) rfl (by kernel_rfl) (by kernel_rfl) (by kernel_rfl) (fun _ _ _ h => h) (Or.inl ⟨by rfl, fun _ _ => rfl⟩) hH0 ?_
          try simp [Act.put]
          refine wpAnyH_take (i := 4) (v := (.int .u64 (so : Int))) rfl (by kernel_rfl) (by kernel_rfl) (by kernel_rfl) (fun _ _ _ h => h) (Or.inl ⟨by rfl, fun _ _ => rfl⟩) hH0 ?_
          try simp [Act.put]
          refine wpAnyH_take (i := 5) (v := (.bool false)) rfl (by kernel_rfl) (by kernel_rfl) (by kernel_rfl) (fun _ _ _ h => h) (Or.inl ⟨by rfl, fun _ hSw => by first | (go_simp; done) | rfl⟩) hH0 ?_
          try simp [Act.put]
          refine wpAnyH_take (i := 6) (v := (.bool false)) rfl (by kernel_rfl) (by kernel_rfl) (by kernel_rfl) (fun _ _ _ h => h) (Or.inl ⟨by rfl, fun _ hSw => by first | (go_simp; done) | rfl⟩) hH0 ?_
          try simp [Act.put]
          refine wpAnyH_take (i := 7) (v := (.bool false)) rfl (by kernel_rfl) (by kernel_rfl) (by kernel_rfl) (fun _ _ _ h => h) (Or.inl ⟨by rfl, fun _ _ => rfl⟩) hH0 ?_
          try simp [Act.put]
          refine wpAnyH_take (i := 8) rfl (by kernel_rfl) (by kernel_rfl) (by kernel_rfl) (fun _ _ _ h => h) (yields_tab (by rfl) _ rfl rfl (fun _ h => h.2)) hH0 ?_
          try simp [Act.put]
          refine wpAnyH_take (i := 9) (v := (.int .i64 id)) rfl (by kernel_rfl) (by kernel_rfl) (by kernel_rfl) (fun _ _ _ h => h) (Or.inl ⟨by rfl, fun _ _ => rfl⟩) hH0 ?_
          try simp [Act.put]
          refine wpAnyH_ready (rs := [10]) (by kernel_rfl) (by simp) (AllReadyH.cons rfl (fun K hK => ?_) AllReadyH.nil)
          go_simp
          go_at_call 17
          refine (HOG.out _).mono ?_
          rintro e w4 ⟨rfl, k4⟩
          refine hK.out _ _ (⟨hH0.1.chg k4 (fun h => h), hH0.2.chg k4 (fun h => h)⟩) (fun hH1 => ?_)
          clear hK K hH0
          try simp
          refine wpAnyH_take (i := 11) (v := (.bool false)) rfl (by kernel_rfl) (by kernel_rfl) (by kernel_rfl) (fun _ _ _ h => h) (Or.inl ⟨by rfl, fun _ hSw => by first | (go_simp; done) | rfl⟩) hH1 ?_
          try simp [Act.put]
          refine wpAnyH_take (i := 12) (v := (.bool false)) rfl (by kernel_rfl) (by kernel_rfl) (by kernel_rfl) (fun _ _ _ h => h) (Or.inl ⟨by rfl, fun _ hSw => by first | (go_simp; done) | rfl⟩) hH1 ?_
          try simp [Act.put]
          refine wpAnyH_take (i := 13) (v := (.bool false)) rfl (by kernel_rfl) (by kernel_rfl) (by kernel_rfl) (fun _ _ _ h => h) (Or.inl ⟨by rfl, fun _ _ => rfl⟩) hH1 ?_
          try simp [Act.put]
          refine wpAnyH_take (i := 14) rfl (by kernel_rfl) (by kernel_rfl) (by kernel_rfl) (fun _ _ _ h => h) (yields_tab (by rfl) _ rfl rfl (fun _ h => h.2)) hH1 ?_
          try simp [Act.put]
          refine wpAnyH_take (i := 16) rfl (by kernel_rfl) (by kernel_rfl) (by kernel_rfl) (fun _ _ _ h => h) (yields_tab (by rfl) _ rfl rfl (fun _ h => h.1)) hH1 ?_
          try simp [Act.put]
          refine wpAnyH_take (i := 18) (v := (.int .u64 (so : Int))) rfl (by kernel_rfl) (by kernel_rfl) (by kernel_rfl) (fun _ _ _ h => h) (Or.inl ⟨by rfl, fun _ _ => rfl⟩) hH1 ?_
          try simp [Act.put]
          refine wpAnyH_ready (rs := [15]) (by kernel_rfl) (by simp) (AllReadyH.cons rfl (fun K hK => ?_) AllReadyH.nil)
          go_simp
          go_at_call 17
          refine (HOG0.out _).mono ?_
          rintro e w5 ⟨rfl, k5⟩
          refine hK.out _ _ (⟨hH1.1.chg k5 (fun h => h), hH1.2.chg k5 (fun h => h)⟩) (fun hH2 => ?_)
          clear hK K hH1
          try simp
          refine wpAnyH_ready (rs := [17]) (by kernel_rfl) (by simp) (AllReadyH.cons rfl (fun K hK => ?_) AllReadyH.nil)
          go_simp
          go_at_call 17
          refine (HOF0.out _).mono ?_
          rintro e w6 ⟨rfl, k6⟩
          refine hK.out _ _ (⟨hH2.1.chg k6 (fun h => h), hH2.2.chg k6 (fun h => h)⟩) (fun hH3 => ?_)
          clear hK K hH2
          try simp
          refine wpAnyH_take (i := 19) (v := (.int .u64 (sy : Int))) rfl (by kernel_rfl) (by kernel_rfl) (by kernel_rfl) (fun _ _ _ h => h) (Or.inl ⟨by rfl, fun _ hSw => by first | (go_simp; done) | rfl⟩) hH3 ?_
          try simp [Act.put]
          refine wpAnyH_take (i := 20) (v := (.bool false)) rfl (by kernel_rfl) (by kernel_rfl) (by kernel_rfl) (fun _ _ _ h => h) (Or.inl ⟨by rfl, fun _ hSw => by first | (go_simp; done) | rfl⟩) hH3 ?_
          try simp [Act.put]
          refine wpAnyH_take (i := 21) (v := (.bool false)) rfl (by kernel_rfl) (by kernel_rfl) (by kernel_rfl) (fun _ _ _ h => h) (Or.inl ⟨by rfl, fun _ hSw => by first | (go_simp; done) | rfl⟩) hH3 ?_
          refine wpAnyH_done (by kernel_rfl) ?_ _
          have Sx6 := hideIt ((⟨Sx3.out.chg.drew, Sx3.out.tw, Sx3.out.tf⟩ : S1 w w3.drew w.heap.size f).step ((k4.trans k5).trans k6))
          have Z6 := hideIt (TabAt.chg (w := w3.drew) Z3.out ((k4.trans k5).trans k6) (fun h => h))
          clear k4 k5 k6 hH3
          go_wp2_with (first
            | (refine wpList_loadv _ rfl 24 _ rfl rfl Z6.out.load ?_)
            | (go_at_call 16; refine (claim_is w6 Sx6.out.tw g od ep so hsl HOKG.out g2 HG2.out so HT2.out).mono ?_; rintro e v7 ⟨rfl, k7⟩; obtain ⟨w7, s7, y7, c7⟩ := keep_tab v7 g2; have Sx7 := hideIt (Sx6.out.step (k7.trans c7)); have Z7 := hideIt y7; clear y7 k7 c7)
            | (refine wpList_storev _ rfl 24 _ _ rfl rfl rfl s7 ?_; clear s7)
            | (refine wpList_allocagg _ rfl 24 rfl (zero_tab _) ?_)
            | (refine wpList_loadg _ rfl 24 _ rfl rfl Z7.out.load ?_)
            | (go_at_call 17; refine (HOB.out _).mono ?_; rintro e w8 ⟨rfl, k8⟩; have Sx8 := hideIt (Sx7.out.step k8); clear k8))
          go_ret
          exact ⟨rfl, Sx8.out.chg⟩
end Go.Proofs.YtgmekeeemimnpaaDoor
