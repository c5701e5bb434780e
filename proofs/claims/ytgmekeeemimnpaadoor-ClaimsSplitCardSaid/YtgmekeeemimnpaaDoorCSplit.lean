/- ClaimsSplit: a claim of a set is the claims of its parts. (Its arms are printed by wip/gen_split.py.) -/
import Derived.Test.YtgmekeeemimnpaaDoorC9
import Derived.Deep.Cut
namespace Go.Proofs.YtgmekeeemimnpaaDoor
open Go Go.Maps Go.MapKept Go.RowKit

theorem tkN_split {f : Nat → Int} {id ep : Int} {p q r : Nat → Bool} (hr : ∀ i, i < 64 → r i = (p i || q i)) (hd : ∀ i, i < 64 → (p i && q i) = false) :
    tkN f id ep p ||| tkN (clT f id ep p) id ep q = tkN f id ep r := by
  refine bits_eq (Nat.or_lt_two_pow tkN_lt tkN_lt) tkN_lt fun i hi => ?_
  rw [Nat.testBit_or, tkN_bit, tkN_bit, tkN_bit, hr i hi]
  have hdi := hd i hi
  cases hp : p i with
  | false =>
    have e1 : clT f id ep p i = f i := clT_own hi hp
    have e2 : clT f id ep p (64 + i) = f (64 + i) := clT_ep hi hp
    have e3 : took (clT f id ep p) id ep i = took f id ep i := by unfold took; rw [e1, e2]
    rw [e3]
    simp
  | true =>
    have hq : q i = false := by rw [hp] at hdi; simpa using hdi
    rw [hq]
    simp
theorem andNot_bit {m q i : Nat} (hq : q < 2 ^ 64) (hi : i < 64) : (m &&& (18446744073709551615 - q)).testBit i = (m.testBit i && !q.testBit i) := by
  rw [Nat.testBit_and]
  have h := Nat.testBit_two_pow_sub_succ (n := 64) hq i
  rw [show (2 : Nat) ^ 64 - (q + 1) = 18446744073709551615 - q by omega] at h
  rw [h]
  simp [hi]

set_option maxRecDepth 100000 in
set_option maxHeartbeats 8000000 in
theorem split_calls (w : World) (hTW : TabW w) (f : Nat → Int) (id ep : Int) (m : Nat) (hm : m < 2 ^ 64) (_oi : okI id) (_oe : okI ep) (part : Nat) (hpt : part < 2 ^ 64) :
    Calls Tryd.prog 4 #[.agg (tcs f), .agg #[.int .i64 id, .int .i64 ep, .int .u64 (m : Int)], .int .u64 (part : Int)] w fun e w' => e = .returned (.bool true) ∧ Chg (fun _ => False) w w' := by
  have S0 := St.start w hTW f id ep m
  obtain ⟨wB, hwB⟩ : ∃ wB, wB = (w.alloc (.cells (tcs f) 24)).alloc (.cells #[.int .i64 id, .int .i64 ep, .int .u64 (m : Int)] 28) := ⟨_, rfl⟩
  rw [← hwB] at S0
  have HB := hideIt hwB
  clear hwB hTW
  have tokA : True := trivial
  have tokR : True := trivial
  obtain ⟨r1, h1⟩ : ∃ r, rightT f = r := ⟨_, rfl⟩
  obtain ⟨r2, h2⟩ : ∃ r, idB id = r := ⟨_, rfl⟩
  obtain ⟨r3, h3⟩ : ∃ r, epB ep = r := ⟨_, rfl⟩
  have hok : okC f id ep = (r1 && r2 && r3) := by rw [okC_eq, h1, h2, h3]
  have HOK := hideIt hok
  clear hok
  cases r1 with
  | false =>
    go_enter Tryd.func4, Tryd.ntmps4
    go_wp2_with (first
      | (have _t := tokA; go_at_call 12; rw [← HB.out]; refine (anchor_calls wB S0.tw).mono ?_; rintro e wa ⟨rfl, ka⟩; clear tokA _t; have Sa := hideIt (S0.step ka); clear ka S0 HB)
      | (refine wpList_loadv _ rfl 24 _ rfl rfl Sa.out.tf.load ?_)
      | (have _t := tokR; go_at_call 13; refine (lawright wa f _ h1).mono ?_; rintro e w0 ⟨rfl, k0⟩; clear tokR _t; have Sx0 := hideIt (Sa.out.step k0); obtain ⟨q01, q02, q03⟩ := Sx0.out.cells; clear k0)
      | (go_at_call 14; refine (lawid w0 id _ h2).mono ?_; rintro e w9 ⟨rfl, rfl⟩)
      | (go_at_call 15; refine (lawepoch w0 ep _ h3).mono ?_; rintro e w9 ⟨rfl, rfl⟩))
    go_ret
    exact ⟨rfl, Sx0.out.chg⟩
  | true =>
    cases r2 with
    | false =>
      go_enter Tryd.func4, Tryd.ntmps4
      go_wp2_with (first
        | (have _t := tokA; go_at_call 12; rw [← HB.out]; refine (anchor_calls wB S0.tw).mono ?_; rintro e wa ⟨rfl, ka⟩; clear tokA _t; have Sa := hideIt (S0.step ka); clear ka S0 HB)
        | (refine wpList_loadv _ rfl 24 _ rfl rfl Sa.out.tf.load ?_)
        | (have _t := tokR; go_at_call 13; refine (lawright wa f _ h1).mono ?_; rintro e w0 ⟨rfl, k0⟩; clear tokR _t; have Sx0 := hideIt (Sa.out.step k0); obtain ⟨q01, q02, q03⟩ := Sx0.out.cells; clear k0)
        | (go_at_call 14; refine (lawid w0 id _ h2).mono ?_; rintro e w9 ⟨rfl, rfl⟩)
        | (go_at_call 15; refine (lawepoch w0 ep _ h3).mono ?_; rintro e w9 ⟨rfl, rfl⟩))
      go_ret
      exact ⟨rfl, Sx0.out.chg⟩
    | true =>
      cases r3 with
      | false =>
        go_enter Tryd.func4, Tryd.ntmps4
        go_wp2_with (first
          | (have _t := tokA; go_at_call 12; rw [← HB.out]; refine (anchor_calls wB S0.tw).mono ?_; rintro e wa ⟨rfl, ka⟩; clear tokA _t; have Sa := hideIt (S0.step ka); clear ka S0 HB)
          | (refine wpList_loadv _ rfl 24 _ rfl rfl Sa.out.tf.load ?_)
          | (have _t := tokR; go_at_call 13; refine (lawright wa f _ h1).mono ?_; rintro e w0 ⟨rfl, k0⟩; clear tokR _t; have Sx0 := hideIt (Sa.out.step k0); obtain ⟨q01, q02, q03⟩ := Sx0.out.cells; clear k0)
          | (go_at_call 14; refine (lawid w0 id _ h2).mono ?_; rintro e w9 ⟨rfl, rfl⟩)
          | (go_at_call 15; refine (lawepoch w0 ep _ h3).mono ?_; rintro e w9 ⟨rfl, rfl⟩))
        go_ret
        exact ⟨rfl, Sx0.out.chg⟩
      | true =>
        have OK0 := hideIt (HOK.out.trans (by rfl) : okC f id ep = true)
        obtain ⟨mp, hmpe⟩ : ∃ mp, m &&& part = mp := ⟨_, rfl⟩
        obtain ⟨mq, hmqe⟩ : ∃ mq, m &&& (18446744073709551615 - part) = mq := ⟨_, rfl⟩
        have hmp : mp < 2 ^ 64 := by rw [← hmpe]; exact Nat.lt_of_le_of_lt Nat.and_le_left hm
        have hmq : mq < 2 ^ 64 := by rw [← hmqe]; exact Nat.lt_of_le_of_lt Nat.and_le_left hm
        have hand : bits .and .u64 (m : Int) (part : Int) = (mp : Int) := by rw [u64_and_nat _ _ hm hpt, hmpe]
        have handn : bits .andNot .u64 (m : Int) (part : Int) = (mq : Int) := by rw [u64_andNot_nat _ _ hm hpt, hmqe]
        have hb : ∀ i, i < 64 → m.testBit i = (mp.testBit i || mq.testBit i) := fun i hi => by
          rw [← hmpe, ← hmqe, andNot_bit hpt hi, Nat.testBit_and]
          cases m.testBit i <;> cases part.testBit i <;> rfl
        have hd : ∀ i, i < 64 → (mp.testBit i && mq.testBit i) = false := fun i hi => by
          rw [← hmpe, ← hmqe, andNot_bit hpt hi, Nat.testBit_and]
          cases m.testBit i <;> cases part.testBit i <;> rfl
        have OK2 := hideIt (clT_okC (p := mp.testBit) OK0.out)
        have OK4 := hideIt (clT_okC (p := mq.testBit) OK0.out)
        have hsame1 : sameT (clT f id ep m.testBit) (clT (clT f id ep mp.testBit) id ep mq.testBit) = true := sameT_true fun j hj => (clT_congr hb j hj).trans (clT_clT j hj).symm
        have hsame2 : sameT (clT f id ep m.testBit) (clT (clT f id ep mq.testBit) id ep mp.testBit) = true := sameT_true fun j hj => (clT_congr (fun i hi => (hb i hi).trans (Bool.or_comm _ _)) j hj).trans (clT_clT j hj).symm
        have htk := tkN_split (f := f) (id := id) (ep := ep) hb hd
        obtain ⟨g1, hg1⟩ : ∃ g, clT f id ep m.testBit = g := ⟨_, rfl⟩
        obtain ⟨t1, ht1⟩ : ∃ t, tkN f id ep m.testBit = t := ⟨_, rfl⟩
        obtain ⟨g2, hg2⟩ : ∃ g, clT f id ep mp.testBit = g := ⟨_, rfl⟩
        obtain ⟨t2, ht2⟩ : ∃ t, tkN f id ep mp.testBit = t := ⟨_, rfl⟩
        obtain ⟨g4, hg4⟩ : ∃ g, clT f id ep mq.testBit = g := ⟨_, rfl⟩
        obtain ⟨t4, ht4⟩ : ∃ t, tkN f id ep mq.testBit = t := ⟨_, rfl⟩
        rw [hg2] at OK2 hsame1 htk
        rw [hg4] at OK4 hsame2
        obtain ⟨g3, hg3⟩ : ∃ g, clT g2 id ep mq.testBit = g := ⟨_, rfl⟩
        obtain ⟨t3, ht3⟩ : ∃ t, tkN g2 id ep mq.testBit = t := ⟨_, rfl⟩
        obtain ⟨g5, hg5⟩ : ∃ g, clT g4 id ep mp.testBit = g := ⟨_, rfl⟩
        obtain ⟨t5, ht5⟩ : ∃ t, tkN g4 id ep mp.testBit = t := ⟨_, rfl⟩
        rw [hg1, hg3] at hsame1
        rw [hg1, hg5] at hsame2
        have hor : bits .or .u64 (t2 : Int) (t3 : Int) = (t1 : Int) := by
          rw [u64_or_nat _ _ (by rw [← ht2]; exact tkN_lt) (by rw [← ht3]; exact tkN_lt), ← ht2, ← ht3, htk, ht1]
        have HG1 := hideIt hg1
        have HG2 := hideIt hg2
        have HG3 := hideIt hg3
        have HG4 := hideIt hg4
        have HG5 := hideIt hg5
        have HT1 := hideIt ht1
        have HT2 := hideIt ht2
        have HT3 := hideIt ht3
        have HT4 := hideIt ht4
        have HT5 := hideIt ht5
        have hs1 := hsame1
        have hs2 := hsame2
        clear hg1 hg2 hg3 hg4 hg5 ht1 ht2 ht3 ht4 ht5 hmpe hmqe hb hd htk hsame1 hsame2
        have tok1 : True := trivial
        have tok2 : True := trivial
        have tok3 : True := trivial
        have tok4 : True := trivial
        have tok5 : True := trivial
        go_enter Tryd.func4, Tryd.ntmps4
        go_upto_region 5 with (first
          | (have _t := tokA; go_at_call 12; rw [← HB.out]; refine (anchor_calls wB S0.tw).mono ?_; rintro e wa ⟨rfl, ka⟩; clear tokA _t; have Sa := hideIt (S0.step ka); clear ka S0 HB)
          | (refine wpList_loadv _ rfl 24 _ rfl rfl Sa.out.tf.load ?_)
          | (have _t := tokR; go_at_call 13; refine (lawright wa f _ h1).mono ?_; rintro e w0 ⟨rfl, k0⟩; clear tokR _t; have Sx0 := hideIt (Sa.out.step k0); obtain ⟨q01, q02, q03⟩ := Sx0.out.cells; clear k0)
          | (go_at_call 14; refine (lawid w0 id _ h2).mono ?_; rintro e w9 ⟨rfl, rfl⟩)
          | (go_at_call 15; refine (lawepoch w0 ep _ h3).mono ?_; rintro e w9 ⟨rfl, rfl⟩))
        go_upto_region 6 with (first
          | (refine wpList_loadv _ rfl 24 _ rfl rfl Sx0.out.tf.load ?_)
          | (have _t := tok1; go_at_call 16; refine (claim_is w0 Sx0.out.tw f id ep m hm OK0.out g1 HG1.out t1 HT1.out).mono ?_; rintro e v1 ⟨rfl, k1⟩; clear tok1 _t; obtain ⟨w1, s1, y1, c1⟩ := keep_tab v1 g1; have Sx1 := hideIt (Sx0.out.step (k1.trans c1)); obtain ⟨q11, q12, q13⟩ := Sx1.out.cells; have T1_1 := hideIt y1; clear y1 k1 c1 q01 q02 q03)
          | (refine wpList_storev _ rfl 24 _ _ rfl rfl rfl s1 ?_; clear s1)
          | (refine wpList_allocagg _ rfl 24 rfl (zero_tab _) ?_))
        go_upto_region 7 with (first
          | (refine wpList_loadv _ rfl 24 _ rfl rfl Sx1.out.tf.load ?_)
          | (have _t := tok2; go_at_call 16; refine (claim_is w1 Sx1.out.tw f id ep mp hmp OK0.out g2 HG2.out t2 HT2.out).mono ?_; rintro e v2 ⟨rfl, k2⟩; clear tok2 _t; obtain ⟨w2, s2, y2, c2⟩ := keep_tab v2 g2; have Sx2 := hideIt (Sx1.out.step (k2.trans c2)); obtain ⟨q21, q22, q23⟩ := Sx2.out.cells; have T2_2 := hideIt y2; have T1_2 := hideIt (T1_1.out.chg (k2.trans c2) (fun h => h)); clear y2 k2 c2 q11 q12 q13)
          | (refine wpList_storev _ rfl 24 _ _ rfl rfl rfl s2 ?_; clear s2)
          | (refine wpList_allocagg _ rfl 24 rfl (zero_tab _) ?_))
        go_upto_region 8 with (first
          | (refine wpList_loadv _ rfl 24 _ rfl rfl T2_2.out.load ?_)
          | (have _t := tok3; go_at_call 16; refine (claim_is w2 Sx2.out.tw g2 id ep mq hmq OK2.out g3 HG3.out t3 HT3.out).mono ?_; rintro e v3 ⟨rfl, k3⟩; clear tok3 _t; obtain ⟨w3, s3, y3, c3⟩ := keep_tab v3 g3; have Sx3 := hideIt (Sx2.out.step (k3.trans c3)); obtain ⟨q31, q32, q33⟩ := Sx3.out.cells; have T3_3 := hideIt y3; have T1_3 := hideIt (T1_2.out.chg (k3.trans c3) (fun h => h)); have T2_3 := hideIt (T2_2.out.chg (k3.trans c3) (fun h => h)); clear y3 k3 c3 q21 q22 q23)
          | (refine wpList_storev _ rfl 24 _ _ rfl rfl rfl s3 ?_; clear s3)
          | (refine wpList_allocagg _ rfl 24 rfl (zero_tab _) ?_))
        go_upto_region 9 with (first
          | (refine wpList_loadv _ rfl 24 _ rfl rfl Sx3.out.tf.load ?_)
          | (have _t := tok4; go_at_call 16; refine (claim_is w3 Sx3.out.tw f id ep mq hmq OK0.out g4 HG4.out t4 HT4.out).mono ?_; rintro e v4 ⟨rfl, k4⟩; clear tok4 _t; obtain ⟨w4, s4, y4, c4⟩ := keep_tab v4 g4; have Sx4 := hideIt (Sx3.out.step (k4.trans c4)); obtain ⟨q41, q42, q43⟩ := Sx4.out.cells; have T4_4 := hideIt y4; have T1_4 := hideIt (T1_3.out.chg (k4.trans c4) (fun h => h)); have T2_4 := hideIt (T2_3.out.chg (k4.trans c4) (fun h => h)); have T3_4 := hideIt (T3_3.out.chg (k4.trans c4) (fun h => h)); clear y4 k4 c4 q31 q32 q33)
          | (refine wpList_storev _ rfl 24 _ _ rfl rfl rfl s4 ?_; clear s4)
          | (refine wpList_allocagg _ rfl 24 rfl (zero_tab _) ?_))
        go_upto_region 10 with (first
          | (refine wpList_loadv _ rfl 24 _ rfl rfl T4_4.out.load ?_)
          | (have _t := tok5; go_at_call 16; refine (claim_is w4 Sx4.out.tw g4 id ep mp hmp OK4.out g5 HG5.out t5 HT5.out).mono ?_; rintro e v5 ⟨rfl, k5⟩; clear tok5 _t; obtain ⟨w5, s5, y5, c5⟩ := keep_tab v5 g5; have Sx5 := hideIt (Sx4.out.step (k5.trans c5)); obtain ⟨q51, q52, q53⟩ := Sx5.out.cells; have T5_5 := hideIt y5; have T1_5 := hideIt (T1_4.out.chg (k5.trans c5) (fun h => h)); have T2_5 := hideIt (T2_4.out.chg (k5.trans c5) (fun h => h)); have T3_5 := hideIt (T3_4.out.chg (k5.trans c5) (fun h => h)); have T4_5 := hideIt (T4_4.out.chg (k5.trans c5) (fun h => h)); clear y5 k5 c5 q41 q42 q43)
          | (refine wpList_storev _ rfl 24 _ _ rfl rfl rfl s5 ?_; clear s5)
          | (refine wpList_allocagg _ rfl 24 rfl (zero_tab _) ?_))
        go_wp2_with (first
          | (refine wpList_loadg _ rfl 24 _ rfl rfl T1_5.out.load ?_)
          | (refine wpList_loadg _ rfl 24 _ rfl rfl T3_5.out.load ?_)
          | (refine wpList_loadg _ rfl 24 _ rfl rfl T5_5.out.load ?_)
          | (refine wpList_eqtab rfl _ _ _ rfl rfl rfl hs1 ?_)
          | (refine wpList_eqtab rfl _ _ _ rfl rfl rfl hs2 ?_))
        go_ret
        exact ⟨rfl, Sx5.out.chg⟩
end Go.Proofs.YtgmekeeemimnpaaDoor
