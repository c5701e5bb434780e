/- ClaimsWins, walked. (Printed by wip/gen_cwins.py.) -/
import Derived.Test.YtgmekeeemimnpaaDoorCDropped
import Derived.Test.YtgmekeeemimnpaaDoorCN1
namespace Go.Proofs.YtgmekeeemimnpaaDoor
open Go Go.Maps Go.MapKept Go.RowKit

theorem load_off {P : Program} (t : TypeId) (ie : TypeInfo) (hie : P.info? t = some ie) (hagg : ∀ w, (isAgg t).run P w = .ok true w) (cs : Array Value) (hs : cs.size = ie.size) (w : World) (b o : Nat) (h : ∀ j v, cs[j]? = some v → w.cell? ⟨b, o + j, none⟩ = some v) : (loadVar t ⟨b, o, none⟩).run P w = .ok (.agg cs) w := by
  have h1 := run_loadCells_list (P := P) w ⟨b, o, none⟩ cs.toList (fun j v hj => by
    rw [Addr.add_lit]; exact h j v (by simpa using hj))
  have h2 : cs.toList.length = ie.size := by simpa using hs
  rw [h2] at h1
  simp [loadVar, hagg, sizeOf, typeInfo, hie, h1, Result.andThen]
theorem TabAt.epochs {w : World} {b : Nat} {f : Nat → Int} (h : TabAt w b f) : (loadVar 22 ⟨b, 64, none⟩).run Tryd.prog w = .ok (.agg (ocs (fun i => f (64 + i)))) w := by
  obtain ⟨ie, hie, hs⟩ := Option.map_eq_some_iff.1 infoArr
  refine load_off 22 ie hie aggArr _ (by rw [ocs_size, hs]) w b 64 (fun j v hj => ?_)
  have hlt : j < 64 := by
    rcases Nat.lt_or_ge j 64 with h1 | h1
    · exact h1
    · rw [Array.getElem?_eq_none (by rw [ocs_size]; exact h1)] at hj; cases hj
  refine (h.cell (show 64 + j < 128 by omega)).trans ?_
  rw [ocs_get _ hlt] at hj
  exact hj
/-- The greatest of the first k epochs. -/
def mxE (f : Nat → Int) : Nat → Int
  | 0 => 0
  | k + 1 => max (mxE f k) (f (64 + k))
theorem mxE_ge (f : Nat → Int) : ∀ k i, i < k → f (64 + i) ≤ mxE f k
  | k + 1, i, h => by
    unfold mxE
    by_cases e : i = k
    · subst e; omega
    · have := mxE_ge f k i (by omega); omega
theorem mxE_bounds {f : Nat → Int} (h : rightT f = true) : ∀ k, k ≤ 64 → 0 ≤ mxE f k ∧ mxE f k ≤ 281474976710656
  | 0, _ => by unfold mxE; omega
  | k + 1, hk => by
    have ih := mxE_bounds h k (by omega)
    rw [rightT_iff] at h
    have h1 := h k (by omega)
    unfold ok1 at h1
    simp only [Bool.and_eq_true, decide_eq_true_eq] at h1
    unfold mxE
    omega
section
variable {f : Nat → Int} {id : Int} {m : Nat}
theorem right_ep (h : rightT f = true) {i : Nat} (hi : i < 64) : 0 ≤ f (64 + i) := by
  rw [rightT_iff] at h
  have h1 := h i hi
  unfold ok1 at h1
  simp only [Bool.and_eq_true, decide_eq_true_eq] at h1
  omega
theorem took_0 (h : rightT f = true) (hid : id ≠ 0) {i : Nat} (hi : i < 64) : took f id 0 i = (f i == 0) := by
  unfold took
  have := right_ep h hi
  have hd : decide (f (64 + i) < 0) = false := by simp; omega
  rw [hd]
  by_cases h0 : f i = 0
  · have : (f i == id) = false := by rw [h0]; simpa using fun e => hid e.symm
    simp [h0] at this ⊢
    exact this
  · simp [h0]
theorem wins_tk0 (h : rightT f = true) (hid : id ≠ 0) : tkN f id 0 m.testBit = (m &&& ofN f 0) := by
  refine bits_eq tkN_lt (Nat.lt_of_le_of_lt Nat.and_le_right (ofN_lt _ _)) fun i hi => ?_
  rw [tkN_bit, Nat.testBit_and, ofN_bit hi, took_0 h hid hi]
  simp [hi]
theorem wins_of {ep : Int} : ofN (clT f id ep m.testBit) id = (ofN f id ||| tkN f id ep m.testBit) := by
  refine bits_eq (ofN_lt _ _) (Nat.or_lt_two_pow (ofN_lt _ _) tkN_lt) fun i hi => ?_
  rw [ofN_bit hi, Nat.testBit_or, ofN_bit hi, tkN_bit]
  have e : clT f id ep m.testBit i = if m.testBit i && took f id ep i then id else f i := by unfold clT; rw [if_pos hi]
  rw [e]
  cases h1 : (m.testBit i && took f id ep i) with
  | true => simp [hi]
  | false => simp [hi]
theorem took_all {i : Nat} (hi : i < 64) : took f id (mxE f 64 + 1) i = !(f i == id) := by
  unfold took
  have := mxE_ge f 64 i hi
  have hd : decide (f (64 + i) < mxE f 64 + 1) = true := by simp; omega
  rw [hd]
  simp
theorem wins_tk (hm : m < 2 ^ 64) : tkN f id (mxE f 64 + 1) m.testBit = (m &&& (18446744073709551615 - ofN f id)) := by
  refine bits_eq tkN_lt (Nat.lt_of_le_of_lt Nat.and_le_left hm) fun i hi => ?_
  rw [tkN_bit, not_bit (ofN_lt _ _) hi, ofN_bit hi, took_all hi]
  simp [hi]
theorem wins_all (hm : m < 2 ^ 64) : ofN (clT f id (mxE f 64 + 1) m.testBit) id = (ofN f id ||| m) := by
  rw [wins_of, wins_tk hm]
  refine bits_eq (Nat.or_lt_two_pow (ofN_lt _ _) (Nat.lt_of_le_of_lt Nat.and_le_left hm)) (Nat.or_lt_two_pow (ofN_lt _ _) hm) fun i hi => ?_
  rw [Nat.testBit_or, Nat.testBit_or, not_bit (ofN_lt _ _) hi, ofN_bit hi]
  cases (f i == id) <;> cases m.testBit i <;> rfl
theorem wins_newer : newL (clT f id (mxE f 64 + 1) m.testBit) id (mxE f 64 + 1) (slotsOf m) = 0 := by
  refine newL_zero fun i hi => ?_
  obtain ⟨h1, h2⟩ := mem_slots.1 hi
  unfold cand
  have e : clT f id (mxE f 64 + 1) m.testBit i = id := by
    have e1 : clT f id (mxE f 64 + 1) m.testBit i = if m.testBit i && took f id (mxE f 64 + 1) i then id else f i := by unfold clT; rw [if_pos h1]
    rw [e1, h2, took_all h1]
    cases hx : (f i == id) with
    | true => simpa using hx
    | false => simp
  rw [e]
  simp
end
theorem newer_is (w : World) (hTW : TabW w) (f : Nat → Int) (id ep : Int) (m : Nat) (hm : m < 2 ^ 64) (h : rightT f = true) (r : Int) (hr : newL f id ep (slotsOf m) = r) :
    Calls Tryd.prog 24 #[.agg (tcs f), .int .i64 id, .int .i64 ep, .int .u64 (m : Int)] w fun e w' => e = .returned (.int .i64 r) ∧ Chg (fun _ => False) w w' := by
  subst hr
  have := newer_ok w hTW f id ep m hm
  rw [h, if_pos rfl] at this
  exact this

set_option maxRecDepth 100000 in
set_option maxHeartbeats 16000000 in
theorem wins_law_calls (w : World) (hTW : TabW w) (f : Nat → Int) (id : Int) (_oi : okI id) (m : Nat) (hm : m < 2 ^ 64) :
    Calls Tryd.prog 9 #[.agg (tcs f), .int .i64 id, .int .u64 (m : Int)] w fun e w' => e = .returned (.bool true) ∧ Chg (fun _ => False) w w' := by
  have S0 := S1.start w hTW f
  obtain ⟨wB, hwB⟩ : ∃ wB, wB = w.alloc (.cells (tcs f) 24) := ⟨_, rfl⟩
  rw [← hwB] at S0
  have HB := hideIt hwB
  clear hwB hTW
  have tokA : True := trivial
  have tokD : True := trivial
  obtain ⟨r1, h1⟩ : ∃ r, rightT f = r := ⟨_, rfl⟩
  obtain ⟨r2, h2⟩ : ∃ r, idB id = r := ⟨_, rfl⟩
  cases r1 with
  | false =>
    go_enter Tryd.func9, Tryd.ntmps9
    go_wp2_with (first
      | (have _t := tokA; go_at_call 12; rw [← HB.out]; refine (anchor_calls wB S0.tw).mono ?_; rintro e wa ⟨rfl, ka⟩; clear tokA _t; have Sa := hideIt (S0.step ka); clear ka S0 HB)
      | (have _t := tokD; refine wpList_loadv _ rfl 24 _ rfl rfl Sa.out.tf.load ?_; clear tokD _t)
      | (go_at_call 13; refine (lawright wa f _ h1).mono ?_; rintro e w1 ⟨rfl, k1⟩; have Sx1 := hideIt (Sa.out.step k1); clear k1)
      | (go_at_call 14; refine (lawid w1 id _ h2).mono ?_; rintro e w9 ⟨rfl, rfl⟩))
    go_ret
    exact ⟨rfl, Sx1.out.chg⟩
  | true =>
    cases r2 with
    | false =>
      go_enter Tryd.func9, Tryd.ntmps9
      go_wp2_with (first
        | (have _t := tokA; go_at_call 12; rw [← HB.out]; refine (anchor_calls wB S0.tw).mono ?_; rintro e wa ⟨rfl, ka⟩; clear tokA _t; have Sa := hideIt (S0.step ka); clear ka S0 HB)
        | (have _t := tokD; refine wpList_loadv _ rfl 24 _ rfl rfl Sa.out.tf.load ?_; clear tokD _t)
        | (go_at_call 13; refine (lawright wa f _ h1).mono ?_; rintro e w1 ⟨rfl, k1⟩; have Sx1 := hideIt (Sa.out.step k1); clear k1)
        | (go_at_call 14; refine (lawid w1 id _ h2).mono ?_; rintro e w9 ⟨rfl, rfl⟩))
      go_ret
      exact ⟨rfl, Sx1.out.chg⟩
    | true =>
      have hid : id ≠ 0 := by unfold idB at h2; simp at h2; omega
      have hmx := mxE_bounds h1 64 (Nat.le_refl _)
      have OK0 := hideIt (show okC f id 0 = true by rw [okC_eq, h1, h2]; rfl)
      obtain ⟨g, hg⟩ : ∃ g, clT f id 0 m.testBit = g := ⟨_, rfl⟩
      obtain ⟨sz, hsz⟩ : ∃ sz, ofN f 0 = sz := ⟨_, rfl⟩
      have hzl : sz < 2 ^ 64 := by rw [← hsz]; exact ofN_lt _ _
      obtain ⟨so, hso⟩ : ∃ so, ofN f id = so := ⟨_, rfl⟩
      have hsl : so < 2 ^ 64 := by rw [← hso]; exact ofN_lt _ _
      obtain ⟨t, ht⟩ : ∃ t, tkN f id 0 m.testBit = t := ⟨_, rfl⟩
      have htl : t < 2 ^ 64 := by rw [← ht]; exact tkN_lt
      have e1 : (m &&& sz) = t := by rw [← ht, ← hsz]; exact (wins_tk0 h1 hid).symm
      have hand : bits .and .u64 (m : Int) (sz : Int) = (t : Int) := by rw [u64_and_nat _ _ hm hzl, e1]
      obtain ⟨sg, hsg⟩ : ∃ sg, ofN g id = sg := ⟨_, rfl⟩
      have e2 : (so ||| t) = sg := by rw [← hsg, ← hg, ← hso, ← ht]; exact wins_of.symm
      have hor : bits .or .u64 (so : Int) (t : Int) = (sg : Int) := by rw [u64_or_nat _ _ hsl htl, e2]
      have HOF := hideIt (fun W : World => of_calls W f id)
      rw [hso] at HOF
      have HOZ := hideIt (fun W : World => of_calls W f 0)
      rw [hsz] at HOZ
      have HOG := hideIt (fun W : World => of_calls W g id)
      rw [hsg] at HOG
      have HG := hideIt hg
      have HT := hideIt ht
      have HR := hideIt h1
      obtain ⟨M, hM⟩ : ∃ M, mxE f 64 = M := ⟨_, rfl⟩
      have HM := hideIt hM
      have HI2 := hideIt h2
      have HSO := hideIt hso
      rw [hM] at hmx
      clear hg ht e1 hsg e2 hid hsz hso hM
      go_enter Tryd.func9, Tryd.ntmps9
      go_upto_region 7 with (first
        | (have _t := tokA; go_at_call 12; rw [← HB.out]; refine (anchor_calls wB S0.tw).mono ?_; rintro e wa ⟨rfl, ka⟩; clear tokA _t; have Sa := hideIt (S0.step ka); clear ka S0 HB)
        | (have _t := tokD; refine wpList_loadv _ rfl 24 _ rfl rfl Sa.out.tf.load ?_; clear tokD _t)
        | (go_at_call 13; refine (lawright wa f _ h1).mono ?_; rintro e w1 ⟨rfl, k1⟩; have Sx1 := hideIt (Sa.out.step k1); clear k1)
        | (go_at_call 14; refine (lawid w1 id _ h2).mono ?_; rintro e w9 ⟨rfl, rfl⟩)
        | (refine wpList_loadv _ rfl 22 _ rfl rfl Sx1.out.tf.epochs ?_))
      go_loopw [7, 28] (fun mx i wr => ∃ k : Nat, k ≤ 64 ∧ i = .int .i64 k ∧ mx = .int .i64 (mxE f k) ∧ w1 = wr) (fun _ i _ => 64 - (intOf i).toNat)
      case atStart => exact ⟨0, by omega, rfl, rfl, rfl⟩
      case round =>
        obtain ⟨k, hk, rfl, rfl, rfl⟩ := hrel
        by_cases hk64 : k < 64
        · have hidx := run_index_owners (fun i => f (64 + i)) hk64
          obtain ⟨mk, hmk⟩ : ∃ mk, mxE f k = mk := ⟨_, rfl⟩
          have HN : Hid (mxE f (k + 1) = max mk (f (64 + k))) := hideIt (by unfold mxE; rw [hmk])
          obtain ⟨y, hy⟩ : ∃ y, f (64 + k) = y := ⟨_, rfl⟩
          rw [hmk]
          simp only [hy] at hidx
          rw [hy] at HN
          clear hmk hy
          go_wp2
          all_goals
            go_roundw
            case rel => exact ⟨k + 1, by omega, by go_num, by rw [HN.out, max_if], by first | rfl | trivial⟩
            case measure => simp [intOf]; omega
        · obtain rfl : k = 64 := by omega
          rw [HM.out]
          go_upto_region 12 with (first
            | (refine wpList_loadv _ rfl 24 _ rfl rfl Sx1.out.tf.load ?_)
            | (go_at_call 16; refine (claim_is w1 Sx1.out.tw f id 0 m hm OK0.out g HG.out t HT.out).mono ?_; rintro e v3 ⟨rfl, k3⟩; obtain ⟨w3, s3, y3, c3⟩ := keep_tab v3 g; have Sx3 := hideIt (Sx1.out.step (k3.trans c3)); have Z3 := hideIt y3; clear y3 k3 c3)
            | (refine wpList_storev _ rfl 24 _ _ rfl rfl rfl s3 ?_; clear s3)
            | (refine wpList_allocagg _ rfl 24 rfl (zero_tab _) ?_))
          refine wp_region_held_drew (S := fun w' => TabAt w' w.heap.size f ∧ TabAt w' v3.heap.size g) (by kernel_rfl) (show TabAt w3.drew w.heap.size f ∧ TabAt w3.drew v3.heap.size g from ⟨Sx3.out.tf, Z3.out⟩) (fun hH0 => ?_)
          refine wpAnyH_take (i := 0) (v := (.int .i64 0)) rfl (by kernel_rfl) (by kernel_rfl) (by kernel_rfl) (fun _ _ _ h => h) (Or.inl ⟨by rfl, fun _ _ => rfl⟩) hH0 ?_
          try simp [Act.put]
          refine wpAnyH_take (i := 1) (v := (.bool false)) rfl (by kernel_rfl) (by kernel_rfl) (by kernel_rfl) (fun _ _ _ h => h) (Or.inl ⟨by rfl, fun _ hSw => by first | (go_simp; done) | rfl⟩) hH0 ?_
          try simp [Act.put]
          refine wpAnyH_take (i := 2) (v := (.bool false)) rfl (by kernel_rfl) (by kernel_rfl) (by kernel_rfl) (fun _ _ _ h => h) (Or.inl ⟨by rfl, fun _ _ => rfl⟩) hH0 ?_
          try simp [Act.put]
          refine wpAnyH_take (i := 3) (v := (.int .u64 (t : Int))) rfl (by kernel_rfl) (by kernel_rfl) (by kernel_rfl) (fun _ _ _ h => h) (Or.inl ⟨by rfl, fun _ _ => rfl⟩) hH0 ?_
          try simp [Act.put]
          refine wpAnyH_take (i := 4) (v := (.int .u64 (m : Int))) rfl (by kernel_rfl) (by kernel_rfl) (by kernel_rfl) (fun _ _ _ h => h) (Or.inl ⟨by rfl, fun _ _ => rfl⟩) hH0 ?_
          try simp [Act.put]
          refine wpAnyH_take (i := 5) rfl (by kernel_rfl) (by kernel_rfl) (by kernel_rfl) (fun _ _ _ h => h) (yields_tab (by rfl) _ rfl rfl (fun _ h => h.1)) hH0 ?_
          try simp [Act.put]
          refine wpAnyH_ready (rs := [6]) (by kernel_rfl) (by simp) (AllReadyH.cons rfl (fun K hK => ?_) AllReadyH.nil)
          go_simp
          go_at_call 17
          refine (HOZ.out _).mono ?_
          rintro e w4 ⟨rfl, k4⟩
          refine hK.out _ _ (⟨hH0.1.chg k4 (fun h => h), hH0.2.chg k4 (fun h => h)⟩) (fun hH1 => ?_)
          clear hK K hH0
          try simp
          refine wpAnyH_take (i := 7) (v := (.int .u64 (t : Int))) rfl (by kernel_rfl) (by kernel_rfl) (by kernel_rfl) (fun _ _ _ h => h) (Or.inl ⟨by rfl, fun _ hSw => by first | (go_simp; done) | rfl⟩) hH1 ?_
          try simp [Act.put]
          refine wpAnyH_take (i := 8) (v := (.bool false)) rfl (by kernel_rfl) (by kernel_rfl) (by kernel_rfl) (fun _ _ _ h => h) (Or.inl ⟨by rfl, fun _ hSw => by first | (go_simp; done) | rfl⟩) hH1 ?_
          try simp [Act.put]
          refine wpAnyH_take (i := 9) (v := (.bool false)) rfl (by kernel_rfl) (by kernel_rfl) (by kernel_rfl) (fun _ _ _ h => h) (Or.inl ⟨by rfl, fun _ hSw => by first | (go_simp; done) | rfl⟩) hH1 ?_
          try simp [Act.put]
          refine wpAnyH_take (i := 10) (v := (.bool false)) rfl (by kernel_rfl) (by kernel_rfl) (by kernel_rfl) (fun _ _ _ h => h) (Or.inl ⟨by rfl, fun _ _ => rfl⟩) hH1 ?_
          try simp [Act.put]
          refine wpAnyH_take (i := 11) rfl (by kernel_rfl) (by kernel_rfl) (by kernel_rfl) (fun _ _ _ h => h) (yields_tab (by rfl) _ rfl rfl (fun _ h => h.2)) hH1 ?_
          try simp [Act.put]
          refine wpAnyH_take (i := 12) (v := (.int .i64 id)) rfl (by kernel_rfl) (by kernel_rfl) (by kernel_rfl) (fun _ _ _ h => h) (Or.inl ⟨by rfl, fun _ _ => rfl⟩) hH1 ?_
          try simp [Act.put]
          refine wpAnyH_take (i := 14) rfl (by kernel_rfl) (by kernel_rfl) (by kernel_rfl) (fun _ _ _ h => h) (yields_tab (by rfl) _ rfl rfl (fun _ h => h.1)) hH1 ?_
          try simp [Act.put]
          refine wpAnyH_take (i := 15) (v := (.int .i64 id)) rfl (by kernel_rfl) (by kernel_rfl) (by kernel_rfl) (fun _ _ _ h => h) (Or.inl ⟨by rfl, fun _ _ => rfl⟩) hH1 ?_
          try simp [Act.put]
          refine wpAnyH_take (i := 17) (v := (.int .u64 (t : Int))) rfl (by kernel_rfl) (by kernel_rfl) (by kernel_rfl) (fun _ _ _ h => h) (Or.inl ⟨by rfl, fun _ _ => rfl⟩) hH1 ?_
          try simp [Act.put]
          refine wpAnyH_ready (rs := [13]) (by kernel_rfl) (by simp) (AllReadyH.cons rfl (fun K hK => ?_) AllReadyH.nil)
          go_simp
          go_at_call 17
          refine (HOG.out _).mono ?_
          rintro e w5 ⟨rfl, k5⟩
          refine hK.out _ _ (⟨hH1.1.chg k5 (fun h => h), hH1.2.chg k5 (fun h => h)⟩) (fun hH2 => ?_)
          clear hK K hH1
          try simp
          refine wpAnyH_ready (rs := [16]) (by kernel_rfl) (by simp) (AllReadyH.cons rfl (fun K hK => ?_) AllReadyH.nil)
          go_simp
          go_at_call 17
          refine (HOF.out _).mono ?_
          rintro e w6 ⟨rfl, k6⟩
          refine hK.out _ _ (⟨hH2.1.chg k6 (fun h => h), hH2.2.chg k6 (fun h => h)⟩) (fun hH3 => ?_)
          clear hK K hH2
          try simp
          refine wpAnyH_take (i := 18) (v := (.int .u64 (sg : Int))) rfl (by kernel_rfl) (by kernel_rfl) (by kernel_rfl) (fun _ _ _ h => h) (Or.inl ⟨by rfl, fun _ hSw => by first | (go_simp; done) | rfl⟩) hH3 ?_
          try simp [Act.put]
          refine wpAnyH_take (i := 19) (v := (.bool false)) rfl (by kernel_rfl) (by kernel_rfl) (by kernel_rfl) (fun _ _ _ h => h) (Or.inl ⟨by rfl, fun _ hSw => by first | (go_simp; done) | rfl⟩) hH3 ?_
          try simp [Act.put]
          refine wpAnyH_take (i := 20) (v := (.bool false)) rfl (by kernel_rfl) (by kernel_rfl) (by kernel_rfl) (fun _ _ _ h => h) (Or.inl ⟨by rfl, fun _ hSw => by first | (go_simp; done) | rfl⟩) hH3 ?_
          refine wpAnyH_done (by kernel_rfl) ?_ _
          have Sx6 := hideIt ((⟨Sx3.out.chg.drew, Sx3.out.tw, Sx3.out.tf⟩ : S1 w w3.drew w.heap.size f).step ((k4.trans k5).trans k6))
          clear k4 k5 k6 hH3
          by_cases hMe : M = 281474976710656
          · have hdM : (M == 281474976710656) = true := by simpa using hMe
            go_wp2
            go_ret
            exact ⟨rfl, Sx6.out.chg⟩
          · have hM1 : ¬ M = 281474976710656 := hMe
            have OK1 := hideIt (show okC f id (M + 1) = true by
              rw [okC_eq, HR.out, HI2.out]
              unfold epB
              simp
              omega)
            obtain ⟨g2, hg2⟩ : ∃ g2, clT f id (M + 1) m.testBit = g2 := ⟨_, rfl⟩
            obtain ⟨t2, ht2⟩ : ∃ t2, tkN f id (M + 1) m.testBit = t2 := ⟨_, rfl⟩
            have e3 : (m &&& (18446744073709551615 - so)) = t2 := by rw [← ht2, ← HM.out, ← HSO.out]; exact (wins_tk hm).symm
            have handn : bits .andNot .u64 (m : Int) (so : Int) = (t2 : Int) := by rw [u64_andNot_nat _ _ hm hsl, e3]
            obtain ⟨sa, hsa⟩ : ∃ sa, ofN g2 id = sa := ⟨_, rfl⟩
            have e4 : (so ||| m) = sa := by rw [← hsa, ← hg2, ← HM.out, ← HSO.out]; exact (wins_all hm).symm
            have hor2 : bits .or .u64 (so : Int) (m : Int) = (sa : Int) := by rw [u64_or_nat _ _ hsl hm, e4]
            have HOA := hideIt (fun W : World => of_calls W g2 id)
            rw [hsa] at HOA
            have HG2 := hideIt hg2
            have HT2 := hideIt ht2
            have HRG := hideIt (show rightT g2 = true by rw [← hg2]; exact clT_right OK1.out)
            have HNW := hideIt (show newL g2 id (M + 1) (slotsOf m) = 0 by rw [← hg2, ← HM.out]; exact wins_newer)
            have hdM : (M == 281474976710656) = false := by simpa using hM1
            have hwM : IntKind.i64.wrap (M + 1) = M + 1 := IntWalk.i64_in _ (by omega)
            clear hg2 ht2 e3 e4 hsa hMe hM1 hand hor
            go_upto_region 17 with (first
              | (refine wpList_loadv _ rfl 24 _ rfl rfl Sx6.out.tf.load ?_)
              | (go_at_call 16; refine (claim_is w6 Sx6.out.tw f id (M + 1) m hm OK1.out g2 HG2.out t2 HT2.out).mono ?_; rintro e v7 ⟨rfl, k7⟩; obtain ⟨w7, s7, y7, c7⟩ := keep_tab v7 g2; have Sx7 := hideIt (Sx6.out.step (k7.trans c7)); have Z7 := hideIt y7; clear y7 k7 c7)
              | (refine wpList_storev _ rfl 24 _ _ rfl rfl rfl s7 ?_; clear s7)
              | (refine wpList_allocagg _ rfl 24 rfl (zero_tab _) ?_))
            refine wp_region_held_drew (S := fun w' => TabAt w' w.heap.size f ∧ TabAt w' v7.heap.size g2) (by kernel_rfl) (show TabAt w7.drew w.heap.size f ∧ TabAt w7.drew v7.heap.size g2 from ⟨Sx7.out.tf, Z7.out⟩) (fun hH0 => ?_)
            refine wpAnyH_take (i := 0) (v := (.int .i64 0)) rfl (by kernel_rfl) (by kernel_rfl) (by kernel_rfl) (fun _ _ _ h => h) (Or.inl ⟨by rfl, fun _ _ => rfl⟩) hH0 ?_
            try simp [Act.put]
            refine wpAnyH_take (i := 1) (v := (.bool true)) rfl (by kernel_rfl) (by kernel_rfl) (by kernel_rfl) (fun _ _ _ h => h) (Or.inl ⟨by rfl, fun _ hSw => by first | (go_simp; done) | rfl⟩) hH0 ?_
            try simp [Act.put]
            refine wpAnyH_take (i := 2) (v := (.bool true)) rfl (by kernel_rfl) (by kernel_rfl) (by kernel_rfl) (fun _ _ _ h => h) (Or.inl ⟨by rfl, fun _ _ => rfl⟩) hH0 ?_
            try simp [Act.put]
            refine wpAnyH_take (i := 3) rfl (by kernel_rfl) (by kernel_rfl) (by kernel_rfl) (fun _ _ _ h => h) (yields_tab (by rfl) _ rfl rfl (fun _ h => h.2)) hH0 ?_
            try simp [Act.put]
            refine wpAnyH_take (i := 4) (v := (.int .i64 id)) rfl (by kernel_rfl) (by kernel_rfl) (by kernel_rfl) (fun _ _ _ h => h) (Or.inl ⟨by rfl, fun _ _ => rfl⟩) hH0 ?_
            try simp [Act.put]
            refine wpAnyH_take (i := 6) rfl (by kernel_rfl) (by kernel_rfl) (by kernel_rfl) (fun _ _ _ h => h) (yields_tab (by rfl) _ rfl rfl (fun _ h => h.1)) hH0 ?_
            try simp [Act.put]
            refine wpAnyH_take (i := 7) (v := (.int .i64 id)) rfl (by kernel_rfl) (by kernel_rfl) (by kernel_rfl) (fun _ _ _ h => h) (Or.inl ⟨by rfl, fun _ _ => rfl⟩) hH0 ?_
            try simp [Act.put]
            refine wpAnyH_take (i := 9) (v := (.int .u64 (m : Int))) rfl (by kernel_rfl) (by kernel_rfl) (by kernel_rfl) (fun _ _ _ h => h) (Or.inl ⟨by rfl, fun _ _ => rfl⟩) hH0 ?_
            try simp [Act.put]
            refine wpAnyH_ready (rs := [5]) (by kernel_rfl) (by simp) (AllReadyH.cons rfl (fun K hK => ?_) AllReadyH.nil)
            go_simp
            go_at_call 17
            refine (HOA.out _).mono ?_
            rintro e w8 ⟨rfl, k8⟩
            refine hK.out _ _ (⟨hH0.1.chg k8 (fun h => h), hH0.2.chg k8 (fun h => h)⟩) (fun hH1 => ?_)
            clear hK K hH0
            try simp
            refine wpAnyH_ready (rs := [8]) (by kernel_rfl) (by simp) (AllReadyH.cons rfl (fun K hK => ?_) AllReadyH.nil)
            go_simp
            go_at_call 17
            refine (HOF.out _).mono ?_
            rintro e w9 ⟨rfl, k9⟩
            refine hK.out _ _ (⟨hH1.1.chg k9 (fun h => h), hH1.2.chg k9 (fun h => h)⟩) (fun hH2 => ?_)
            clear hK K hH1
            try simp
            refine wpAnyH_take (i := 10) (v := (.int .u64 (sa : Int))) rfl (by kernel_rfl) (by kernel_rfl) (by kernel_rfl) (fun _ _ _ h => h) (Or.inl ⟨by rfl, fun _ hSw => by first | (go_simp; done) | rfl⟩) hH2 ?_
            try simp [Act.put]
            refine wpAnyH_take (i := 11) (v := (.bool true)) rfl (by kernel_rfl) (by kernel_rfl) (by kernel_rfl) (fun _ _ _ h => h) (Or.inl ⟨by rfl, fun _ hSw => by first | (go_simp; done) | rfl⟩) hH2 ?_
            try simp [Act.put]
            refine wpAnyH_take (i := 12) (v := (.bool true)) rfl (by kernel_rfl) (by kernel_rfl) (by kernel_rfl) (fun _ _ _ h => h) (Or.inl ⟨by rfl, fun _ hSw => by first | (go_simp; done) | rfl⟩) hH2 ?_
            try simp [Act.put]
            refine wpAnyH_take (i := 13) (v := (.bool true)) rfl (by kernel_rfl) (by kernel_rfl) (by kernel_rfl) (fun _ _ _ h => h) (Or.inl ⟨by rfl, fun _ _ => rfl⟩) hH2 ?_
            try simp [Act.put]
            refine wpAnyH_take (i := 14) (v := (.int .u64 (t2 : Int))) rfl (by kernel_rfl) (by kernel_rfl) (by kernel_rfl) (fun _ _ _ h => h) (Or.inl ⟨by rfl, fun _ _ => rfl⟩) hH2 ?_
            try simp [Act.put]
            refine wpAnyH_take (i := 15) (v := (.int .u64 (m : Int))) rfl (by kernel_rfl) (by kernel_rfl) (by kernel_rfl) (fun _ _ _ h => h) (Or.inl ⟨by rfl, fun _ _ => rfl⟩) hH2 ?_
            try simp [Act.put]
            refine wpAnyH_take (i := 16) rfl (by kernel_rfl) (by kernel_rfl) (by kernel_rfl) (fun _ _ _ h => h) (yields_tab (by rfl) _ rfl rfl (fun _ h => h.1)) hH2 ?_
            try simp [Act.put]
            refine wpAnyH_take (i := 17) (v := (.int .i64 id)) rfl (by kernel_rfl) (by kernel_rfl) (by kernel_rfl) (fun _ _ _ h => h) (Or.inl ⟨by rfl, fun _ _ => rfl⟩) hH2 ?_
            try simp [Act.put]
            refine wpAnyH_ready (rs := [18]) (by kernel_rfl) (by simp) (AllReadyH.cons rfl (fun K hK => ?_) AllReadyH.nil)
            go_simp
            go_at_call 17
            refine (HOF.out _).mono ?_
            rintro e w10 ⟨rfl, k10⟩
            refine hK.out _ _ (⟨hH2.1.chg k10 (fun h => h), hH2.2.chg k10 (fun h => h)⟩) (fun hH3 => ?_)
            clear hK K hH2
            try simp
            refine wpAnyH_take (i := 19) (v := (.int .u64 (t2 : Int))) rfl (by kernel_rfl) (by kernel_rfl) (by kernel_rfl) (fun _ _ _ h => h) (Or.inl ⟨by rfl, fun _ hSw => by first | (go_simp; done) | rfl⟩) hH3 ?_
            try simp [Act.put]
            refine wpAnyH_take (i := 20) (v := (.bool true)) rfl (by kernel_rfl) (by kernel_rfl) (by kernel_rfl) (fun _ _ _ h => h) (Or.inl ⟨by rfl, fun _ hSw => by first | (go_simp; done) | rfl⟩) hH3 ?_
            try simp [Act.put]
            refine wpAnyH_take (i := 21) (v := (.bool true)) rfl (by kernel_rfl) (by kernel_rfl) (by kernel_rfl) (fun _ _ _ h => h) (Or.inl ⟨by rfl, fun _ hSw => by first | (go_simp; done) | rfl⟩) hH3 ?_
            try simp [Act.put]
            refine wpAnyH_take (i := 22) (v := (.bool true)) rfl (by kernel_rfl) (by kernel_rfl) (by kernel_rfl) (fun _ _ _ h => h) (Or.inl ⟨by rfl, fun _ _ => rfl⟩) hH3 ?_
            try simp [Act.put]
            refine wpAnyH_take (i := 23) rfl (by kernel_rfl) (by kernel_rfl) (by kernel_rfl) (fun _ _ _ h => h) (yields_tab (by rfl) _ rfl rfl (fun _ h => h.2)) hH3 ?_
            try simp [Act.put]
            refine wpAnyH_take (i := 24) (v := (.int .i64 id)) rfl (by kernel_rfl) (by kernel_rfl) (by kernel_rfl) (fun _ _ _ h => h) (Or.inl ⟨by rfl, fun _ _ => rfl⟩) hH3 ?_
            try simp [Act.put]
            refine wpAnyH_take (i := 25) (v := (.int .i64 M)) rfl (by kernel_rfl) (by kernel_rfl) (by kernel_rfl) (fun _ _ _ h => h) (Or.inl ⟨by rfl, fun _ _ => rfl⟩) hH3 ?_
            try simp [Act.put]
            refine wpAnyH_take (i := 26) (v := (.int .i64 (M + 1))) rfl (by kernel_rfl) (by kernel_rfl) (by kernel_rfl) (fun _ _ _ h => h) (Or.inl ⟨by rfl, fun _ hSw => by first | (go_simp; done) | rfl⟩) hH3 ?_
            try simp [Act.put]
            refine wpAnyH_take (i := 27) (v := (.int .u64 (m : Int))) rfl (by kernel_rfl) (by kernel_rfl) (by kernel_rfl) (fun _ _ _ h => h) (Or.inl ⟨by rfl, fun _ _ => rfl⟩) hH3 ?_
            try simp [Act.put]
            refine wpAnyH_ready (rs := [28]) (by kernel_rfl) (by simp) (AllReadyH.cons rfl (fun K hK => ?_) AllReadyH.nil)
            go_simp
            go_at_call 24
            refine (newer_is w10 (Sx7.out.tw.chg (w := w7.drew) ((k8.trans k9).trans k10) (fun h => h)) g2 id (M + 1) m hm HRG.out 0 HNW.out).mono ?_
            rintro e w11 ⟨rfl, k11⟩
            refine hK.out _ _ (⟨hH3.1.chg k11 (fun h => h), hH3.2.chg k11 (fun h => h)⟩) (fun hH4 => ?_)
            clear hK K hH3
            try simp
            refine wpAnyH_take (i := 29) (v := (.bool true)) rfl (by kernel_rfl) (by kernel_rfl) (by kernel_rfl) (fun _ _ _ h => h) (Or.inl ⟨by rfl, fun _ hSw => by first | (go_simp; done) | rfl⟩) hH4 ?_
            try simp [Act.put]
            refine wpAnyH_take (i := 30) (v := (.bool true)) rfl (by kernel_rfl) (by kernel_rfl) (by kernel_rfl) (fun _ _ _ h => h) (Or.inl ⟨by rfl, fun _ hSw => by first | (go_simp; done) | rfl⟩) hH4 ?_
            try simp [Act.put]
            refine wpAnyH_take (i := 31) (v := (.bool true)) rfl (by kernel_rfl) (by kernel_rfl) (by kernel_rfl) (fun _ _ _ h => h) (Or.inl ⟨by rfl, fun _ _ => rfl⟩) hH4 ?_
            refine wpAnyH_done (by kernel_rfl) ?_ _
            go_wp2
            go_ret
            exact ⟨rfl, Sx7.out.chg.drew.trans (((k8.trans k9).trans k10).trans k11)⟩
end Go.Proofs.YtgmekeeemimnpaaDoor
