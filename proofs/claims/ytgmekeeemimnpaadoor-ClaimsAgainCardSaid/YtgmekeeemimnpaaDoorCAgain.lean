/- ClaimsAgain: a claim that is made again takes nothing. (Its arms are printed by wip/gen_again.py.) -/
import Derived.Test.YtgmekeeemimnpaaDoorC10
import Derived.Test.YtgmekeeemimnpaaDoorCD1
import Derived.Test.YtgmekeeemimnpaaDoorC11
import Derived.Deep.Cut
import Derived.Deep.Cut
import Derived.Deep.RegionHeld3
namespace Go.Proofs.YtgmekeeemimnpaaDoor
open Go Go.Maps Go.MapKept Go.RowKit

set_option maxRecDepth 100000 in
set_option maxHeartbeats 8000000 in
theorem again_calls (w : World) (hTW : TabW w) (f : Nat → Int) (id ep : Int) (m : Nat) (hm : m < 2 ^ 64) (_oi : okI id) (_oe : okI ep) :
    Calls Tryd.prog 3 #[.agg (tcs f), .agg #[.int .i64 id, .int .i64 ep, .int .u64 (m : Int)]] w fun e w' => e = .returned (.bool true) ∧ Chg (fun _ => False) w w' := by
  have S0 := St.start w hTW f id ep m
  obtain ⟨wB, hwB⟩ : ∃ wB, wB = (w.alloc (.cells (tcs f) 24)).alloc (.cells #[.int .i64 id, .int .i64 ep, .int .u64 (m : Int)] 28) := ⟨_, rfl⟩
  rw [← hwB] at S0
  have HB := hideIt hwB
  clear hwB hTW
  have tokA : True := trivial
  have tokR : True := trivial
  obtain ⟨r1, h1⟩ : ∃ r, rightT f = r := ⟨_, rfl⟩
  obtain ⟨r2, h2⟩ : ∃ r, idB id = r := ⟨_, rfl⟩
  obtain ⟨r3, h3⟩ : ∃ r, epB ep = r := ⟨_, rfl⟩
  have hok : okC f id ep = (r1 && r2 && r3) := by rw [okC_eq, h1, h2, h3]
  have HOK := hideIt hok
  clear hok
  cases r1 with
  | false =>
    go_enter Tryd.func3, Tryd.ntmps3
    go_wp2_with (first
      | (have _t := tokA; go_at_call 12; rw [← HB.out]; refine (anchor_calls wB S0.tw).mono ?_; rintro e wa ⟨rfl, ka⟩; clear tokA _t; have Sa := hideIt (S0.step ka); clear ka S0 HB)
      | (refine wpList_loadv _ rfl 24 _ rfl rfl Sa.out.tf.load ?_)
      | (have _t := tokR; go_at_call 13; refine (lawright wa f _ h1).mono ?_; rintro e w0 ⟨rfl, k0⟩; clear tokR _t; have Sx0 := hideIt (Sa.out.step k0); obtain ⟨q01, q02, q03⟩ := Sx0.out.cells; clear k0)
      | (go_at_call 14; refine (lawid w0 id _ h2).mono ?_; rintro e w9 ⟨rfl, rfl⟩)
      | (go_at_call 15; refine (lawepoch w0 ep _ h3).mono ?_; rintro e w9 ⟨rfl, rfl⟩))
    go_ret
    exact ⟨rfl, Sx0.out.chg⟩
  | true =>
    cases r2 with
    | false =>
      go_enter Tryd.func3, Tryd.ntmps3
      go_wp2_with (first
        | (have _t := tokA; go_at_call 12; rw [← HB.out]; refine (anchor_calls wB S0.tw).mono ?_; rintro e wa ⟨rfl, ka⟩; clear tokA _t; have Sa := hideIt (S0.step ka); clear ka S0 HB)
        | (refine wpList_loadv _ rfl 24 _ rfl rfl Sa.out.tf.load ?_)
        | (have _t := tokR; go_at_call 13; refine (lawright wa f _ h1).mono ?_; rintro e w0 ⟨rfl, k0⟩; clear tokR _t; have Sx0 := hideIt (Sa.out.step k0); obtain ⟨q01, q02, q03⟩ := Sx0.out.cells; clear k0)
        | (go_at_call 14; refine (lawid w0 id _ h2).mono ?_; rintro e w9 ⟨rfl, rfl⟩)
        | (go_at_call 15; refine (lawepoch w0 ep _ h3).mono ?_; rintro e w9 ⟨rfl, rfl⟩))
      go_ret
      exact ⟨rfl, Sx0.out.chg⟩
    | true =>
      cases r3 with
      | false =>
        go_enter Tryd.func3, Tryd.ntmps3
        go_wp2_with (first
          | (have _t := tokA; go_at_call 12; rw [← HB.out]; refine (anchor_calls wB S0.tw).mono ?_; rintro e wa ⟨rfl, ka⟩; clear tokA _t; have Sa := hideIt (S0.step ka); clear ka S0 HB)
          | (refine wpList_loadv _ rfl 24 _ rfl rfl Sa.out.tf.load ?_)
          | (have _t := tokR; go_at_call 13; refine (lawright wa f _ h1).mono ?_; rintro e w0 ⟨rfl, k0⟩; clear tokR _t; have Sx0 := hideIt (Sa.out.step k0); obtain ⟨q01, q02, q03⟩ := Sx0.out.cells; clear k0)
          | (go_at_call 14; refine (lawid w0 id _ h2).mono ?_; rintro e w9 ⟨rfl, rfl⟩)
          | (go_at_call 15; refine (lawepoch w0 ep _ h3).mono ?_; rintro e w9 ⟨rfl, rfl⟩))
        go_ret
        exact ⟨rfl, Sx0.out.chg⟩
      | true =>
        have OK0 := hideIt (HOK.out.trans (by rfl) : okC f id ep = true)
        have OK1 := hideIt (clT_okC (p := m.testBit) OK0.out)
        have hs := again_same (f := f) (id := id) (ep := ep) (m := m)
        have hn := again_none (f := f) (id := id) (ep := ep) (m := m)
        have HL := hideIt (fun i => again_left (f := f) (id := id) (ep := ep) (m := m) (i := i))
        obtain ⟨g1, hg1⟩ : ∃ g, clT f id ep m.testBit = g := ⟨_, rfl⟩
        obtain ⟨t1, ht1⟩ : ∃ t, tkN f id ep m.testBit = t := ⟨_, rfl⟩
        rw [hg1] at OK1 hs hn HL
        obtain ⟨g2, hg2⟩ : ∃ g, clT g1 id ep m.testBit = g := ⟨_, rfl⟩
        rw [hg2] at hs
        have HG1 := hideIt hg1
        have HG2 := hideIt hg2
        have HT1 := hideIt ht1
        have HT2 := hideIt hn
        have HS := hideIt hs
        clear hg1 hg2 ht1 hn hs
        have tok1 : True := trivial
        have tok2 : True := trivial
        go_enter Tryd.func3, Tryd.ntmps3
        go_upto_region 5 with (first
          | (have _t := tokA; go_at_call 12; rw [← HB.out]; refine (anchor_calls wB S0.tw).mono ?_; rintro e wa ⟨rfl, ka⟩; clear tokA _t; have Sa := hideIt (S0.step ka); clear ka S0 HB)
          | (refine wpList_loadv _ rfl 24 _ rfl rfl Sa.out.tf.load ?_)
          | (have _t := tokR; go_at_call 13; refine (lawright wa f _ h1).mono ?_; rintro e w0 ⟨rfl, k0⟩; clear tokR _t; have Sx0 := hideIt (Sa.out.step k0); obtain ⟨q01, q02, q03⟩ := Sx0.out.cells; clear k0)
          | (go_at_call 14; refine (lawid w0 id _ h2).mono ?_; rintro e w9 ⟨rfl, rfl⟩)
          | (go_at_call 15; refine (lawepoch w0 ep _ h3).mono ?_; rintro e w9 ⟨rfl, rfl⟩))
        go_upto_region 6 with (first
          | (refine wpList_loadv _ rfl 24 _ rfl rfl Sx0.out.tf.load ?_)
          | (have _t := tok1; go_at_call 16; refine (claim_is w0 Sx0.out.tw f id ep m hm OK0.out g1 HG1.out t1 HT1.out).mono ?_; rintro e v1 ⟨rfl, k1⟩; clear tok1 _t; obtain ⟨w1, s1, y1, c1⟩ := keep_tab v1 g1; have Sx1 := hideIt (Sx0.out.step (k1.trans c1)); obtain ⟨q11, q12, q13⟩ := Sx1.out.cells; have T1_1 := hideIt y1; clear y1 k1 c1 q01 q02 q03)
          | (refine wpList_storev _ rfl 24 _ _ rfl rfl rfl s1 ?_; clear s1)
          | (refine wpList_allocagg _ rfl 24 rfl (zero_tab _) ?_))
        go_upto_region 7 with (first
          | (refine wpList_loadv _ rfl 24 _ rfl rfl T1_1.out.load ?_)
          | (have _t := tok2; go_at_call 16; refine (claim_is w1 Sx1.out.tw g1 id ep m hm OK1.out g2 HG2.out 0 HT2.out).mono ?_; rintro e v2 ⟨rfl, k2⟩; clear tok2 _t; obtain ⟨w2, s2, y2, c2⟩ := keep_tab v2 g2; have Sx2 := hideIt (Sx1.out.step (k2.trans c2)); obtain ⟨q21, q22, q23⟩ := Sx2.out.cells; have T2_2 := hideIt y2; have T1_2 := hideIt (T1_1.out.chg (k2.trans c2) (fun h => h)); clear y2 k2 c2 q11 q12 q13)
          | (refine wpList_storev _ rfl 24 _ _ rfl rfl rfl s2 ?_; clear s2)
          | (refine wpList_allocagg _ rfl 24 rfl (zero_tab _) ?_))
        go_upto_region 9 with (first
          | (refine wpList_loadg _ rfl 24 _ rfl rfl T2_2.out.load ?_)
          | (refine wpList_loadg _ rfl 24 _ rfl rfl T1_2.out.load ?_)
          | (refine wpList_netab rfl _ _ _ rfl rfl rfl HS.out ?_))
        have hof := fun (wx : World) => of_calls wx g1 id
        obtain ⟨so, hso⟩ : ∃ so, ofN g1 id = so := ⟨_, rfl⟩
        have hsl : so < 2 ^ 64 := by rw [← hso]; exact ofN_lt _ _
        obtain ⟨sr, hsr⟩ : ∃ sr, m &&& (18446744073709551615 - so) = sr := ⟨_, rfl⟩
        have hsrl : sr < 2 ^ 64 := by rw [← hsr]; exact Nat.lt_of_le_of_lt Nat.and_le_left hm
        have han : bits .andNot .u64 (m : Int) (so : Int) = (sr : Int) := by rw [u64_andNot_nat _ _ hm hsl, hsr]
        rw [hso] at hof
        have HOF := hideIt hof
        have HLF : Hid (∀ i, i < 64 → sr.testBit i = true → g1 i ≠ 0 ∧ ep ≤ g1 (64 + i) ∧ g1 i = f i) := hideIt (fun i hi hb => by
          rw [← hsr, not_bit hsl hi, ← hso] at hb
          simp only [Bool.and_eq_true, Bool.not_eq_true'] at hb
          rw [← HG1.out] at hb ⊢
          exact again_left hi hb.1 hb.2)
        clear hof hso hsr
        refine wp_region_held_drew (S := fun w' => TabAt w' v1.heap.size g1 ∧ w'.cell? ⟨w.heap.size + 1, 0, none⟩ = some (.int .i64 id) ∧ w'.cell? ⟨w.heap.size + 1, 2, none⟩ = some (.int .u64 (m : Int))) (by kernel_rfl) (show TabAt w2.drew v1.heap.size g1 ∧ w2.drew.cell? ⟨w.heap.size + 1, 0, none⟩ = some (.int .i64 id) ∧ w2.drew.cell? ⟨w.heap.size + 1, 2, none⟩ = some (.int .u64 (m : Int)) from ⟨T1_2.out, q21, q23⟩) (fun hH0 => ?_)
        refine wpAnyH_take (i := 0) (v := (.pointer (some ⟨w.heap.size + 1, 2, none⟩))) rfl (by kernel_rfl) (by kernel_rfl) (by kernel_rfl) (fun _ _ _ h => h) (Or.inl ⟨by rfl, fun _ hSw => by (try dsimp only at hSw); first | (go_simp; done) | rfl⟩) hH0 ?_
        try simp [Act.put]
        refine wpAnyH_take (i := 1) (v := (.int .u64 (m : Int))) rfl (by kernel_rfl) (by kernel_rfl) (by kernel_rfl) (fun _ _ _ h => h) (Or.inl ⟨by rfl, fun _ hSw => by (try dsimp only at hSw); first | (go_simp; done) | rfl⟩) hH0 ?_
        try simp [Act.put]
        refine wpAnyH_take (i := 2) rfl (by kernel_rfl) (by kernel_rfl) (by kernel_rfl) (fun _ _ _ h => h) (yields_tab (by rfl) _ rfl rfl (fun _ h => h.1)) hH0 ?_
        try simp [Act.put]
        refine wpAnyH_take (i := 3) (v := (.pointer (some ⟨w.heap.size + 1, 0, none⟩))) rfl (by kernel_rfl) (by kernel_rfl) (by kernel_rfl) (fun _ _ _ h => h) (Or.inl ⟨by rfl, fun _ hSw => by (try dsimp only at hSw); first | (go_simp; done) | rfl⟩) hH0 ?_
        try simp [Act.put]
        refine wpAnyH_take (i := 4) (v := (.int .i64 id)) rfl (by kernel_rfl) (by kernel_rfl) (by kernel_rfl) (fun _ _ _ h => h) (Or.inl ⟨by rfl, fun _ hSw => by (try dsimp only at hSw); first | (go_simp; done) | rfl⟩) hH0 ?_
        try simp [Act.put]
        refine wpAnyH_take (i := 9) (v := (Value.int IntKind.i64 0)) rfl (by kernel_rfl) (by kernel_rfl) (by kernel_rfl) (fun _ _ _ h => h) (Or.inl ⟨by rfl, fun _ _ => rfl⟩) hH0 ?_
        try simp [Act.put]
        refine wpAnyH_ready (rs := [5]) (by kernel_rfl) (by simp) (AllReadyH.cons rfl (fun K hK => ?_) AllReadyH.nil)
        go_simp
        go_at_call 17
        refine (HOF.out _).mono ?_
        rintro e w3 ⟨rfl, k3⟩
        have Sx3 := hideIt ((St.drw Sx2.out).step k3)
        obtain ⟨q31, q32, q33⟩ := Sx3.out.cells
        refine hK.out _ _ (⟨hH0.1.chg k3 (fun h => h), q31, q33⟩) (fun hH1 => ?_)
        clear hK K hH0
        try simp
        refine wpAnyH_take (i := 6) (v := (.int .u64 (sr : Int))) rfl (by kernel_rfl) (by kernel_rfl) (by kernel_rfl) (fun _ _ _ h => h) (Or.inl ⟨by rfl, fun _ hSw => by (try dsimp only at hSw); first | (go_simp; done) | rfl⟩) hH1 ?_
        try simp [Act.put]
        refine wpAnyH_ready (rs := [7]) (by kernel_rfl) (by simp) (AllReadyH.cons rfl (fun K hK => ?_) AllReadyH.nil)
        go_simp
        go_at_call 18
        refine (list_calls w3 Sx3.out.tw sr hsrl).mono ?_
        rintro e w4 hlist
        obtain ⟨A, n, c, rfl, hints, -, hlen, k4⟩ := hlist.get
        clear hlist
        have Sx4 := hideIt (Sx3.out.step k4)
        obtain ⟨q41, q42, q43⟩ := Sx4.out.cells
        refine hK.out _ _ (⟨hH1.1.chg k4 (fun h => h), q41, q43⟩) (fun hH2 => ?_)
        clear hK K hH1
        try simp
        refine wpAnyH_take (i := 8) (v := (.int .i64 (n : Int))) rfl (by kernel_rfl) (by kernel_rfl) (by kernel_rfl) (fun _ _ _ h => h) (Or.inl ⟨by rfl, fun _ hSw => by (try dsimp only at hSw); first | (go_simp; done) | rfl⟩) hH2 ?_
        try simp [Act.put]
        refine wpAnyH_done (by kernel_rfl) ?_ _
        have HT4 := hideIt (TabAt.chg (w := w2.drew) T1_2.out (k3.trans k4) (fun h => h))
        have HLEN := hideIt hlen
        have HINT := hideIt hints
        have hn64 : n ≤ 64 := by rw [← hlen]; exact slots_len sr
        clear k3 k4 hH2 hints hlen q31 q32 q33 q41 q42 q43 q21 q22 q23
        go_wp2
        go_loopw [78] (fun i wr => ∃ k : Nat, k ≤ n ∧ i = .int .i64 k ∧ Chg (fun _ => False) w4 wr) (fun i _ => n - (intOf i).toNat)
        case atStart => exact ⟨0, by omega, rfl, Chg.refl _ _⟩
        case round =>
          obtain ⟨k, hk, rfl, hc⟩ := hrel
          by_cases hlt : k < n
          · have hkl : k < (slotsOf sr).length := by rw [HLEN.out]; exact hlt
            obtain ⟨hi64, hib⟩ := mem_slots.1 (List.getElem_mem hkl)
            obtain ⟨b, off, rfl, hbl, hcell⟩ := (HINT.out.new hc).at_ (by omega)
            have hx := hcell k hlt
            have hget : (slotsI sr).getD k 0 = (((slotsOf sr)[k] : Nat) : Int) := by simp [slotsI, List.getD, hkl]
            rw [hget] at hx
            obtain ⟨i, hI⟩ : ∃ i, (slotsOf sr)[k] = i := ⟨_, rfl⟩
            rw [hI] at hx hi64 hib
            obtain ⟨l1, l2, l3⟩ := HLF.out i hi64 hib
            have St4 := Sx4.out.step hc
            have gco := (HT4.out.chg hc (fun h => h)).cell (show i < 128 by omega)
            have gce := (HT4.out.chg hc (fun h => h)).cell (show 64 + i < 128 by omega)
            have hco := St4.tf.cell (show i < 128 by omega)
            obtain ⟨c1, c2, c3⟩ := St4.cells
            obtain ⟨x, hxe⟩ : ∃ x, f i = x := ⟨_, rfl⟩
            obtain ⟨y, hye⟩ : ∃ y, g1 (64 + i) = y := ⟨_, rfl⟩
            rw [l3, hxe] at gco l1
            rw [hxe] at hco
            rw [hye] at gce l2
            have d1 : (x == 0) = false := by simpa using l1
            have d2 : decide (y < ep) = false := by simp; omega
            have HC := hideIt hc
            clear hcell hget hI hxe hye l1 l2 l3 hkl hib St4 hc
            go_wp2
            go_quiet (fail)
            go_wp2
            go_roundw
            case rel => exact ⟨k + 1, by omega, by go_num, HC.out.drewN _⟩
            case measure => simp [intOf]; omega
          · obtain rfl : k = n := by omega
            go_wp2
            go_ret
            exact ⟨rfl, Sx4.out.chg.trans hc⟩
end Go.Proofs.YtgmekeeemimnpaaDoor
