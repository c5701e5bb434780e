/- ReportPlays, walked. (Printed by wip/gen/rplays.py.) -/
import Derived.Test.YtgmekeeemimnpaaRpH
namespace Go.Proofs.Ytgmekeeemimnpaa
open Go Go.Maps Go.MapKept Go.RowKit

/-- A slice of records is kept where a map alone turns. -/
theorem recs_mapP {w w' : World} {A : Option Addr} {n m : Nat} {L M : List (Pr × Int)} (h : RecsP w A n L) (hm : MapIs ekPr (Value.int .i64) okPr w m M) (hc : Chg (fun i => i = m) w w') : RecsP w' A n L := by
  by_cases h0 : n = 0
  · subst h0
    exact ⟨h.len, fun h => absurd h (by omega)⟩
  · refine ⟨h.len, fun hp => ?_⟩
    obtain ⟨b, off, e, hb, hcell⟩ := h.at_ hp
    have hne : b ≠ m := by
      rintro rfl
      have h1 := hcell 0 (by omega) 0 _ rfl
      obtain ⟨es, clock, hb', _⟩ := hm
      simp [World.cell?, hb'] at h1
    refine ⟨b, off, e, Nat.lt_of_lt_of_le hb hc.size, fun i hi j v hv => ?_⟩
    exact (hc.cell hb hne).trans (hcell i hi j v hv)
theorem noteP_leP (L : List (Pr × Int)) (a y t : Int) : (noteP L a y t).length ≤ L.length + 1 := by
  unfold noteP
  split
  · exact length_aput_le _ _ _
  · omega
theorem keyB_adel (L : List (Pr × Int)) (y z : Int) : L.filter (fun p => !keyB y z p) = adel L (y, z) := by
  unfold adel
  refine List.filter_congr fun p _ => ?_
  obtain ⟨⟨a, b⟩, t⟩ := p
  simp [keyB]
theorem len_adel {L : List (Pr × Int)} (hn : keysNodup L) {x : Pr} {v : Int} (h : aget L x = some v) : L.length = (adel L x).length + 1 := by
  have hp : L.Perm ((x, v) :: adel L x) := by
    refine (List.perm_ext_iff_of_nodup (nodup_of_keys hn) (List.nodup_cons.2 ⟨fun hm => (mem_adel.1 hm).2 rfl, nodup_of_keys (nodup_adel hn x)⟩)).2 fun p => ?_
    rw [List.mem_cons, mem_adel]
    constructor
    · intro hp
      by_cases e : p.1 = x
      · left
        obtain ⟨p1, p2⟩ := p
        simp only at e
        subst e
        have := aget_of_mem hn hp
        rw [h] at this
        cases this
        rfl
      · exact .inr ⟨hp, e⟩
    · rintro (rfl | ⟨hp, _⟩)
      · exact aget_some_mem h
      · exact hp
  have := hp.length_eq
  simpa using this
def WithoutR (w : World) (L' : List (Pr × Int)) (r : Int) (e : Ending) (w' : World) : Prop :=
  ∃ A n c, e = .returned (.tuple #[.slice A n c, .int .i64 r]) ∧ RecsP w' A n L' ∧ n ≤ c ∧ c ≤ maxLen ∧ Chg (fun _ => False) w w'
theorem withoutR {w w' : World} {L L' M : List (Pr × Int)} {e : Ending} (h : Without08 w L L' e w') (hM : L' = M) {r : Int} (hr : (L.length : Int) - (M.length : Int) = r) : WithoutR w M r e w' := by
  subst hM hr; exact h
theorem byL_leP (win : Int) (L : List (Pr × Int)) (about now : Int) : (sortI (byL win L about now)).length ≤ L.length := by
  rw [sortI_len]; exact byL_len_le _ _ _ _

set_option maxRecDepth 100000 in
set_option maxHeartbeats 16000000 in
theorem rplays_calls {win about now : Int} {A : Option Addr} {n c : Nat} {acs : List ActR} (w : World) (_o1 : okI win) (hv : Recs encAR 4 d0AR w A n acs ∧ (∀ x ∈ acs, okAR x) ∧ n ≤ c ∧ c ≤ maxLen) (_oa : okI about) (_on : okI now) :
    Calls Try.prog 23 #[.int .i64 win, .slice A n c, .int .i64 about, .int .i64 now] w fun e w' => e = .returned (.bool true) ∧ Below w.heap.size w w' := by
  have HA := hideIt (anchor08 w)
  obtain ⟨hv, hok, hnc, hcm⟩ := hv
  unfold maxLen at hcm
  have HOK := hideIt hok
  have HV := hideIt hv
  have HLEN := hideIt hv.len
  clear hok hv
  by_cases h0 : 1 ≤ win ∧ win ≤ 1073741824
  · obtain ⟨h01, h02⟩ := h0
    have HN := hideIt (fun W (hc : Chg (fun _ => False) w W) => bookNew win w W hc h01 h02)
    by_cases q0 : 80 < n
    · go_enter Try.func23, Try.ntmps23
      go_wp2_with fail
      refine HA.out.mono ?_
      rintro e w1 ⟨rfl, c1⟩
      go_wp2_with fail
      refine (HN.out w1 c1).mono ?_
      rintro e w2 ⟨b, m, rfl, b2, -, -, -⟩
      go_wp2
      go_ret
      exact ⟨rfl, b2.chg.none_below⟩
    by_cases q1 : now < -1125899906842624
    · go_enter Try.func23, Try.ntmps23
      go_wp2_with fail
      refine HA.out.mono ?_
      rintro e w1 ⟨rfl, c1⟩
      go_wp2_with fail
      refine (HN.out w1 c1).mono ?_
      rintro e w2 ⟨b, m, rfl, b2, -, -, -⟩
      go_wp2
      go_ret
      exact ⟨rfl, b2.chg.none_below⟩
    by_cases q2 : 1125899906842624 < now
    · go_enter Try.func23, Try.ntmps23
      go_wp2_with fail
      refine HA.out.mono ?_
      rintro e w1 ⟨rfl, c1⟩
      go_wp2_with fail
      refine (HN.out w1 c1).mono ?_
      rintro e w2 ⟨b, m, rfl, b2, -, -, -⟩
      go_wp2
      go_ret
      exact ⟨rfl, b2.chg.none_below⟩
    go_enter Try.func23, Try.ntmps23
    go_wp2_with fail
    refine HA.out.mono ?_
    rintro e w1 ⟨rfl, c1⟩
    go_wp2_with fail
    refine (HN.out w1 c1).mono ?_
    rintro e w2 ⟨b, m, rfl, b2, -, -, -⟩
    go_wp2_with fail
    go_loopw [11, 52] (fun v i wr => ∃ (k : Nat) (L : List (Pr × Int)) (A1 : Option Addr) (n1 c1 : Nat), k ≤ n ∧ i = .int .i64 k ∧ v = .slice A1 n1 c1 ∧ BookB w wr b m win L ∧ RecsP wr A1 n1 L ∧ n1 ≤ c1 ∧ c1 ≤ maxLen ∧ L.length ≤ k) (fun _ i _ => n - (intOf i).toNat)
    case atStart => exact ⟨0, [], none, 0, 0, Nat.zero_le _, rfl, rfl, b2, Recs.nil _, Nat.le_refl _, by unfold maxLen; omega, Nat.le_refl _⟩
    case round =>
      clear b2
      obtain ⟨k, L, A1, n1, c1', hk, rfl, rfl, hb, hl, hn1, hc1, hLk⟩ := hrel
      by_cases hlt : k < n
      · obtain ⟨p, off, rfl, hbl, _⟩ := HV.out.at_ (by omega)
        have hrec := HV.out.chg hb.chg (fun _ _ _ _ h => h)
        have hload := hrec.load (P := Try.prog) hlt 62 infoAR aggAR (fun _ => rfl)
        have hoka := HOK.out _ (getD_mem' (d := d0AR) (by rw [HLEN.out]; exact hlt))
        obtain ⟨⟨x, y, z, u⟩, hT⟩ : ∃ t, acs.getD k d0AR = t := ⟨_, rfl⟩
        rw [hT] at hload hoka
        obtain ⟨ok1, ok2, ok3, ok4⟩ := hoka
        simp only at ok1 ok2 ok3 ok4
        have hl2 : (encAR (x, y, z, u)).toArray = #[.int .i64 x, .int .i64 y, .int .i64 z, .int .i64 u] := rfl
        rw [hl2] at hload
        clear hT hrec hl2
        have hm1 := hb.1.2.1.lt
        obtain ⟨w4, s2, t2, k2, z2⟩ := keep_rec (P := Try.prog) wr infoAR (cs := #[.int .i64 0, .int .i64 0, .int .i64 0, .int .i64 0]) (cs' := #[.int .i64 x, .int .i64 y, .int .i64 z, .int .i64 u]) rfl rfl (by intro v hv; simp at hv; rcases hv with rfl | rfl | rfl | rfl <;> rfl)
        have e0 : w4.cell? ⟨wr.heap.size, 0, none⟩ = some (.int .i64 x) := t2.cell 0
        have e1 : w4.cell? ⟨wr.heap.size, 1, none⟩ = some (.int .i64 y) := t2.cell 1
        have e2 : w4.cell? ⟨wr.heap.size, 2, none⟩ = some (.int .i64 z) := t2.cell 2
        have e3 : w4.cell? ⟨wr.heap.size, 3, none⟩ = some (.int .i64 u) := t2.cell 3
        have hload4 := t2.loadAll (P := Try.prog) infoAR aggAR rfl
        have T2 := hideIt t2
        have H4 := hideIt (hb.new k2)
        have R4 := hideIt (hl.new k2)
        have hl1 := hl.len
        have hn80 : n1 ≤ 80 := by omega
        have HC1 := hideIt hc1
        have HND := hideIt hb.1.nodup
        have HOL := hideIt hb.1.2.2.2
        have HL1 := hideIt hl1
        clear t2 z2 k2 hb hl hl1 hc1
        by_cases g1 : u < -1125899906842624
        · go_wp2_with (first
            | (refine wpList_loadv _ rfl 62 _ rfl rfl hload ?_)
            | (refine wpList_allocv _ rfl 62 rfl (zeroAR _) ?_)
            | (refine wpList_storev _ rfl 62 _ _ rfl rfl rfl s2 ?_))
          go_ret
          exact ⟨rfl, H4.out.chg.none_below⟩
        by_cases g2 : 1125899906842624 < u
        · go_wp2_with (first
            | (refine wpList_loadv _ rfl 62 _ rfl rfl hload ?_)
            | (refine wpList_allocv _ rfl 62 rfl (zeroAR _) ?_)
            | (refine wpList_storev _ rfl 62 _ _ rfl rfl rfl s2 ?_))
          go_ret
          exact ⟨rfl, H4.out.chg.none_below⟩
        by_cases x1 : x = 1
        · have d1 : (x == 1) = true := by simpa using x1
          clear x1
          obtain ⟨M, hM⟩ : ∃ M, noteP L y z u = M := ⟨_, rfl⟩
          have HLN : Hid (M.length ≤ k + 1) := hideIt (by have := noteP_leP L y z u; rw [← hM]; omega)
          have HM := hideIt hM
          clear hM
          go_wp2_with (first
            | (refine wpList_loadv _ rfl 62 _ rfl rfl hload ?_)
            | (refine wpList_allocv _ rfl 62 rfl (zeroAR _) ?_)
            | (refine wpList_storev _ rfl 62 _ _ rfl rfl rfl s2 ?_)
            | (refine wpList_loadv _ rfl 62 _ rfl rfl hload4 ?_)
            | (go_at_call 59; refine (note08_calls R4.out hn1 HC1.out (by omega) HND.out ok2 ok3 ok4).mono ?_; rintro e w5 ⟨A2, n2, c2, rfl, r5, hn2, hc2, k5⟩; have T5 := T2.out.chg k5 (fun h => h); have f1 := T5.cell 1; have f2 := T5.cell 2; have f3 := T5.cell 3; clear T5 e0 e1 e2 e3; have H5 := hideIt (H4.out.new k5); clear k5)
            | (go_at_call 58; refine (H5.out.note y z u ok2 ok3 ok4 _ M rfl HM.out).mono ?_; rintro e w6 ⟨rfl, bt, k6⟩; have rt := recs_mapP r5 H5.out.1.2.1 k6; have hlen2 := r5.len; rw [HM.out] at rt hlen2; clear r5 k6; skip))
          have ht := hlen2
          have hM81 : M.length ≤ 81 := by have := HLN.out; omega
          obtain ⟨xs, hxs⟩ : ∃ xs, sortI (byL win M about now) = xs := ⟨_, rfl⟩
          obtain ⟨nx, hnx⟩ : ∃ nx, xs.length = nx := ⟨_, rfl⟩
          have hx81 : nx ≤ 81 := by have := byL_leP win M about now; rw [hxs] at this; omega
          have HX := hideIt hxs
          have HNX := hideIt hnx
          have HTL := hideIt ht
          have hn281 : n2 ≤ 81 := by omega
          have HC2 := hideIt hc2
          have R7 := hideIt rt
          clear ht hlen2 hxs hnx hc2 rt
          go_wp2_with fail
          refine (bt.len n2 HTL.out).mono ?_
          rintro e w7 ⟨rfl, rfl⟩
          go_wp2_with fail
          refine (bt.by_ about now (by omega) (by omega) xs HX.out nx HNX.out).mono ?_
          rintro e w8 ⟨A8, c8, rfl, i8, -, -, b8, k8⟩
          clear bt
          go_wp2_with fail
          refine (by08_calls (R7.out.new k8) (by omega) b8.1.nodup b8.1.2.2.2 (by omega) (by omega)).mono ?_
          rintro e w9 ⟨A9, n9, c9, rfl, i9, k9⟩
          rw [HX.out] at i9
          have R9 := hideIt (R7.out.new (k8.trans k9))
          have b9 := b8.new k9
          clear b8
          go_wp2_with fail
          refine (same8_eq _ (i8.new k9) i9 (by omega)).mono ?_
          rintro e w10 ⟨rfl, rfl⟩
          clear i8 i9 k8 k9
          go_wp2
          go_roundw
          case rel => exact ⟨k + 1, M, A2, n2, c2, by omega, by go_num, rfl, b9, R9.out, hn2, HC2.out, HLN.out⟩
          case measure => simp [intOf]; omega
        have d1 : (x == 1) = false := by simpa using x1
        by_cases x2 : x = 2
        · subst x2
          clear d1 x1
          cases hg : aget L (y, z) with
          | some v0 =>
            obtain ⟨M, hM⟩ : ∃ M, adel L (y, z) = M := ⟨_, rfl⟩
            have HM := hideIt ((keyB_adel L y z).trans hM)
            have hla := len_adel HND.out hg
            rw [hM] at hla
            have HLN : Hid (M.length ≤ k + 1) := hideIt (by omega)
            have HR : Hid ((L.length : Int) - (M.length : Int) = 1) := hideIt (by omega)
            have HM2 := hideIt hM
            have HS : Hid ((aget L (y, z)).isSome = true) := hideIt (by rw [hg]; rfl)
            clear hM hla hg
            go_wp2_with (first
              | (refine wpList_loadv _ rfl 62 _ rfl rfl hload ?_)
              | (refine wpList_allocv _ rfl 62 rfl (zeroAR _) ?_)
              | (refine wpList_storev _ rfl 62 _ _ rfl rfl rfl s2 ?_)
              | (refine wpList_loadv _ rfl 62 _ rfl rfl hload4 ?_)
              | (go_at_call 72; refine (without_2 R4.out hn1 (by omega) HOL.out (by omega) (by omega)).mono ?_; rintro e w5 hw; obtain ⟨A2, n2, c2, rfl, r5, hn2, hc2, k5⟩ := withoutR hw HM.out HR.out; have T5 := T2.out.chg k5 (fun h => h); have f1 := T5.cell 1; have f2 := T5.cell 2; have f3 := T5.cell 3; clear T5 e0 e1 e2 e3; have H5 := hideIt (H4.out.new k5); clear k5 hw)
              | (go_at_call 64; refine (H5.out.clear y z ok2 ok3 true M HS.out HM2.out).mono ?_; rintro e w6 ⟨rfl, bt, k6⟩; have rt := recs_mapP r5 H5.out.1.2.1 k6; have hlen2 := r5.len; clear r5 k6))
            have ht := hlen2
            have hM81 : M.length ≤ 81 := by have := HLN.out; omega
            obtain ⟨xs, hxs⟩ : ∃ xs, sortI (byL win M about now) = xs := ⟨_, rfl⟩
            obtain ⟨nx, hnx⟩ : ∃ nx, xs.length = nx := ⟨_, rfl⟩
            have hx81 : nx ≤ 81 := by have := byL_leP win M about now; rw [hxs] at this; omega
            have HX := hideIt hxs
            have HNX := hideIt hnx
            have HTL := hideIt ht
            have hn281 : n2 ≤ 81 := by omega
            have HC2 := hideIt hc2
            have R7 := hideIt rt
            clear ht hlen2 hxs hnx hc2 rt
            go_wp2_with fail
            refine (bt.len n2 HTL.out).mono ?_
            rintro e w7 ⟨rfl, rfl⟩
            go_wp2_with fail
            refine (bt.by_ about now (by omega) (by omega) xs HX.out nx HNX.out).mono ?_
            rintro e w8 ⟨A8, c8, rfl, i8, -, -, b8, k8⟩
            clear bt
            go_wp2_with fail
            refine (by08_calls (R7.out.new k8) (by omega) b8.1.nodup b8.1.2.2.2 (by omega) (by omega)).mono ?_
            rintro e w9 ⟨A9, n9, c9, rfl, i9, k9⟩
            rw [HX.out] at i9
            have R9 := hideIt (R7.out.new (k8.trans k9))
            have b9 := b8.new k9
            clear b8
            go_wp2_with fail
            refine (same8_eq _ (i8.new k9) i9 (by omega)).mono ?_
            rintro e w10 ⟨rfl, rfl⟩
            clear i8 i9 k8 k9
            go_wp2
            go_roundw
            case rel => exact ⟨k + 1, M, A2, n2, c2, by omega, by go_num, rfl, b9, R9.out, hn2, HC2.out, HLN.out⟩
            case measure => simp [intOf]; omega
          | none =>
            obtain ⟨M, hM⟩ : ∃ M, adel L (y, z) = M := ⟨_, rfl⟩
            have HM := hideIt ((keyB_adel L y z).trans hM)
            have hla : M = L := by rw [← hM]; exact adel_of_not hg
            have HLN : Hid (M.length ≤ k + 1) := hideIt (by rw [hla]; omega)
            have HR : Hid ((L.length : Int) - (M.length : Int) = 0) := hideIt (by rw [hla]; omega)
            have HM2 := hideIt hM
            have HS : Hid ((aget L (y, z)).isSome = false) := hideIt (by rw [hg]; rfl)
            clear hM hla hg
            go_wp2_with (first
              | (refine wpList_loadv _ rfl 62 _ rfl rfl hload ?_)
              | (refine wpList_allocv _ rfl 62 rfl (zeroAR _) ?_)
              | (refine wpList_storev _ rfl 62 _ _ rfl rfl rfl s2 ?_)
              | (refine wpList_loadv _ rfl 62 _ rfl rfl hload4 ?_)
              | (go_at_call 72; refine (without_2 R4.out hn1 (by omega) HOL.out (by omega) (by omega)).mono ?_; rintro e w5 hw; obtain ⟨A2, n2, c2, rfl, r5, hn2, hc2, k5⟩ := withoutR hw HM.out HR.out; have T5 := T2.out.chg k5 (fun h => h); have f1 := T5.cell 1; have f2 := T5.cell 2; have f3 := T5.cell 3; clear T5 e0 e1 e2 e3; have H5 := hideIt (H4.out.new k5); clear k5 hw)
              | (go_at_call 64; refine (H5.out.clear y z ok2 ok3 false M HS.out HM2.out).mono ?_; rintro e w6 ⟨rfl, bt, k6⟩; have rt := recs_mapP r5 H5.out.1.2.1 k6; have hlen2 := r5.len; clear r5 k6))
            have ht := hlen2
            have hM81 : M.length ≤ 81 := by have := HLN.out; omega
            obtain ⟨xs, hxs⟩ : ∃ xs, sortI (byL win M about now) = xs := ⟨_, rfl⟩
            obtain ⟨nx, hnx⟩ : ∃ nx, xs.length = nx := ⟨_, rfl⟩
            have hx81 : nx ≤ 81 := by have := byL_leP win M about now; rw [hxs] at this; omega
            have HX := hideIt hxs
            have HNX := hideIt hnx
            have HTL := hideIt ht
            have hn281 : n2 ≤ 81 := by omega
            have HC2 := hideIt hc2
            have R7 := hideIt rt
            clear ht hlen2 hxs hnx hc2 rt
            go_wp2_with fail
            refine (bt.len n2 HTL.out).mono ?_
            rintro e w7 ⟨rfl, rfl⟩
            go_wp2_with fail
            refine (bt.by_ about now (by omega) (by omega) xs HX.out nx HNX.out).mono ?_
            rintro e w8 ⟨A8, c8, rfl, i8, -, -, b8, k8⟩
            clear bt
            go_wp2_with fail
            refine (by08_calls (R7.out.new k8) (by omega) b8.1.nodup b8.1.2.2.2 (by omega) (by omega)).mono ?_
            rintro e w9 ⟨A9, n9, c9, rfl, i9, k9⟩
            rw [HX.out] at i9
            have R9 := hideIt (R7.out.new (k8.trans k9))
            have b9 := b8.new k9
            clear b8
            go_wp2_with fail
            refine (same8_eq _ (i8.new k9) i9 (by omega)).mono ?_
            rintro e w10 ⟨rfl, rfl⟩
            clear i8 i9 k8 k9
            go_wp2
            go_roundw
            case rel => exact ⟨k + 1, M, A2, n2, c2, by omega, by go_num, rfl, b9, R9.out, hn2, HC2.out, HLN.out⟩
            case measure => simp [intOf]; omega
        have d2 : (x == 2) = false := by simpa using x2
        by_cases x3 : x = 3
        · subst x3
          clear d1 x1 d2 x2
          obtain ⟨M, hM⟩ : ∃ M, L.filter (fun p => !forgB y p) = M := ⟨_, rfl⟩
          have hle : M.length ≤ L.length := by rw [← hM]; exact List.length_filter_le _ _
          obtain ⟨r, hr⟩ : ∃ r, L.length - M.length = r := ⟨_, rfl⟩
          have HM := hideIt hM
          have HLN : Hid (M.length ≤ k + 1) := hideIt (by omega)
          have HR : Hid ((L.length : Int) - (M.length : Int) = (r : Int)) := hideIt (by omega)
          have HS : Hid (r + M.length = L.length) := hideIt (by omega)
          clear hM hle hr
          go_wp2_with (first
            | (refine wpList_loadv _ rfl 62 _ rfl rfl hload ?_)
            | (refine wpList_allocv _ rfl 62 rfl (zeroAR _) ?_)
            | (refine wpList_storev _ rfl 62 _ _ rfl rfl rfl s2 ?_)
            | (refine wpList_loadv _ rfl 62 _ rfl rfl hload4 ?_)
            | (go_at_call 72; refine (without_3 R4.out hn1 (by omega) HOL.out (by omega) (by omega)).mono ?_; rintro e w5 hw; obtain ⟨A2, n2, c2, rfl, r5, hn2, hc2, k5⟩ := withoutR hw HM.out HR.out; have T5 := T2.out.chg k5 (fun h => h); have f1 := T5.cell 1; have f2 := T5.cell 2; have f3 := T5.cell 3; clear T5 e0 e1 e2 e3; have H5 := hideIt (H4.out.new k5); clear k5 hw)
            | (go_at_call 67; refine (H5.out.forget y (by omega) M HM.out r HS.out).mono ?_; rintro e w6 ⟨rfl, bt, k6⟩; have rt := recs_mapP r5 H5.out.1.2.1 k6; have hlen2 := r5.len; clear r5 k6))
          have ht := hlen2
          have hM81 : M.length ≤ 81 := by have := HLN.out; omega
          obtain ⟨xs, hxs⟩ : ∃ xs, sortI (byL win M about now) = xs := ⟨_, rfl⟩
          obtain ⟨nx, hnx⟩ : ∃ nx, xs.length = nx := ⟨_, rfl⟩
          have hx81 : nx ≤ 81 := by have := byL_leP win M about now; rw [hxs] at this; omega
          have HX := hideIt hxs
          have HNX := hideIt hnx
          have HTL := hideIt ht
          have hn281 : n2 ≤ 81 := by omega
          have HC2 := hideIt hc2
          have R7 := hideIt rt
          clear ht hlen2 hxs hnx hc2 rt
          go_wp2_with fail
          refine (bt.len n2 HTL.out).mono ?_
          rintro e w7 ⟨rfl, rfl⟩
          go_wp2_with fail
          refine (bt.by_ about now (by omega) (by omega) xs HX.out nx HNX.out).mono ?_
          rintro e w8 ⟨A8, c8, rfl, i8, -, -, b8, k8⟩
          clear bt
          go_wp2_with fail
          refine (by08_calls (R7.out.new k8) (by omega) b8.1.nodup b8.1.2.2.2 (by omega) (by omega)).mono ?_
          rintro e w9 ⟨A9, n9, c9, rfl, i9, k9⟩
          rw [HX.out] at i9
          have R9 := hideIt (R7.out.new (k8.trans k9))
          have b9 := b8.new k9
          clear b8
          go_wp2_with fail
          refine (same8_eq _ (i8.new k9) i9 (by omega)).mono ?_
          rintro e w10 ⟨rfl, rfl⟩
          clear i8 i9 k8 k9
          go_wp2
          go_roundw
          case rel => exact ⟨k + 1, M, A2, n2, c2, by omega, by go_num, rfl, b9, R9.out, hn2, HC2.out, HLN.out⟩
          case measure => simp [intOf]; omega
        have d3 : (x == 3) = false := by simpa using x3
        by_cases x4 : x = 4
        · subst x4
          clear d1 x1 d2 x2 d3 x3
          obtain ⟨M, hM⟩ : ∃ M, L.filter (fun p => !expB win u p) = M := ⟨_, rfl⟩
          have hle : M.length ≤ L.length := by rw [← hM]; exact List.length_filter_le _ _
          obtain ⟨r, hr⟩ : ∃ r, L.length - M.length = r := ⟨_, rfl⟩
          have HM := hideIt hM
          have HLN : Hid (M.length ≤ k + 1) := hideIt (by omega)
          have HR : Hid ((L.length : Int) - (M.length : Int) = (r : Int)) := hideIt (by omega)
          have HS : Hid (r + M.length = L.length) := hideIt (by omega)
          clear hM hle hr
          go_wp2_with (first
            | (refine wpList_loadv _ rfl 62 _ rfl rfl hload ?_)
            | (refine wpList_allocv _ rfl 62 rfl (zeroAR _) ?_)
            | (refine wpList_storev _ rfl 62 _ _ rfl rfl rfl s2 ?_)
            | (refine wpList_loadv _ rfl 62 _ rfl rfl hload4 ?_)
            | (go_at_call 72; refine (without_4 R4.out hn1 (by omega) HOL.out (by omega) (by omega)).mono ?_; rintro e w5 hw; obtain ⟨A2, n2, c2, rfl, r5, hn2, hc2, k5⟩ := withoutR hw HM.out HR.out; have T5 := T2.out.chg k5 (fun h => h); have f1 := T5.cell 1; have f2 := T5.cell 2; have f3 := T5.cell 3; clear T5 e0 e1 e2 e3; have H5 := hideIt (H4.out.new k5); clear k5 hw)
            | (go_at_call 66; refine (H5.out.expire u (by omega) (by omega) M HM.out r HS.out).mono ?_; rintro e w6 ⟨rfl, bt, k6⟩; have rt := recs_mapP r5 H5.out.1.2.1 k6; have hlen2 := r5.len; clear r5 k6))
          have ht := hlen2
          have hM81 : M.length ≤ 81 := by have := HLN.out; omega
          obtain ⟨xs, hxs⟩ : ∃ xs, sortI (byL win M about now) = xs := ⟨_, rfl⟩
          obtain ⟨nx, hnx⟩ : ∃ nx, xs.length = nx := ⟨_, rfl⟩
          have hx81 : nx ≤ 81 := by have := byL_leP win M about now; rw [hxs] at this; omega
          have HX := hideIt hxs
          have HNX := hideIt hnx
          have HTL := hideIt ht
          have hn281 : n2 ≤ 81 := by omega
          have HC2 := hideIt hc2
          have R7 := hideIt rt
          clear ht hlen2 hxs hnx hc2 rt
          go_wp2_with fail
          refine (bt.len n2 HTL.out).mono ?_
          rintro e w7 ⟨rfl, rfl⟩
          go_wp2_with fail
          refine (bt.by_ about now (by omega) (by omega) xs HX.out nx HNX.out).mono ?_
          rintro e w8 ⟨A8, c8, rfl, i8, -, -, b8, k8⟩
          clear bt
          go_wp2_with fail
          refine (by08_calls (R7.out.new k8) (by omega) b8.1.nodup b8.1.2.2.2 (by omega) (by omega)).mono ?_
          rintro e w9 ⟨A9, n9, c9, rfl, i9, k9⟩
          rw [HX.out] at i9
          have R9 := hideIt (R7.out.new (k8.trans k9))
          have b9 := b8.new k9
          clear b8
          go_wp2_with fail
          refine (same8_eq _ (i8.new k9) i9 (by omega)).mono ?_
          rintro e w10 ⟨rfl, rfl⟩
          clear i8 i9 k8 k9
          go_wp2
          go_roundw
          case rel => exact ⟨k + 1, M, A2, n2, c2, by omega, by go_num, rfl, b9, R9.out, hn2, HC2.out, HLN.out⟩
          case measure => simp [intOf]; omega
        have d4 : (x == 4) = false := by simpa using x4
        clear x1 x2 x3 x4
        have HLN : Hid (L.length ≤ k + 1) := hideIt (by omega)
        obtain ⟨M, hM⟩ : ∃ M, L = M := ⟨_, rfl⟩
        subst hM
        go_upto_region 33 with (first
          | (refine wpList_loadv _ rfl 62 _ rfl rfl hload ?_)
          | (refine wpList_allocv _ rfl 62 rfl (zeroAR _) ?_)
          | (refine wpList_storev _ rfl 62 _ _ rfl rfl rfl s2 ?_))
        have bt := H4.out
        have rt := R4.out
        have hlen1 := HL1.out
        obtain ⟨A2, hA2⟩ : ∃ A, A1 = A := ⟨_, rfl⟩
        subst hA2
        have hc2 := HC1.out
        have ht := hlen1
        have hL81 : L.length ≤ 81 := by have := HLN.out; omega
        obtain ⟨xs, hxs⟩ : ∃ xs, sortI (byL win L about now) = xs := ⟨_, rfl⟩
        obtain ⟨nx, hnx⟩ : ∃ nx, xs.length = nx := ⟨_, rfl⟩
        have hx81 : nx ≤ 81 := by have := byL_leP win L about now; rw [hxs] at this; omega
        have HX := hideIt hxs
        have HNX := hideIt hnx
        have HTL := hideIt ht
        have hn181 : n1 ≤ 81 := by omega
        have HC2 := hideIt hc2
        have R7 := hideIt rt
        clear ht hlen1 hxs hnx hc2 rt
        go_wp2_with fail
        refine (bt.len n1 HTL.out).mono ?_
        rintro e w7 ⟨rfl, rfl⟩
        go_wp2_with fail
        refine (bt.by_ about now (by omega) (by omega) xs HX.out nx HNX.out).mono ?_
        rintro e w8 ⟨A8, c8, rfl, i8, -, -, b8, k8⟩
        clear bt
        go_wp2_with fail
        refine (by08_calls (R7.out.new k8) (by omega) b8.1.nodup b8.1.2.2.2 (by omega) (by omega)).mono ?_
        rintro e w9 ⟨A9, n9, c9, rfl, i9, k9⟩
        rw [HX.out] at i9
        have R9 := hideIt (R7.out.new (k8.trans k9))
        have b9 := b8.new k9
        clear b8
        go_wp2_with fail
        refine (same8_eq _ (i8.new k9) i9 (by omega)).mono ?_
        rintro e w10 ⟨rfl, rfl⟩
        clear i8 i9 k8 k9
        go_wp2
        go_roundw
        case rel => exact ⟨k + 1, L, A1, n1, c1', by omega, by go_num, rfl, b9, R9.out, hn1, HC2.out, HLN.out⟩
        case measure => simp [intOf]; omega
      · obtain rfl : k = n := by omega
        go_wp2
        go_ret
        exact ⟨rfl, hb.chg.none_below⟩
  · have HN := hideIt (fun W => rnew_no win W h0)
    by_cases p0 : win < 1
    · clear h0
      go_enter Try.func23, Try.ntmps23
      go_wp2_with (first
        | (go_at_call 56; refine HA.out.mono ?_; rintro e w1 ⟨rfl, c1⟩)
        | (go_at_call 57; refine (HN.out _).mono ?_; rintro e w2 ⟨rfl, rfl⟩))
      go_ret
      exact ⟨rfl, c1.none_below⟩
    · have p1 : 1073741824 < win := by omega
      clear h0
      go_enter Try.func23, Try.ntmps23
      go_wp2_with (first
        | (go_at_call 56; refine HA.out.mono ?_; rintro e w1 ⟨rfl, c1⟩)
        | (go_at_call 57; refine (HN.out _).mono ?_; rintro e w2 ⟨rfl, rfl⟩))
      go_ret
      exact ⟨rfl, c1.none_below⟩
end Go.Proofs.Ytgmekeeemimnpaa
