/- ReportFails, walked. (Printed by wip/gen/rfails.py.) -/
import Derived.Test.YtgmekeeemimnpaaRpG
namespace Go.Proofs.Ytgmekeeemimnpaa
open Go Go.Maps Go.MapKept Go.RowKit

/-- A slice of records is kept where a map alone turns. -/
theorem recs_map {w w' : World} {A : Option Addr} {n m : Nat} {L M : List (Pr × Int)} (h : RecsP w A n L) (hm : MapIs ekPr (Value.int .i64) okPr w m M) (hc : Chg (fun i => i = m) w w') : RecsP w' A n L := by
  by_cases h0 : n = 0
  · subst h0
    exact ⟨h.len, fun h => absurd h (by omega)⟩
  · refine ⟨h.len, fun hp => ?_⟩
    obtain ⟨b, off, e, hb, hcell⟩ := h.at_ hp
    have hne : b ≠ m := by
      rintro rfl
      have h1 := hcell 0 (by omega) 0 _ rfl
      obtain ⟨es, clock, hb', _⟩ := hm
      simp [World.cell?, hb'] at h1
    refine ⟨b, off, e, Nat.lt_of_lt_of_le hb hc.size, fun i hi j v hv => ?_⟩
    exact (hc.cell hb hne).trans (hcell i hi j v hv)
theorem noteP_le (L : List (Pr × Int)) (a y t : Int) : (noteP L a y t).length ≤ L.length + 1 := by
  unfold noteP
  split
  · exact length_aput_le _ _ _
  · omega

set_option maxRecDepth 100000 in
set_option maxHeartbeats 16000000 in
theorem rfails_calls {win now : Int} {A V : Option Addr} {n c nv cv : Nat} {acs : List ActR} {vs : List Int} (w : World) (_o1 : okI win) (hv : Recs encAR 4 d0AR w A n acs ∧ (∀ x ∈ acs, okAR x) ∧ n ≤ c ∧ c ≤ maxLen) (_on : okI now) (hvs : Ints w V nv vs ∧ nv ≤ cv ∧ cv ≤ maxLen) :
    Calls Try.prog 15 #[.int .i64 win, .slice A n c, .int .i64 now, .slice V nv cv] w fun e w' => e = .returned (.bool true) ∧ Below w.heap.size w w' := by
  have HA := hideIt (anchor08 w)
  obtain ⟨hv, hok, hnc, hcm⟩ := hv
  obtain ⟨hvs, hnvc, hcvm⟩ := hvs
  unfold maxLen at hcm hcvm
  have HOK := hideIt hok
  have HV := hideIt hv
  have HLEN := hideIt hv.len
  have HVS := hideIt hvs
  clear hok hv hvs
  by_cases h0 : 1 ≤ win ∧ win ≤ 1073741824
  · obtain ⟨h01, h02⟩ := h0
    have HN := hideIt (fun W (hc : Chg (fun _ => False) w W) => bookNew win w W hc h01 h02)
    by_cases q0 : 80 < n
    · go_enter Try.func15, Try.ntmps15
      go_wp2_with fail
      refine HA.out.mono ?_
      rintro e w1 ⟨rfl, c1⟩
      go_wp2_with fail
      refine (HN.out w1 c1).mono ?_
      rintro e w2 ⟨b, m, rfl, b2, -, -, -⟩
      go_wp2
      go_ret
      exact ⟨rfl, b2.chg.none_below⟩
    by_cases q1 : 100 < nv
    · go_enter Try.func15, Try.ntmps15
      go_wp2_with fail
      refine HA.out.mono ?_
      rintro e w1 ⟨rfl, c1⟩
      go_wp2_with fail
      refine (HN.out w1 c1).mono ?_
      rintro e w2 ⟨b, m, rfl, b2, -, -, -⟩
      go_wp2
      go_ret
      exact ⟨rfl, b2.chg.none_below⟩
    by_cases q2 : now < -1125899906842624
    · go_enter Try.func15, Try.ntmps15
      go_wp2_with fail
      refine HA.out.mono ?_
      rintro e w1 ⟨rfl, c1⟩
      go_wp2_with fail
      refine (HN.out w1 c1).mono ?_
      rintro e w2 ⟨b, m, rfl, b2, -, -, -⟩
      go_wp2
      go_ret
      exact ⟨rfl, b2.chg.none_below⟩
    by_cases q3 : 1125899906842624 < now
    · go_enter Try.func15, Try.ntmps15
      go_wp2_with fail
      refine HA.out.mono ?_
      rintro e w1 ⟨rfl, c1⟩
      go_wp2_with fail
      refine (HN.out w1 c1).mono ?_
      rintro e w2 ⟨b, m, rfl, b2, -, -, -⟩
      go_wp2
      go_ret
      exact ⟨rfl, b2.chg.none_below⟩
    go_enter Try.func15, Try.ntmps15
    go_wp2_with fail
    refine HA.out.mono ?_
    rintro e w1 ⟨rfl, c1⟩
    go_wp2_with fail
    refine (HN.out w1 c1).mono ?_
    rintro e w2 ⟨b, m, rfl, b2, -, -, -⟩
    go_wp2_with fail
    go_loopw [11, 45] (fun v i wr => ∃ (k : Nat) (L : List (Pr × Int)) (A1 : Option Addr) (n1 c1 : Nat), k ≤ n ∧ i = .int .i64 k ∧ v = .slice A1 n1 c1 ∧ BookB w wr b m win L ∧ RecsP wr A1 n1 L ∧ n1 ≤ c1 ∧ c1 ≤ maxLen ∧ L.length ≤ k) (fun _ i _ => n - (intOf i).toNat)
    case atStart => exact ⟨0, [], none, 0, 0, Nat.zero_le _, rfl, rfl, b2, Recs.nil _, Nat.le_refl _, by unfold maxLen; omega, Nat.le_refl _⟩
    case round =>
      clear b2
      obtain ⟨k, L, A1, n1, c1', hk, rfl, rfl, hb, hl, hn1, hc1, hLk⟩ := hrel
      by_cases hlt : k < n
      · obtain ⟨p, off, rfl, hbl, _⟩ := HV.out.at_ (by omega)
        have hrec := HV.out.chg hb.chg (fun _ _ _ _ h => h)
        have hload := hrec.load (P := Try.prog) hlt 62 infoAR aggAR (fun _ => rfl)
        have hoka := HOK.out _ (getD_mem' (d := d0AR) (by rw [HLEN.out]; exact hlt))
        obtain ⟨⟨x, y, z, u⟩, hT⟩ : ∃ t, acs.getD k d0AR = t := ⟨_, rfl⟩
        rw [hT] at hload hoka
        obtain ⟨ok1, ok2, ok3, ok4⟩ := hoka
        simp only at ok1 ok2 ok3 ok4
        have hl2 : (encAR (x, y, z, u)).toArray = #[.int .i64 x, .int .i64 y, .int .i64 z, .int .i64 u] := rfl
        rw [hl2] at hload
        clear hT hrec hl2
        have hm1 := hb.1.2.1.lt
        obtain ⟨w4, s2, t2, k2, z2⟩ := keep_rec (P := Try.prog) wr infoAR (cs := #[.int .i64 0, .int .i64 0, .int .i64 0, .int .i64 0]) (cs' := #[.int .i64 x, .int .i64 y, .int .i64 z, .int .i64 u]) rfl rfl (by intro v hv; simp at hv; rcases hv with rfl | rfl | rfl | rfl <;> rfl)
        have e0 : w4.cell? ⟨wr.heap.size, 0, none⟩ = some (.int .i64 x) := t2.cell 0
        have e1 : w4.cell? ⟨wr.heap.size, 1, none⟩ = some (.int .i64 y) := t2.cell 1
        have e2 : w4.cell? ⟨wr.heap.size, 2, none⟩ = some (.int .i64 z) := t2.cell 2
        have e3 : w4.cell? ⟨wr.heap.size, 3, none⟩ = some (.int .i64 u) := t2.cell 3
        have T2 := hideIt t2
        have H4 := hideIt (hb.new k2)
        have R4 := hideIt (hl.new k2)
        have hl1 := hl.len
        have hn80 : n1 ≤ 80 := by omega
        have HC1 := hideIt hc1
        have HLN : Hid ((noteP L y z u).length ≤ k + 1) := hideIt (by have := noteP_le L y z u; omega)
        clear t2 z2 k2 hb hl hl1 hc1
        by_cases hx : x = 1
        · have dx : (x == 1) = true := by simpa using hx
          clear hx
          obtain ⟨r, hr⟩ : ∃ r, noteE y z u = r := ⟨_, rfl⟩
          have HE := hideIt hr
          by_cases hr0 : r = 0
          · subst hr0
            clear hr
            go_wp2_with (first
              | (refine wpList_loadv _ rfl 62 _ rfl rfl hload ?_)
              | (refine wpList_allocv _ rfl 62 rfl (zeroAR _) ?_)
              | (refine wpList_storev _ rfl 62 _ _ rfl rfl rfl s2 ?_)
              | (go_at_call 58; refine (H4.out.note y z u ok2 ok3 ok4 _ _ HE.out rfl).mono ?_; rintro e w5 ⟨rfl, b5, k5⟩; have T5 := T2.out.chg k5 (by omega); have hload5 := T5.loadAll (P := Try.prog) infoAR aggAR rfl; have R5 := hideIt (recs_map R4.out H4.out.1.2.1 k5); clear k5 e0 e1 e2 e3 T5)
              | (refine wpList_loadv _ rfl 62 _ rfl rfl hload5 ?_)
              | (go_at_call 59; refine (note08_calls R5.out hn1 HC1.out (by omega) H4.out.1.nodup ok2 ok3 ok4).mono ?_; rintro e w6 ⟨A2, n2, c2, rfl, r6, hn6, hc6, k6⟩; have b6 := b5.new k6; clear hload5))
            go_roundw
            case rel => exact ⟨k + 1, _, A2, n2, c2, by omega, by go_num, rfl, b6, r6, hn6, hc6, HLN.out⟩
            case measure => simp [intOf]; omega
          · have HP : Hid (noteP L y z u = L) := hideIt (by unfold noteP; rw [if_neg (by rw [hr]; exact hr0)])
            have dr : (r == 0) = false := by simpa using hr0
            clear hr hr0 HLN
            go_wp2_with (first
              | (refine wpList_loadv _ rfl 62 _ rfl rfl hload ?_)
              | (refine wpList_allocv _ rfl 62 rfl (zeroAR _) ?_)
              | (refine wpList_storev _ rfl 62 _ _ rfl rfl rfl s2 ?_)
              | (go_at_call 58; refine (H4.out.note y z u ok2 ok3 ok4 _ _ HE.out rfl).mono ?_; rintro e w5 ⟨rfl, b5, k5⟩; have T5 := T2.out.chg k5 (by omega); have hload5 := T5.loadAll (P := Try.prog) infoAR aggAR rfl; have R5 := hideIt (recs_map R4.out H4.out.1.2.1 k5); clear k5 e0 e1 e2 e3 T5))
            go_roundw
            case rel => exact ⟨k + 1, L, A1, n1, c1', by omega, by go_num, rfl, by rw [← HP.out]; exact b5, R5.out, hn1, HC1.out, by omega⟩
            case measure => simp [intOf]; omega
        · have dx : (x == 1) = false := by simpa using hx
          clear hx HLN
          go_wp2_with (first
            | (refine wpList_loadv _ rfl 62 _ rfl rfl hload ?_)
            | (refine wpList_allocv _ rfl 62 rfl (zeroAR _) ?_)
            | (refine wpList_storev _ rfl 62 _ _ rfl rfl rfl s2 ?_))
          go_roundw
          case rel => exact ⟨k + 1, L, A1, n1, c1', by omega, by go_num, rfl, H4.out, R4.out, hn1, HC1.out, by omega⟩
          case measure => simp [intOf]; omega
      · obtain rfl : k = n := by omega
        have hl1 := hl.len
        have hn80 : n1 ≤ 80 := by omega
        have hND := hideIt hb.1.nodup
        have hOK := hideIt hb.1.2.2.2
        go_wp2_with fail
        go_loopw [72] (fun i wq => ∃ (j : Nat), j ≤ k ∧ i = .int .i64 j ∧ BookB w wq b m win L ∧ RecsP wq A1 n1 L) (fun i _ => k - (intOf i).toNat)
        case atStart => exact ⟨0, Nat.zero_le _, rfl, hb, hl⟩
        case round =>
          clear hb hl
          obtain ⟨j, hj, rfl, hb, hl⟩ := hrel
          by_cases hlt : j < k
          · obtain ⟨p, off, rfl, hbl, _⟩ := HV.out.at_ (by omega)
            have hrec := HV.out.chg hb.chg (fun _ _ _ _ h => h)
            have hload := hrec.load (P := Try.prog) (i := j) hlt 62 infoAR aggAR (fun _ => rfl)
            have hoka := HOK.out _ (getD_mem' (d := d0AR) (by rw [HLEN.out]; exact hlt))
            obtain ⟨⟨x, y, z, u⟩, hT⟩ : ∃ t, acs.getD j d0AR = t := ⟨_, rfl⟩
            rw [hT] at hload hoka
            obtain ⟨ok1, ok2, ok3, ok4⟩ := hoka
            simp only at ok1 ok2 ok3 ok4
            have hl2 : (encAR (x, y, z, u)).toArray = #[.int .i64 x, .int .i64 y, .int .i64 z, .int .i64 u] := rfl
            rw [hl2] at hload
            clear hT hrec hl2
            have hm1 := hb.1.2.1.lt
            obtain ⟨w4, s2, t2, k2, z2⟩ := keep_rec (P := Try.prog) wr infoAR (cs := #[.int .i64 0, .int .i64 0, .int .i64 0, .int .i64 0]) (cs' := #[.int .i64 x, .int .i64 y, .int .i64 z, .int .i64 u]) rfl rfl (by intro v hv; simp at hv; rcases hv with rfl | rfl | rfl | rfl <;> rfl)
            have e0 : w4.cell? ⟨wr.heap.size, 0, none⟩ = some (.int .i64 x) := t2.cell 0
            have e1 : w4.cell? ⟨wr.heap.size, 1, none⟩ = some (.int .i64 y) := t2.cell 1
            have e2 : w4.cell? ⟨wr.heap.size, 2, none⟩ = some (.int .i64 z) := t2.cell 2
            have e3 : w4.cell? ⟨wr.heap.size, 3, none⟩ = some (.int .i64 u) := t2.cell 3
            have T2 := hideIt t2
            have H4 := hideIt (hb.new (k2.trans (Chg.refl _ _).drew))
            have R4 := hideIt (hl.new (k2.trans (Chg.refl _ _).drew))
            have V4 := hideIt (HVS.out.new (hb.chg.trans (k2.trans (Chg.refl _ _).drew)))
            obtain ⟨r, hr⟩ : ∃ r, majB vs (sortI (byL win L y now)) = r := ⟨_, rfl⟩
            have HR := hideIt hr
            clear t2 z2 k2 hb hl hr
            have hL80 : L.length ≤ 80 := by omega
            go_upto_region 16 with (first
              | (refine wpList_loadv _ rfl 62 _ rfl rfl hload ?_)
              | (refine wpList_allocv _ rfl 62 rfl (zeroAR _) ?_)
              | (refine wpList_storev _ rfl 62 _ _ rfl rfl rfl s2 ?_))
            go_region_held3 (fun w' => w'.cell? ⟨wr.heap.size, 1, none⟩ = some (.int .i64 y))
              (first
                | exact g3
                | exact g2
                | exact g1
                | exact e1)
              (first
                | (go_at_call 60; refine (H4.out.failing (cv := cv) y now (by omega) (by omega) V4.out (by omega) r HR.out).mono ?_; rintro e w8 ⟨rfl, k8⟩; have g1 := (T2.out.drew.chg k8 (fun h => h)).cell 1)
                | (go_at_call 61; refine (by08_calls (R4.out.new k8) (by omega) hND.out hOK.out (by omega) (by omega)).mono ?_; rintro e w9 ⟨A9, n9, c9, rfl, i9, k9⟩; have g2 := (T2.out.drew.chg (k8.trans k9) (fun h => h)).cell 1; have hn9 : n9 ≤ 80 := by rw [← i9.len, sortI_len]; exact Nat.le_trans (byL_len_le _ _ _ _) (by omega))
                | (go_at_call 37; refine (maj_as V A9 nv n9 cv c9 vs _ w9 (V4.out.new (k8.trans k9)) i9 (by omega) (by omega) r HR.out).mono ?_; rintro e w10 ⟨rfl, k10⟩; have g3 := (T2.out.drew.chg ((k8.trans k9).trans k10) (fun h => h)).cell 1))
            go_wp2
            go_roundw
            case rel => exact ⟨j + 1, by omega, by go_num, H4.out.new ((k8.trans k9).trans k10), R4.out.new ((k8.trans k9).trans k10)⟩
            case measure => simp [intOf]; omega
          · obtain rfl : j = k := by omega
            go_wp2
            go_ret
            exact ⟨rfl, hb.chg.none_below⟩
  · have HN := hideIt (fun W => rnew_no win W h0)
    by_cases p0 : win < 1
    · clear h0
      go_enter Try.func15, Try.ntmps15
      go_wp2_with (first
        | (go_at_call 56; refine HA.out.mono ?_; rintro e w1 ⟨rfl, c1⟩)
        | (go_at_call 57; refine (HN.out _).mono ?_; rintro e w2 ⟨rfl, rfl⟩))
      go_ret
      exact ⟨rfl, c1.none_below⟩
    · have p1 : 1073741824 < win := by omega
      clear h0
      go_enter Try.func15, Try.ntmps15
      go_wp2_with (first
        | (go_at_call 56; refine HA.out.mono ?_; rintro e w1 ⟨rfl, c1⟩)
        | (go_at_call 57; refine (HN.out _).mono ?_; rintro e w2 ⟨rfl, rfl⟩))
      go_ret
      exact ⟨rfl, c1.none_below⟩
end Go.Proofs.Ytgmekeeemimnpaa
