/- ReportApart, walked. (Printed by wip/gen/rapart.py.) -/
import Derived.Test.YtgmekeeemimnpaaRp7
namespace Go.Proofs.Ytgmekeeemimnpaa
open Go Go.Maps Go.MapKept Go.RowKit

theorem perm_adel {L : List (Pr × Int)} (hn : keysNodup L) {x : Pr} {v : Int} (h : aget L x = some v) : L.Perm ((x, v) :: adel L x) := by
  refine (List.perm_ext_iff_of_nodup (nodup_of_keys hn) (List.nodup_cons.2 ⟨fun hm => (mem_adel.1 hm).2 rfl, nodup_of_keys (nodup_adel hn x)⟩)).2 fun p => ?_
  rw [List.mem_cons, mem_adel]
  constructor
  · intro hp
    by_cases e : p.1 = x
    · left
      obtain ⟨p1, p2⟩ := p
      simp only at e
      subst e
      have := aget_of_mem hn hp
      rw [h] at this
      cases this
      rfl
    · exact .inr ⟨hp, e⟩
  · rintro (rfl | ⟨hp, _⟩)
    · exact aget_some_mem h
    · exact hp
theorem by_without {win : Int} {L : List (Pr × Int)} {about y now : Int} : ∀ x ∈ byL win (adel L (about, y)) about now, x ≠ y := by
  intro x hx
  obtain ⟨p, hp, rfl⟩ := List.mem_map.1 hx
  obtain ⟨h1, h2⟩ := List.mem_filter.1 hp
  have h3 := (mem_adel.1 h1).2
  unfold tellsB at h2
  simp only [Bool.and_eq_true, decide_eq_true_eq] at h2
  intro e
  exact h3 (Prod.ext h2.1 e)
theorem by_lens {win : Int} {L : List (Pr × Int)} {about y now : Int} (hn : keysNodup L) {v : Int} (h : aget L (about, y) = some v) :
    L.length = (adel L (about, y)).length + 1 ∧ ((byL win (adel L (about, y)) about now).length = (byL win L about now).length ∨ (byL win (adel L (about, y)) about now).length + 1 = (byL win L about now).length) := by
  have hp := perm_adel hn h
  refine ⟨by have := hp.length_eq; simpa using this, ?_⟩
  unfold byL
  rw [List.length_map, List.length_map, (hp.filter _).length_eq, List.filter_cons]
  split
  · right; simp
  · left; rfl
theorem byL_len (win : Int) (L : List (Pr × Int)) (about now : Int) : (sortI (byL win L about now)).length ≤ L.length := by
  rw [sortI_len]
  unfold byL
  rw [List.length_map]
  exact List.length_filter_le _ _
theorem noteP_len (L : List (Pr × Int)) (a y t : Int) : (noteP L a y t).length ≤ L.length + 1 := by
  unfold noteP
  split
  · exact length_aput_le _ _ _
  · omega

set_option maxRecDepth 100000 in
set_option maxHeartbeats 16000000 in
theorem rapart_calls {A : Option Addr} {n c : Nat} {acs : List ActR} {about by_ now : Int} (w : World) (hv : Recs encAR 4 d0AR w A n acs ∧ (∀ x ∈ acs, okAR x) ∧ n ≤ c ∧ c ≤ maxLen) (oa : okI about) (ob : okI by_) (_on : okI now) :
    Calls Try.prog 16 #[.slice A n c, .int .i64 about, .int .i64 by_, .int .i64 now] w fun e w' => e = .returned (.bool true) ∧ Below w.heap.size w w' := by
  have HA := hideIt (anchor08 w)
  obtain ⟨hv, hok, hnc, hcm⟩ := hv
  unfold maxLen at hcm
  have HOK := hideIt hok
  have HV := hideIt hv
  have HLEN := hideIt hv.len
  clear hok hv
  have HN := hideIt (fun W (hc : Chg (fun _ => False) w W) => bookNew 1073741824 w W hc (by omega) (by omega))
  by_cases q0 : 80 < n
  · go_enter Try.func16, Try.ntmps16
    go_wp2_with (first
      | (go_at_call 56; refine HA.out.mono ?_; rintro e w1 ⟨rfl, c1⟩)
      | (go_at_call 57; refine (HN.out w1 c1).mono ?_; rintro e w2 ⟨b, m, rfl, b2, -, -, -⟩))
    go_ret
    exact ⟨rfl, b2.chg.none_below⟩
  by_cases q1 : now < 0
  · go_enter Try.func16, Try.ntmps16
    go_wp2_with (first
      | (go_at_call 56; refine HA.out.mono ?_; rintro e w1 ⟨rfl, c1⟩)
      | (go_at_call 57; refine (HN.out w1 c1).mono ?_; rintro e w2 ⟨b, m, rfl, b2, -, -, -⟩))
    go_ret
    exact ⟨rfl, b2.chg.none_below⟩
  by_cases q2 : 1073741824 < now
  · go_enter Try.func16, Try.ntmps16
    go_wp2_with (first
      | (go_at_call 56; refine HA.out.mono ?_; rintro e w1 ⟨rfl, c1⟩)
      | (go_at_call 57; refine (HN.out w1 c1).mono ?_; rintro e w2 ⟨b, m, rfl, b2, -, -, -⟩))
    go_ret
    exact ⟨rfl, b2.chg.none_below⟩
  go_enter Try.func16, Try.ntmps16
  go_wp2_with fail
  refine HA.out.mono ?_
  rintro e w1 ⟨rfl, c1⟩
  go_wp2_with fail
  refine (HN.out w1 c1).mono ?_
  rintro e w2 ⟨b, m, rfl, b2, -, -, -⟩
  go_wp2_with fail
  go_loopw [44] (fun i wr => ∃ (k : Nat) (L : List (Pr × Int)), k ≤ n ∧ i = .int .i64 k ∧ BookB w wr b m 1073741824 L ∧ L.length ≤ k) (fun i _ => n - (intOf i).toNat)
  case atStart => exact ⟨0, [], Nat.zero_le _, rfl, b2, Nat.le_refl _⟩
  case round =>
    obtain ⟨k, L, hk, rfl, hb, hLk⟩ := hrel
    by_cases hlt : k < n
    · obtain ⟨p, off, rfl, hbl, _⟩ := HV.out.at_ (by omega)
      have hrec := HV.out.chg hb.chg (fun _ _ _ _ h => h)
      have hload := hrec.load (P := Try.prog) hlt 62 infoAR aggAR (fun _ => rfl)
      have hoka := HOK.out _ (getD_mem' (d := d0AR) (by rw [HLEN.out]; exact hlt))
      obtain ⟨⟨x, y, z, u⟩, hT⟩ : ∃ t, acs.getD k d0AR = t := ⟨_, rfl⟩
      rw [hT] at hload hoka
      obtain ⟨ok1, ok2, ok3, ok4⟩ := hoka
      simp only at ok1 ok2 ok3 ok4
      have hl2 : (encAR (x, y, z, u)).toArray = #[.int .i64 x, .int .i64 y, .int .i64 z, .int .i64 u] := rfl
      rw [hl2] at hload
      clear hT hrec hl2
      obtain ⟨w3, s2, t2, k2, z2⟩ := keep_rec (P := Try.prog) wr infoAR (cs := #[.int .i64 0, .int .i64 0, .int .i64 0, .int .i64 0]) (cs' := #[.int .i64 x, .int .i64 y, .int .i64 z, .int .i64 u]) rfl rfl (by intro v hv; simp at hv; rcases hv with rfl | rfl | rfl | rfl <;> rfl)
      have e1 : w3.cell? ⟨wr.heap.size, 1, none⟩ = some (.int .i64 y) := t2.cell 1
      have e2 : w3.cell? ⟨wr.heap.size, 2, none⟩ = some (.int .i64 z) := t2.cell 2
      have e3 : w3.cell? ⟨wr.heap.size, 3, none⟩ = some (.int .i64 u) := t2.cell 3
      have HB3 := hideIt ((hb.new k2).note y z u ok2 ok3 ok4 _ _ rfl rfl)
      have HLN : Hid ((noteP L y z u).length ≤ k + 1) := hideIt (by have := noteP_len L y z u; omega)
      clear t2 z2 k2 hb
      go_wp2_with (first
        | (refine wpList_loadv _ rfl 62 _ rfl rfl hload ?_)
        | (refine wpList_allocv _ rfl 62 rfl (zeroAR _) ?_)
        | (refine wpList_storev _ rfl 62 _ _ rfl rfl rfl s2 ?_)
        | (go_at_call 58; refine HB3.out.mono ?_; rintro e w4 ⟨rfl, b4, -⟩))
      go_roundw
      case rel => exact ⟨k + 1, _, by omega, by go_num, b4, HLN.out⟩
      case measure => simp [intOf]; omega
    · obtain rfl : k = n := by omega
      have hnd := hb.1.nodup
      obtain ⟨xs1, x1⟩ : ∃ xs, sortI (byL 1073741824 L about now) = xs := ⟨_, rfl⟩
      obtain ⟨n1, h1⟩ : ∃ n1, xs1.length = n1 := ⟨_, rfl⟩
      have N1 := hideIt h1
      have X1 := hideIt x1
      cases hg : aget L (about, by_) with
      | none =>
        have GO : Hid ((aget L (about, by_)).isSome = false) := hideIt (by rw [hg]; rfl)
        have DL : Hid (adel L (about, by_) = L) := hideIt (adel_of_not hg)
        have HNE : Hid (∀ x ∈ xs1, x ≠ by_) := hideIt (by
          intro x hx
          rw [← x1, mem_sortI] at hx
          have := by_without (win := 1073741824) (L := L) (about := about) (y := by_) (now := now)
          rw [adel_of_not hg] at this
          exact this x hx)
        have hb16 : n1 ≤ 1000000 := by
          rw [← h1, ← x1, sortI_len]
          unfold byL
          rw [List.length_map]
          have := List.length_filter_le (tellsB 1073741824 about now) L
          omega
        obtain ⟨NL, hNL⟩ : ∃ NL, L.length = NL := ⟨_, rfl⟩
        have hNL80 : L.length ≤ 80 := by omega
        clear hg h1 x1 hnd hLk
        go_wp2_with fail
        refine (hb.len NL hNL).mono ?_
        rintro e w4 ⟨rfl, rfl⟩
        go_wp2_with fail
        refine (hb.by2 about now (by omega) (by omega) xs1 X1.out n1 N1.out).mono ?_
        rintro e w5 ⟨A1, c1', rfl, -, b5, -, K5⟩
        clear hb
        go_wp2_with fail
        refine (b5.clear about by_ oa ob _ _ GO.out DL.out).mono ?_
        rintro e w6 ⟨rfl, b6, k6⟩
        have I6 := hideIt (K5 _ k6)
        clear b5 k6 K5
        go_wp2_with fail
        refine (b6.by2 about now (by omega) (by omega) xs1 X1.out n1 N1.out).mono ?_
        rintro e w7 ⟨A2, c2', rfl, i7, b7, k7, -⟩
        have I7 := hideIt (I6.out.new k7)
        clear b6 k7
        go_wp2_with (first
          | (go_at_call 62; refine (b7.len NL hNL).mono ?_; rintro e w8 ⟨rfl, rfl⟩)
          | (go_at_call 65; refine (same8_eq _ I7.out i7 (by omega)).mono ?_; rintro e w9 ⟨rfl, rfl⟩))
        go_loopw [97] (fun i wr => ∃ (k : Nat), k ≤ n1 ∧ i = .int .i64 k ∧ w7 = wr) (fun i _ => n1 - (intOf i).toNat)
        case atStart => exact ⟨0, Nat.zero_le _, rfl, rfl⟩
        case round =>
          obtain ⟨k, hk, rfl, rfl⟩ := hrel
          by_cases hlt : k < n1
          · obtain ⟨p, off, rfl, hbl, hcell⟩ := i7.at_ (by omega)
            have hx := hcell k hlt
            have hne : xs1.getD k 0 ≠ by_ := HNE.out _ (getD_mem (by rw [N1.out]; exact hlt))
            obtain ⟨t, hT⟩ : ∃ t, xs1.getD k 0 = t := ⟨_, rfl⟩
            rw [hT] at hx hne
            have hd : (t == by_) = false := by simpa using hne
            clear hT hcell hne
            go_wp2
            go_roundw
            case rel => exact ⟨k + 1, by omega, by go_num, by first | rfl | trivial⟩
            case measure => simp [intOf]; omega
          · obtain rfl : k = n1 := by omega
            go_wp2
            go_ret
            exact ⟨rfl, b7.chg.none_below⟩
      | some v0 =>
        obtain ⟨l1, l2⟩ := by_lens (win := 1073741824) (about := about) (y := by_) (now := now) hnd hg
        have GO : Hid ((aget L (about, by_)).isSome = true) := hideIt (by rw [hg]; rfl)
        obtain ⟨L3, dl⟩ : ∃ L3, adel L (about, by_) = L3 := ⟨_, rfl⟩
        have hne := by_without (win := 1073741824) (L := L) (about := about) (y := by_) (now := now)
        rw [dl] at l1 l2 hne
        obtain ⟨xs2, x2⟩ : ∃ xs, sortI (byL 1073741824 L3 about now) = xs := ⟨_, rfl⟩
        obtain ⟨n2, h2⟩ : ∃ n2, xs2.length = n2 := ⟨_, rfl⟩
        have HNE : Hid (∀ x ∈ xs2, x ≠ by_) := hideIt (by
          intro x hx
          rw [← x2, mem_sortI] at hx
          exact hne x hx)
        have HLL : Hid (n2 = n1 ∨ n2 + 1 = n1) := hideIt (by
          rw [← h2, ← h1, ← x2, ← x1, sortI_len, sortI_len]
          exact l2)
        have N2 := hideIt h2
        have X2 := hideIt x2
        have DL := hideIt dl
        obtain ⟨N3, hN3⟩ : ∃ N3, L3.length = N3 := ⟨_, rfl⟩
        have hNL : L.length = N3 + 1 := by omega
        have hNL80 : L.length ≤ 80 := by omega
        have hN380 : L3.length ≤ 80 := by omega
        have hb1 : n1 ≤ 80 := by
          have := byL_len 1073741824 L about now
          rw [x1, h1] at this
          omega
        have hb2 : n2 ≤ 80 := by
          have := byL_len 1073741824 L3 about now
          rw [x2, h2] at this
          omega
        clear hg h1 x1 h2 x2 hnd hLk l1 l2 hne dl
        go_wp2_with fail
        refine (hb.len (N3 + 1) hNL).mono ?_
        rintro e w4 ⟨rfl, rfl⟩
        go_wp2_with fail
        refine (hb.by2 about now (by omega) (by omega) xs1 X1.out n1 N1.out).mono ?_
        rintro e w5 ⟨A1, c1', rfl, -, b5, -, K5⟩
        clear hb
        go_wp2_with fail
        refine (b5.clear about by_ oa ob _ _ GO.out DL.out).mono ?_
        rintro e w6 ⟨rfl, b6, k6⟩
        have I6 := hideIt (K5 _ k6)
        clear b5 k6 K5
        go_wp2_with fail
        refine (b6.by2 about now (by omega) (by omega) xs2 X2.out n2 N2.out).mono ?_
        rintro e w7 ⟨A2, c2', rfl, i7, b7, k7, -⟩
        have I7 := hideIt (I6.out.new k7)
        clear b6 k7
        go_wp2_with (go_at_call 62; refine (b7.len N3 hN3).mono ?_; rintro e w8 ⟨rfl, rfl⟩)
        go_loopw [97] (fun i wr => ∃ (k : Nat), k ≤ n2 ∧ i = .int .i64 k ∧ w7 = wr) (fun i _ => n2 - (intOf i).toNat)
        case atStart => exact ⟨0, Nat.zero_le _, rfl, rfl⟩
        case round =>
          obtain ⟨k, hk, rfl, rfl⟩ := hrel
          by_cases hlt : k < n2
          · obtain ⟨p, off, rfl, hbl, hcell⟩ := i7.at_ (by omega)
            have hx := hcell k hlt
            have hne : xs2.getD k 0 ≠ by_ := HNE.out _ (getD_mem (by rw [N2.out]; exact hlt))
            obtain ⟨t, hT⟩ : ∃ t, xs2.getD k 0 = t := ⟨_, rfl⟩
            rw [hT] at hx hne
            have hd : (t == by_) = false := by simpa using hne
            clear hT hcell hne
            go_wp2
            go_roundw
            case rel => exact ⟨k + 1, by omega, by go_num, by first | rfl | trivial⟩
            case measure => simp [intOf]; omega
          · obtain rfl : k = n2 := by omega
            rcases HLL.out with h12 | h12
            · have d12 : ((k : Int) == (n1 : Int)) = true := by simp; omega
              clear h12
              go_wp2
              go_ret
              exact ⟨rfl, b7.chg.none_below⟩
            · have d12 : ((k : Int) == (n1 : Int)) = false := by simp; omega
              have d13 : ((k : Int) == (n1 : Int) - 1) = true := by simp; omega
              clear h12
              go_wp2
              go_ret
              exact ⟨rfl, b7.chg.none_below⟩
end Go.Proofs.Ytgmekeeemimnpaa
