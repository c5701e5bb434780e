/- ReportForgets, walked. (Printed by wip/gen/rforgets.py.) -/
import Derived.Test.YtgmekeeemimnpaaRpE
import Derived.Deep.RegionHeld3
namespace Go.Proofs.Ytgmekeeemimnpaa
open Go Go.Maps Go.MapKept Go.RowKit

/-- Stays behind a Forget, by its key. -/
def staysK (id : Int) (x : Pr) : Bool := !(decide (x.1 = id) || decide (x.2 = id))
/-- The other book's list. -/
def restL (id : Int) (L : List (Pr × Int)) : List (Pr × Int) := L.filter (fun p => !forgB id p)
theorem restL_key (id : Int) (L : List (Pr × Int)) : restL id L = L.filter (fun p => staysK id p.1) := rfl
theorem restL_skip (id : Int) (L : List (Pr × Int)) (y z u : Int) (h : y = id ∨ z = id) : restL id L = restL id (noteP L y z u) := by
  unfold noteP
  split
  · rw [restL_key, restL_key, filter_aput (staysK id), if_neg]
    unfold staysK
    rcases h with h | h <;> simp [h]
  · rfl
theorem restL_both (id : Int) (L : List (Pr × Int)) (y z u : Int) (h1 : ¬ y = id) (h2 : ¬ z = id) : noteP (restL id L) y z u = restL id (noteP L y z u) := by
  have hk : staysK id (y, z) = true := by unfold staysK; simp [h1, h2]
  unfold noteP
  split
  · rw [restL_key, restL_key, filter_aput (staysK id), if_pos hk, aget_filter (staysK id) _ _ hk]
  · rfl
theorem restL_le (id : Int) (L : List (Pr × Int)) : (restL id L).length ≤ L.length := List.length_filter_le _ _
theorem restL_none (id win now : Int) (L : List (Pr × Int)) : sortI (byL win (restL id L) id now) = [] := by
  have h : byL win (restL id L) id now = [] := by
    unfold byL restL
    rw [List.filter_filter, List.map_eq_nil_iff, List.filter_eq_nil_iff]
    intro p _
    unfold tellsB forgB
    simp
    intro h _ h2
    exact absurd h h2
  exact sortI_to h List.Pairwise.nil
theorem noteP_le (L : List (Pr × Int)) (a y t : Int) : (noteP L a y t).length ≤ L.length + 1 := by
  unfold noteP
  split
  · exact length_aput_le _ _ _
  · omega
theorem byL_le (win : Int) (L : List (Pr × Int)) (about now : Int) : (sortI (byL win L about now)).length ≤ L.length := by
  rw [sortI_len]
  unfold byL
  rw [List.length_map]
  exact List.length_filter_le _ _

set_option maxRecDepth 100000 in
set_option maxHeartbeats 16000000 in
theorem rforgets_calls {A : Option Addr} {n c : Nat} {acs : List ActR} {id : Int} (w : World) (hv : Recs encAR 4 d0AR w A n acs ∧ (∀ x ∈ acs, okAR x) ∧ n ≤ c ∧ c ≤ maxLen) (_oa : okI id) :
    Calls Try.prog 18 #[.slice A n c, .int .i64 id] w fun e w' => e = .returned (.bool true) ∧ Below w.heap.size w w' := by
  have HA := hideIt (anchor08 w)
  obtain ⟨hv, hok, hnc, hcm⟩ := hv
  unfold maxLen at hcm
  have HOK := hideIt hok
  have HV := hideIt hv
  have HLEN := hideIt hv.len
  clear hok hv
  have HN := hideIt (fun W (hc : Chg (fun _ => False) w W) => bookNew 1073741824 w W hc (by omega) (by omega))
  have HN2 := hideIt (fun W b m L (hb : BookB w W b m 1073741824 L) => bookNew2 1073741824 w W hb (by omega) (by omega))
  by_cases q0 : 80 < n
  · go_enter Try.func18, Try.ntmps18
    go_wp2_with fail
    refine HA.out.mono ?_
    rintro e w1 ⟨rfl, c1⟩
    go_wp2_with fail
    refine (HN.out w1 c1).mono ?_
    rintro e w2 ⟨b1, m1, rfl, b2', -, -, -⟩
    go_wp2_with fail
    refine (HN2.out w2 b1 m1 _ b2').mono ?_
    rintro e w3 ⟨b2, m2, rfl, T3⟩
    clear b2'
    go_wp2
    go_ret
    exact ⟨rfl, T3.chg.none_below⟩
  go_enter Try.func18, Try.ntmps18
  go_wp2_with fail
  refine HA.out.mono ?_
  rintro e w1 ⟨rfl, c1⟩
  go_wp2_with fail
  refine (HN.out w1 c1).mono ?_
  rintro e w2 ⟨b1, m1, rfl, b2', -, -, -⟩
  go_wp2_with fail
  refine (HN2.out w2 b1 m1 _ b2').mono ?_
  rintro e w3 ⟨b2, m2, rfl, T3⟩
  clear b2'
  go_wp2_with fail
  go_loopw [43] (fun i wr => ∃ (k : Nat) (L : List (Pr × Int)), k ≤ n ∧ i = .int .i64 k ∧ Two w wr b1 m1 b2 m2 1073741824 L (restL id L) ∧ L.length ≤ k) (fun i _ => n - (intOf i).toNat)
  case atStart => exact ⟨0, [], Nat.zero_le _, rfl, T3, Nat.le_refl _⟩
  case round =>
    clear T3
    obtain ⟨k, L, hk, rfl, hb, hLk⟩ := hrel
    by_cases hlt : k < n
    · obtain ⟨p, off, rfl, hbl, _⟩ := HV.out.at_ (by omega)
      have hrec := HV.out.chg hb.chg (fun _ _ _ _ h => h)
      have hload := hrec.load (P := Try.prog) hlt 62 infoAR aggAR (fun _ => rfl)
      have hoka := HOK.out _ (getD_mem' (d := d0AR) (by rw [HLEN.out]; exact hlt))
      obtain ⟨⟨x, y, z, u⟩, hT⟩ : ∃ t, acs.getD k d0AR = t := ⟨_, rfl⟩
      rw [hT] at hload hoka
      obtain ⟨ok1, ok2, ok3, ok4⟩ := hoka
      simp only at ok1 ok2 ok3 ok4
      have hl2 : (encAR (x, y, z, u)).toArray = #[.int .i64 x, .int .i64 y, .int .i64 z, .int .i64 u] := rfl
      rw [hl2] at hload
      clear hT hrec hl2
      have hm1 := hb.1.1.2.1.lt
      have hm2 := hb.2.1.1.2.1.lt
      obtain ⟨w4, s2, t2, k2, z2⟩ := keep_rec (P := Try.prog) wr infoAR (cs := #[.int .i64 0, .int .i64 0, .int .i64 0, .int .i64 0]) (cs' := #[.int .i64 x, .int .i64 y, .int .i64 z, .int .i64 u]) rfl rfl (by intro v hv; simp at hv; rcases hv with rfl | rfl | rfl | rfl <;> rfl)
      have e0 : w4.cell? ⟨wr.heap.size, 0, none⟩ = some (.int .i64 x) := t2.cell 0
      have e1 : w4.cell? ⟨wr.heap.size, 1, none⟩ = some (.int .i64 y) := t2.cell 1
      have e2 : w4.cell? ⟨wr.heap.size, 2, none⟩ = some (.int .i64 z) := t2.cell 2
      have e3 : w4.cell? ⟨wr.heap.size, 3, none⟩ = some (.int .i64 u) := t2.cell 3
      have H4 := hideIt (hb.new k2)
      have T2 := hideIt t2
      have HLN : Hid ((noteP L y z u).length ≤ k + 1) := hideIt (by have := noteP_le L y z u; omega)
      clear t2 z2 k2 hb
      by_cases hx : x = 1
      · have dx : (x != 1) = false := by simpa using hx
        by_cases hy : y = id
        · have HE := hideIt (restL_skip id L y z u (.inl hy))
          have dy : (y != id) = false := by simpa using hy
          clear hx hy
          have tok1 : True := trivial
          go_wp2_with (first
            | (refine wpList_loadv _ rfl 62 _ rfl rfl hload ?_)
            | (refine wpList_allocv _ rfl 62 rfl (zeroAR _) ?_)
            | (refine wpList_storev _ rfl 62 _ _ rfl rfl rfl s2 ?_)
            | (have _t := tok1; go_at_call 58; refine (H4.out.note1 y z u ok2 ok3 ok4 _ rfl).mono ?_; rintro e w5 ⟨rfl, b5, k5⟩; clear tok1 _t; have T5 := hideIt (T2.out.chg k5 (by omega)); have f0 : w5.cell? ⟨wr.heap.size, 0, none⟩ = some (.int .i64 x) := T5.out.cell 0; have f1 : w5.cell? ⟨wr.heap.size, 1, none⟩ = some (.int .i64 y) := T5.out.cell 1; have f2 : w5.cell? ⟨wr.heap.size, 2, none⟩ = some (.int .i64 z) := T5.out.cell 2; have f3 : w5.cell? ⟨wr.heap.size, 3, none⟩ = some (.int .i64 u) := T5.out.cell 3; clear k5 e0 e1 e2 e3))
          go_roundw
          case rel => exact ⟨k + 1, _, by omega, by go_num, by rw [← HE.out]; exact b5, HLN.out⟩
          case measure => simp [intOf]; omega
        · have dy : (y != id) = true := by simpa using hy
          by_cases hz : z = id
          · have HE := hideIt (restL_skip id L y z u (.inr hz))
            have dz : (z != id) = false := by simpa using hz
            clear hx hy hz
            have tok1 : True := trivial
            go_wp2_with (first
              | (refine wpList_loadv _ rfl 62 _ rfl rfl hload ?_)
              | (refine wpList_allocv _ rfl 62 rfl (zeroAR _) ?_)
              | (refine wpList_storev _ rfl 62 _ _ rfl rfl rfl s2 ?_)
              | (have _t := tok1; go_at_call 58; refine (H4.out.note1 y z u ok2 ok3 ok4 _ rfl).mono ?_; rintro e w5 ⟨rfl, b5, k5⟩; clear tok1 _t; have T5 := hideIt (T2.out.chg k5 (by omega)); have f0 : w5.cell? ⟨wr.heap.size, 0, none⟩ = some (.int .i64 x) := T5.out.cell 0; have f1 : w5.cell? ⟨wr.heap.size, 1, none⟩ = some (.int .i64 y) := T5.out.cell 1; have f2 : w5.cell? ⟨wr.heap.size, 2, none⟩ = some (.int .i64 z) := T5.out.cell 2; have f3 : w5.cell? ⟨wr.heap.size, 3, none⟩ = some (.int .i64 u) := T5.out.cell 3; clear k5 e0 e1 e2 e3))
            go_roundw
            case rel => exact ⟨k + 1, _, by omega, by go_num, by rw [← HE.out]; exact b5, HLN.out⟩
            case measure => simp [intOf]; omega
          · have HE := hideIt (restL_both id L y z u hy hz)
            have dz : (z != id) = true := by simpa using hz
            clear hx hy hz
            have tok1 : True := trivial
            go_wp2_with (first
              | (refine wpList_loadv _ rfl 62 _ rfl rfl hload ?_)
              | (refine wpList_allocv _ rfl 62 rfl (zeroAR _) ?_)
              | (refine wpList_storev _ rfl 62 _ _ rfl rfl rfl s2 ?_)
              | (have _t := tok1; go_at_call 58; refine (H4.out.note1 y z u ok2 ok3 ok4 _ rfl).mono ?_; rintro e w5 ⟨rfl, b5, k5⟩; clear tok1 _t; have T5 := hideIt (T2.out.chg k5 (by omega)); have f0 : w5.cell? ⟨wr.heap.size, 0, none⟩ = some (.int .i64 x) := T5.out.cell 0; have f1 : w5.cell? ⟨wr.heap.size, 1, none⟩ = some (.int .i64 y) := T5.out.cell 1; have f2 : w5.cell? ⟨wr.heap.size, 2, none⟩ = some (.int .i64 z) := T5.out.cell 2; have f3 : w5.cell? ⟨wr.heap.size, 3, none⟩ = some (.int .i64 u) := T5.out.cell 3; clear k5 e0 e1 e2 e3)
              | (go_at_call 58; refine (b5.note2 y z u ok2 ok3 ok4 _ rfl).mono ?_; rintro e w6 ⟨rfl, b6, -⟩))
            go_roundw
            case rel => exact ⟨k + 1, _, by omega, by go_num, by rw [← HE.out]; exact b6, HLN.out⟩
            case measure => simp [intOf]; omega
      · have dx : (x != 1) = true := by simpa using hx
        clear hx HLN
        go_wp2_with (first
          | (refine wpList_loadv _ rfl 62 _ rfl rfl hload ?_)
          | (refine wpList_allocv _ rfl 62 rfl (zeroAR _) ?_)
          | (refine wpList_storev _ rfl 62 _ _ rfl rfl rfl s2 ?_))
        go_roundw
        case rel => exact ⟨k + 1, _, by omega, by go_num, H4.out, by omega⟩
        case measure => simp [intOf]; omega
    · obtain rfl : k = n := by omega
      obtain ⟨N1, hN1⟩ : ∃ N, L.length = N := ⟨_, rfl⟩
      obtain ⟨M, hM⟩ : ∃ M, restL id L = M := ⟨_, rfl⟩
      obtain ⟨N2, hN2⟩ : ∃ N, M.length = N := ⟨_, rfl⟩
      have hle := restL_le id L
      have hno := restL_none id 1073741824 0 L
      rw [hM] at hb hle hno
      have hN3 : (N1 - N2) + M.length = L.length := by omega
      have hL80 : L.length ≤ 80 := by omega
      have hM80 : M.length ≤ 80 := by omega
      have HM : Hid (L.filter (fun p => !forgB id p) = M) := hideIt hM
      have HN1 := hideIt hN1
      have HN2' := hideIt hN2
      have HN3 := hideIt hN3
      have hle2 : N2 ≤ N1 := by omega
      have hN80 : N1 ≤ 80 := by omega
      obtain ⟨r, hr⟩ : ∃ r, N1 - N2 = r := ⟨_, rfl⟩
      rw [hr] at HN3
      have dr : ((r : Int) != (N1 : Int) - (N2 : Int)) = false := by simp; omega
      have hN280 : N2 ≤ 80 := by omega
      have HNO := hideIt hno
      clear hM hN1 hN2 hN3 hle hr hno hLk hle2
      go_wp2_with fail
      refine (hb.1.len _ HN1.out).mono ?_
      rintro e w4 ⟨rfl, rfl⟩
      go_wp2_with fail
      refine (hb.forget1 id (by omega) M HM.out r HN3.out).mono ?_
      rintro e w5 ⟨rfl, b5, -⟩
      clear hb
      go_wp2_with fail
      refine (b5.2.1.len _ HN2'.out).mono ?_
      rintro e w6 ⟨rfl, rfl⟩
      go_wp2_with fail
      refine (b5.1.len _ HN2'.out).mono ?_
      rintro e w6 ⟨rfl, rfl⟩
      go_wp2_with fail
      refine (b5.2.1.len _ HN2'.out).mono ?_
      rintro e w6 ⟨rfl, rfl⟩
      go_wp2_with fail
      refine (b5.by1 id 0 (by omega) (by omega) [] HNO.out 0 rfl).mono ?_
      rintro e w7 ⟨A7, c7, rfl, -, b7, -⟩
      clear b5
      go_wp2_with fail
      go_loopw [103] (fun i wr => ∃ (j : Nat), j ≤ k ∧ i = .int .i64 j ∧ Two w wr b1 m1 b2 m2 1073741824 M M) (fun i _ => k - (intOf i).toNat)
      case atStart => exact ⟨0, Nat.zero_le _, rfl, b7⟩
      case round =>
        clear b7
        obtain ⟨j, hj, rfl, hb⟩ := hrel
        by_cases hlt : j < k
        · obtain ⟨p, off, rfl, hbl, _⟩ := HV.out.at_ (by omega)
          have hrec := HV.out.chg hb.chg (fun _ _ _ _ h => h)
          have hload := hrec.load (P := Try.prog) (i := j) hlt 62 infoAR aggAR (fun _ => rfl)
          have hoka := HOK.out _ (getD_mem' (d := d0AR) (by rw [HLEN.out]; exact hlt))
          obtain ⟨⟨x, y, z, u⟩, hT⟩ : ∃ t, acs.getD j d0AR = t := ⟨_, rfl⟩
          rw [hT] at hload hoka
          obtain ⟨ok1, ok2, ok3, ok4⟩ := hoka
          simp only at ok1 ok2 ok3 ok4
          have hl2 : (encAR (x, y, z, u)).toArray = #[.int .i64 x, .int .i64 y, .int .i64 z, .int .i64 u] := rfl
          rw [hl2] at hload
          clear hT hrec hl2
          have hm1 := hb.1.1.2.1.lt
          have hm2 := hb.2.1.1.2.1.lt
          obtain ⟨w4, s2, t2, k2, z2⟩ := keep_rec (P := Try.prog) wr infoAR (cs := #[.int .i64 0, .int .i64 0, .int .i64 0, .int .i64 0]) (cs' := #[.int .i64 x, .int .i64 y, .int .i64 z, .int .i64 u]) rfl rfl (by intro v hv; simp at hv; rcases hv with rfl | rfl | rfl | rfl <;> rfl)
          have e0 : w4.cell? ⟨wr.heap.size, 0, none⟩ = some (.int .i64 x) := t2.cell 0
          have e1 : w4.cell? ⟨wr.heap.size, 1, none⟩ = some (.int .i64 y) := t2.cell 1
          have e2 : w4.cell? ⟨wr.heap.size, 2, none⟩ = some (.int .i64 z) := t2.cell 2
          have e3 : w4.cell? ⟨wr.heap.size, 3, none⟩ = some (.int .i64 u) := t2.cell 3
          have H4 := hideIt (hb.new k2)
          have T2 := hideIt t2
          obtain ⟨xs, hxs⟩ : ∃ xs, sortI (byL 1073741824 M y 0) = xs := ⟨_, rfl⟩
          obtain ⟨nx, hnx⟩ : ∃ nx, xs.length = nx := ⟨_, rfl⟩
          have hx80 : nx ≤ 80 := by have := byL_le 1073741824 M y 0; rw [hxs] at this; omega
          have HX := hideIt hxs
          have HNX := hideIt hnx
          clear t2 z2 k2 hb hxs hnx
          go_upto_region 21 with (first
            | (refine wpList_loadv _ rfl 62 _ rfl rfl hload ?_)
            | (refine wpList_allocv _ rfl 62 rfl (zeroAR _) ?_)
            | (refine wpList_storev _ rfl 62 _ _ rfl rfl rfl s2 ?_))
          have tok1 : True := trivial
          go_region_held3 (fun w' => w'.cell? ⟨wr.heap.size, 1, none⟩ = some (.int .i64 y))
            (first
              | exact T9.cell 1
              | exact T8.cell 1
              | exact e1)
            (first
              | (have _t := tok1; go_at_call 63; refine ((H4.out.new (Chg.refl _ _).drew).by1 y 0 (by omega) (by omega) xs HX.out nx HNX.out).mono ?_; rintro e w8 ⟨A8, c8, rfl, i8, t8, k8⟩; have T8 := (T2.out.drew).chg k8 (fun h => h); clear tok1 _t)
              | (go_at_call 63; refine (t8.by2 y 0 (by omega) (by omega) xs HX.out nx HNX.out).mono ?_; rintro e w9 ⟨A9, c9, rfl, i9, t9, k9⟩; have T9 := T8.chg k9 (fun h => h); have j8 := i8.new k9; clear T8)
              | (go_at_call 65; refine (same8_eq _ j8 i9 (by omega)).mono ?_; rintro e w10 ⟨rfl, rfl⟩))
          go_wp2
          go_roundw
          case rel => exact ⟨j + 1, by omega, by go_num, t9⟩
          case measure => simp [intOf]; omega
        · obtain rfl : j = k := by omega
          go_wp2
          go_ret
          exact ⟨rfl, hb.chg.none_below⟩
end Go.Proofs.Ytgmekeeemimnpaa
