/- Layer 8's own 'without', walked. (Printed by wip/gen/rwithout.py.) -/
import Derived.Test.YtgmekeeemimnpaaRpG
namespace Go.Proofs.Ytgmekeeemimnpaa
open Go Go.Maps Go.MapKept Go.RowKit

/-- What 'without' answers: what stays, and how many go. -/
def Without08 (w : World) (L L' : List (Pr × Int)) (e : Ending) (w' : World) : Prop :=
  ∃ A n c, e = .returned (.tuple #[.slice A n c, .int .i64 ((L.length : Int) - (L'.length : Int))]) ∧ RecsP w' A n L' ∧ n ≤ c ∧ c ≤ maxLen ∧ Chg (fun _ => False) w w'
theorem without_end {w w' : World} {L L' : List (Pr × Int)} {base : Nat} {v : Value} {n N : Nat} (hn : L.length = n) (hN : L'.length = N) (ho : OwnR encRp 3 w' base 143 v L') (hc : Chg (fun _ => False) w w') : Without08 w L L' (.returned (.tuple #[v, .int .i64 ((n : Int) - (N : Int))])) w' := by
  subst hn hN
  obtain ⟨A, c, rfl, h1, h2, _⟩ := ho.slice
  exact ⟨A, _, c, rfl, ho.recs encRp_len rfl, h1, h2, hc⟩
theorem fil_snoc (q : Pr × Int → Bool) {L : List (Pr × Int)} {k : Nat} (hk : k < L.length) {p : Pr × Int} (hT : L.getD k d0Rp = p) : (L.take (k + 1)).filter (fun p => !q p) = (L.take k).filter (fun p => !q p) ++ (if q p then [] else [p]) := by
  rw [take_succ_getD' L d0Rp k hk, hT, List.filter_append, List.filter_cons]
  cases q p <;> rfl
/-- The one of a key. -/
def keyB (y z : Int) (p : Pr × Int) : Bool := decide (p.1.1 = y) && decide (p.1.2 = z)
section
variable {w w' : World} {A : Option Addr} {n c : Nat} {L : List (Pr × Int)} {y z u win : Int}
set_option maxRecDepth 100000 in
set_option maxHeartbeats 16000000 in
theorem without_2 (hl : RecsP w A n L) (_hnc : n ≤ c) (hn : n ≤ 1000) (hL : okL L) (hu : -1125899906842624 ≤ u ∧ u ≤ 1125899906842624) (hwin : 1 ≤ win ∧ win ≤ 1073741824) :
    Calls Try.prog 72 #[.slice A n c, .agg #[.int .i64 2, .int .i64 y, .int .i64 z, .int .i64 u], .int .i64 win] w (Without08 w L (L.filter (fun p => !(keyB y z) p))) := by
  have HRC := hideIt hl
  have HLN := hideIt hl.len
  have HOK := hideIt hL
  obtain ⟨u1, u2⟩ := hu
  obtain ⟨win1, win2⟩ := hwin
  obtain ⟨q, hq⟩ : ∃ q, (keyB y z) = q := ⟨_, rfl⟩
  rw [hq]
  have HQ := hideIt hq
  obtain ⟨wa, hwa⟩ : ∃ wa, wa = w.alloc (.cells #[.int .i64 2, .int .i64 y, .int .i64 z, .int .i64 u] 62) := ⟨_, rfl⟩
  have TA : Hid (Blk wa w.heap.size 62 #[.int .i64 2, .int .i64 y, .int .i64 z, .int .i64 u]) := hideIt (by rw [hwa]; exact Blk.new w _ _)
  have CA : Hid (Chg (fun _ => False) w wa) := hideIt (by rw [hwa]; exact (Chg.refl _ w).alloc _)
  have SA : Hid (wa.heap.size = w.heap.size + 1) := hideIt (by rw [hwa]; simp)
  clear hl hL hq
  go_enter Try.func72, Try.ntmps72
  go_wp2
  go_loopw [8, 14] (fun v i wr => ∃ (k : Nat), k ≤ n ∧ i = .int .i64 k ∧ OwnR encRp 3 wr wa.heap.size 143 v ((L.take k).filter (fun p => !q p)) ∧ Chg (fun _ => False) wa wr) (fun _ i _ => n - (intOf i).toNat)
  case atStart => exact ⟨0, by omega, rfl, OwnR.nil _ _ _, by rw [hwa]; exact Chg.refl _ _⟩
  case round =>
    clear hwa
    obtain ⟨k, hk, rfl, ho, hch⟩ := hrel
    obtain ⟨xs, hxs⟩ : ∃ xs, (L.take k).filter (fun p => !q p) = xs := ⟨_, rfl⟩
    rw [hxs] at ho
    have HX := hideIt hxs
    obtain ⟨A0, c0, hv0, hk0, hm0, hb0, _⟩ := ho.slice
    obtain ⟨N, hN⟩ : ∃ N, xs.length = N := ⟨_, rfl⟩
    rw [hN] at hv0
    subst hv0
    have HN := hideIt hN
    have hNb : N ≤ k := by
      rw [← hN, ← hxs]
      refine Nat.le_trans (List.length_filter_le _ _) ?_
      rw [List.length_take]; omega
    clear hk0 hm0 hb0 hN hxs
    by_cases hlt : k < n
    · obtain ⟨p, off, rfl, hbl, _⟩ := HRC.out.at_ (by omega)
      have hload := (HRC.out.new (CA.out.trans hch)).load (P := Try.prog) hlt 143 infoRp aggRp encRp_len
      have hokp := HOK.out _ (getD_mem' (d := d0Rp) (by rw [HLN.out]; exact hlt))
      obtain ⟨⟨⟨a, b⟩, t⟩, hT⟩ : ∃ t, L.getD k d0Rp = t := ⟨_, rfl⟩
      rw [hT] at hload hokp
      obtain ⟨-, ⟨hb1, hb2⟩, ht1, ht2⟩ := hokp
      simp only at hb1 hb2 ht1 ht2
      have hl2 : (encRp ((a, b), t)).toArray = #[.int .i64 a, .int .i64 b, .int .i64 t] := rfl
      rw [hl2] at hload
      obtain ⟨w4, s2, t2, k2, z2⟩ := keep_rec (P := Try.prog) wr infoRp (cs := #[.int .i64 0, .int .i64 0, .int .i64 0]) (cs' := #[.int .i64 a, .int .i64 b, .int .i64 t]) rfl rfl (by intro v hv; simp at hv; rcases hv with rfl | rfl | rfl <;> rfl)
      have f0 : w4.cell? ⟨wr.heap.size, 0, none⟩ = some (.int .i64 a) := t2.cell 0
      have f1 : w4.cell? ⟨wr.heap.size, 1, none⟩ = some (.int .i64 b) := t2.cell 1
      have f2 : w4.cell? ⟨wr.heap.size, 2, none⟩ = some (.int .i64 t) := t2.cell 2
      have hload2 := t2.loadAll (P := Try.prog) infoRp aggRp rfl
      have TA4 := TA.out.chg (hch.trans k2) (fun h => h)
      have h0 := TA4.cell 0
      have h1 := TA4.cell 1
      have h2 := TA4.cell 2
      have h3 := TA4.cell 3
      have O4 := hideIt (ho.new k2)
      have C4 := hideIt (hch.trans k2)
      have HF := hideIt (fil_snoc q (by rw [HLN.out]; exact hlt) hT)
      have N1 : xs.length + 1 ≤ 1000000000 := by rw [HN.out]; omega
      have SB := hideIt (show wa.heap.size ≤ w4.heap.size by have := hch.size; omega)
      clear hl2 hT ho hch t2 k2 z2 TA4
      by_cases ha : a = y
      · have da : (a == y) = true := by simpa using ha
        by_cases hb : b = z
        · have db : (b == z) = true := by simpa using hb
          have HQ2 : Hid (q ((a, b), t) = true) := hideIt (by rw [← HQ.out]; simp [keyB, ha, hb])
          rw [HQ2.out, if_pos rfl] at HF
          clear ha hb
          go_wp2_with (first
            | (refine wpList_loadv _ rfl 143 _ rfl rfl hload ?_)
            | (refine wpList_allocv _ rfl 143 rfl (zeroRp _) ?_)
            | (refine wpList_storev _ rfl 143 _ _ rfl rfl rfl s2 ?_))
          go_roundw
          case rel => exact ⟨k + 1, by omega, by go_num, by rw [HF.out, HX.out, List.append_nil]; exact O4.out, C4.out⟩
          case measure => simp [intOf]; omega
        · have db : (b == z) = false := by simpa using hb
          have HQ2 : Hid (q ((a, b), t) = false) := hideIt (by rw [← HQ.out]; simp [keyB, hb])
          rw [HQ2.out, if_neg (by decide)] at HF
          clear ha hb
          go_wp2_with (first
            | (refine wpList_loadv _ rfl 143 _ rfl rfl hload ?_)
            | (refine wpList_allocv _ rfl 143 rfl (zeroRp _) ?_)
            | (refine wpList_storev _ rfl 143 _ _ rfl rfl rfl s2 ?_)
            | (refine wpList_loadv _ rfl 143 _ rfl rfl hload2 ?_)
            | (at_builtin; refine wpList_append_recs (base := wa.heap.size) _ rfl _ _ 60 rfl recRp encRp_len encRp_one rfl (O4.out.alloc _) rfl (Recs.oneP w4 a b t) N1 (by omega) (by have := SB.out; simp; omega) ?_; intro v5 w5 o5 g5 q5))
          go_roundw
          case rel => exact ⟨k + 1, by omega, by go_num, by rw [HF.out, HX.out]; exact o5, (C4.out.alloc _).grown g5 (fun i e => .inr (O4.out.base_le e))⟩
          case measure => simp [intOf]; omega
      · have da : (a == y) = false := by simpa using ha
        have HQ2 : Hid (q ((a, b), t) = false) := hideIt (by rw [← HQ.out]; simp [keyB, ha])
        rw [HQ2.out, if_neg (by decide)] at HF
        clear ha
        go_wp2_with (first
          | (refine wpList_loadv _ rfl 143 _ rfl rfl hload ?_)
          | (refine wpList_allocv _ rfl 143 rfl (zeroRp _) ?_)
          | (refine wpList_storev _ rfl 143 _ _ rfl rfl rfl s2 ?_)
          | (refine wpList_loadv _ rfl 143 _ rfl rfl hload2 ?_)
          | (at_builtin; refine wpList_append_recs (base := wa.heap.size) _ rfl _ _ 60 rfl recRp encRp_len encRp_one rfl (O4.out.alloc _) rfl (Recs.oneP w4 a b t) N1 (by omega) (by have := SB.out; simp; omega) ?_; intro v5 w5 o5 g5 q5))
        go_roundw
        case rel => exact ⟨k + 1, by omega, by go_num, by rw [HF.out, HX.out]; exact o5, (C4.out.alloc _).grown g5 (fun i e => .inr (O4.out.base_le e))⟩
        case measure => simp [intOf]; omega
    · obtain rfl : k = n := by omega
      have HE : Hid (L.filter (fun p => !q p) = xs) := hideIt (by
        have h1 : L.take k = L := by rw [← HLN.out, List.take_length]
        rw [← HX.out, h1])
      have HC := hideIt hch
      have HO := hideIt ho
      clear hch ho
      go_wp2
      go_ret2
      rw [HE.out]
      exact without_end HLN.out HN.out HO.out (CA.out.trans HC.out)
set_option maxRecDepth 100000 in
set_option maxHeartbeats 16000000 in
theorem without_3 (hl : RecsP w A n L) (_hnc : n ≤ c) (hn : n ≤ 1000) (hL : okL L) (hu : -1125899906842624 ≤ u ∧ u ≤ 1125899906842624) (hwin : 1 ≤ win ∧ win ≤ 1073741824) :
    Calls Try.prog 72 #[.slice A n c, .agg #[.int .i64 3, .int .i64 y, .int .i64 z, .int .i64 u], .int .i64 win] w (Without08 w L (L.filter (fun p => !(forgB y) p))) := by
  have HRC := hideIt hl
  have HLN := hideIt hl.len
  have HOK := hideIt hL
  obtain ⟨u1, u2⟩ := hu
  obtain ⟨win1, win2⟩ := hwin
  obtain ⟨q, hq⟩ : ∃ q, (forgB y) = q := ⟨_, rfl⟩
  rw [hq]
  have HQ := hideIt hq
  obtain ⟨wa, hwa⟩ : ∃ wa, wa = w.alloc (.cells #[.int .i64 3, .int .i64 y, .int .i64 z, .int .i64 u] 62) := ⟨_, rfl⟩
  have TA : Hid (Blk wa w.heap.size 62 #[.int .i64 3, .int .i64 y, .int .i64 z, .int .i64 u]) := hideIt (by rw [hwa]; exact Blk.new w _ _)
  have CA : Hid (Chg (fun _ => False) w wa) := hideIt (by rw [hwa]; exact (Chg.refl _ w).alloc _)
  have SA : Hid (wa.heap.size = w.heap.size + 1) := hideIt (by rw [hwa]; simp)
  clear hl hL hq
  go_enter Try.func72, Try.ntmps72
  go_wp2
  go_loopw [8, 14] (fun v i wr => ∃ (k : Nat), k ≤ n ∧ i = .int .i64 k ∧ OwnR encRp 3 wr wa.heap.size 143 v ((L.take k).filter (fun p => !q p)) ∧ Chg (fun _ => False) wa wr) (fun _ i _ => n - (intOf i).toNat)
  case atStart => exact ⟨0, by omega, rfl, OwnR.nil _ _ _, by rw [hwa]; exact Chg.refl _ _⟩
  case round =>
    clear hwa
    obtain ⟨k, hk, rfl, ho, hch⟩ := hrel
    obtain ⟨xs, hxs⟩ : ∃ xs, (L.take k).filter (fun p => !q p) = xs := ⟨_, rfl⟩
    rw [hxs] at ho
    have HX := hideIt hxs
    obtain ⟨A0, c0, hv0, hk0, hm0, hb0, _⟩ := ho.slice
    obtain ⟨N, hN⟩ : ∃ N, xs.length = N := ⟨_, rfl⟩
    rw [hN] at hv0
    subst hv0
    have HN := hideIt hN
    have hNb : N ≤ k := by
      rw [← hN, ← hxs]
      refine Nat.le_trans (List.length_filter_le _ _) ?_
      rw [List.length_take]; omega
    clear hk0 hm0 hb0 hN hxs
    by_cases hlt : k < n
    · obtain ⟨p, off, rfl, hbl, _⟩ := HRC.out.at_ (by omega)
      have hload := (HRC.out.new (CA.out.trans hch)).load (P := Try.prog) hlt 143 infoRp aggRp encRp_len
      have hokp := HOK.out _ (getD_mem' (d := d0Rp) (by rw [HLN.out]; exact hlt))
      obtain ⟨⟨⟨a, b⟩, t⟩, hT⟩ : ∃ t, L.getD k d0Rp = t := ⟨_, rfl⟩
      rw [hT] at hload hokp
      obtain ⟨-, ⟨hb1, hb2⟩, ht1, ht2⟩ := hokp
      simp only at hb1 hb2 ht1 ht2
      have hl2 : (encRp ((a, b), t)).toArray = #[.int .i64 a, .int .i64 b, .int .i64 t] := rfl
      rw [hl2] at hload
      obtain ⟨w4, s2, t2, k2, z2⟩ := keep_rec (P := Try.prog) wr infoRp (cs := #[.int .i64 0, .int .i64 0, .int .i64 0]) (cs' := #[.int .i64 a, .int .i64 b, .int .i64 t]) rfl rfl (by intro v hv; simp at hv; rcases hv with rfl | rfl | rfl <;> rfl)
      have f0 : w4.cell? ⟨wr.heap.size, 0, none⟩ = some (.int .i64 a) := t2.cell 0
      have f1 : w4.cell? ⟨wr.heap.size, 1, none⟩ = some (.int .i64 b) := t2.cell 1
      have f2 : w4.cell? ⟨wr.heap.size, 2, none⟩ = some (.int .i64 t) := t2.cell 2
      have hload2 := t2.loadAll (P := Try.prog) infoRp aggRp rfl
      have TA4 := TA.out.chg (hch.trans k2) (fun h => h)
      have h0 := TA4.cell 0
      have h1 := TA4.cell 1
      have h2 := TA4.cell 2
      have h3 := TA4.cell 3
      have O4 := hideIt (ho.new k2)
      have C4 := hideIt (hch.trans k2)
      have HF := hideIt (fil_snoc q (by rw [HLN.out]; exact hlt) hT)
      have N1 : xs.length + 1 ≤ 1000000000 := by rw [HN.out]; omega
      have SB := hideIt (show wa.heap.size ≤ w4.heap.size by have := hch.size; omega)
      clear hl2 hT ho hch t2 k2 z2 TA4
      by_cases ha : a = y
      · have da : (a == y) = true := by simpa using ha
        have HQ2 : Hid (q ((a, b), t) = true) := hideIt (by rw [← HQ.out]; simp [forgB, ha])
        rw [HQ2.out, if_pos rfl] at HF
        clear ha
        go_wp2_with (first
          | (refine wpList_loadv _ rfl 143 _ rfl rfl hload ?_)
          | (refine wpList_allocv _ rfl 143 rfl (zeroRp _) ?_)
          | (refine wpList_storev _ rfl 143 _ _ rfl rfl rfl s2 ?_))
        go_roundw
        case rel => exact ⟨k + 1, by omega, by go_num, by rw [HF.out, HX.out, List.append_nil]; exact O4.out, C4.out⟩
        case measure => simp [intOf]; omega
      · have da : (a == y) = false := by simpa using ha
        by_cases hb : b = y
        · have db : (b == y) = true := by simpa using hb
          have HQ2 : Hid (q ((a, b), t) = true) := hideIt (by rw [← HQ.out]; simp [forgB, hb])
          rw [HQ2.out, if_pos rfl] at HF
          clear ha hb
          go_wp2_with (first
            | (refine wpList_loadv _ rfl 143 _ rfl rfl hload ?_)
            | (refine wpList_allocv _ rfl 143 rfl (zeroRp _) ?_)
            | (refine wpList_storev _ rfl 143 _ _ rfl rfl rfl s2 ?_))
          go_roundw
          case rel => exact ⟨k + 1, by omega, by go_num, by rw [HF.out, HX.out, List.append_nil]; exact O4.out, C4.out⟩
          case measure => simp [intOf]; omega
        · have db : (b == y) = false := by simpa using hb
          have HQ2 : Hid (q ((a, b), t) = false) := hideIt (by rw [← HQ.out]; simp [forgB, ha, hb])
          rw [HQ2.out, if_neg (by decide)] at HF
          clear ha hb
          go_wp2_with (first
            | (refine wpList_loadv _ rfl 143 _ rfl rfl hload ?_)
            | (refine wpList_allocv _ rfl 143 rfl (zeroRp _) ?_)
            | (refine wpList_storev _ rfl 143 _ _ rfl rfl rfl s2 ?_)
            | (refine wpList_loadv _ rfl 143 _ rfl rfl hload2 ?_)
            | (at_builtin; refine wpList_append_recs (base := wa.heap.size) _ rfl _ _ 60 rfl recRp encRp_len encRp_one rfl (O4.out.alloc _) rfl (Recs.oneP w4 a b t) N1 (by omega) (by have := SB.out; simp; omega) ?_; intro v5 w5 o5 g5 q5))
          go_roundw
          case rel => exact ⟨k + 1, by omega, by go_num, by rw [HF.out, HX.out]; exact o5, (C4.out.alloc _).grown g5 (fun i e => .inr (O4.out.base_le e))⟩
          case measure => simp [intOf]; omega
    · obtain rfl : k = n := by omega
      have HE : Hid (L.filter (fun p => !q p) = xs) := hideIt (by
        have h1 : L.take k = L := by rw [← HLN.out, List.take_length]
        rw [← HX.out, h1])
      have HC := hideIt hch
      have HO := hideIt ho
      clear hch ho
      go_wp2
      go_ret2
      rw [HE.out]
      exact without_end HLN.out HN.out HO.out (CA.out.trans HC.out)
set_option maxRecDepth 100000 in
set_option maxHeartbeats 16000000 in
theorem without_4 (hl : RecsP w A n L) (_hnc : n ≤ c) (hn : n ≤ 1000) (hL : okL L) (hu : -1125899906842624 ≤ u ∧ u ≤ 1125899906842624) (hwin : 1 ≤ win ∧ win ≤ 1073741824) :
    Calls Try.prog 72 #[.slice A n c, .agg #[.int .i64 4, .int .i64 y, .int .i64 z, .int .i64 u], .int .i64 win] w (Without08 w L (L.filter (fun p => !(expB win u) p))) := by
  have HRC := hideIt hl
  have HLN := hideIt hl.len
  have HOK := hideIt hL
  obtain ⟨u1, u2⟩ := hu
  obtain ⟨win1, win2⟩ := hwin
  obtain ⟨q, hq⟩ : ∃ q, (expB win u) = q := ⟨_, rfl⟩
  rw [hq]
  have HQ := hideIt hq
  obtain ⟨wa, hwa⟩ : ∃ wa, wa = w.alloc (.cells #[.int .i64 4, .int .i64 y, .int .i64 z, .int .i64 u] 62) := ⟨_, rfl⟩
  have TA : Hid (Blk wa w.heap.size 62 #[.int .i64 4, .int .i64 y, .int .i64 z, .int .i64 u]) := hideIt (by rw [hwa]; exact Blk.new w _ _)
  have CA : Hid (Chg (fun _ => False) w wa) := hideIt (by rw [hwa]; exact (Chg.refl _ w).alloc _)
  have SA : Hid (wa.heap.size = w.heap.size + 1) := hideIt (by rw [hwa]; simp)
  clear hl hL hq
  go_enter Try.func72, Try.ntmps72
  go_wp2
  go_loopw [8, 14] (fun v i wr => ∃ (k : Nat), k ≤ n ∧ i = .int .i64 k ∧ OwnR encRp 3 wr wa.heap.size 143 v ((L.take k).filter (fun p => !q p)) ∧ Chg (fun _ => False) wa wr) (fun _ i _ => n - (intOf i).toNat)
  case atStart => exact ⟨0, by omega, rfl, OwnR.nil _ _ _, by rw [hwa]; exact Chg.refl _ _⟩
  case round =>
    clear hwa
    obtain ⟨k, hk, rfl, ho, hch⟩ := hrel
    obtain ⟨xs, hxs⟩ : ∃ xs, (L.take k).filter (fun p => !q p) = xs := ⟨_, rfl⟩
    rw [hxs] at ho
    have HX := hideIt hxs
    obtain ⟨A0, c0, hv0, hk0, hm0, hb0, _⟩ := ho.slice
    obtain ⟨N, hN⟩ : ∃ N, xs.length = N := ⟨_, rfl⟩
    rw [hN] at hv0
    subst hv0
    have HN := hideIt hN
    have hNb : N ≤ k := by
      rw [← hN, ← hxs]
      refine Nat.le_trans (List.length_filter_le _ _) ?_
      rw [List.length_take]; omega
    clear hk0 hm0 hb0 hN hxs
    by_cases hlt : k < n
    · obtain ⟨p, off, rfl, hbl, _⟩ := HRC.out.at_ (by omega)
      have hload := (HRC.out.new (CA.out.trans hch)).load (P := Try.prog) hlt 143 infoRp aggRp encRp_len
      have hokp := HOK.out _ (getD_mem' (d := d0Rp) (by rw [HLN.out]; exact hlt))
      obtain ⟨⟨⟨a, b⟩, t⟩, hT⟩ : ∃ t, L.getD k d0Rp = t := ⟨_, rfl⟩
      rw [hT] at hload hokp
      obtain ⟨-, ⟨hb1, hb2⟩, ht1, ht2⟩ := hokp
      simp only at hb1 hb2 ht1 ht2
      have hl2 : (encRp ((a, b), t)).toArray = #[.int .i64 a, .int .i64 b, .int .i64 t] := rfl
      rw [hl2] at hload
      obtain ⟨w4, s2, t2, k2, z2⟩ := keep_rec (P := Try.prog) wr infoRp (cs := #[.int .i64 0, .int .i64 0, .int .i64 0]) (cs' := #[.int .i64 a, .int .i64 b, .int .i64 t]) rfl rfl (by intro v hv; simp at hv; rcases hv with rfl | rfl | rfl <;> rfl)
      have f0 : w4.cell? ⟨wr.heap.size, 0, none⟩ = some (.int .i64 a) := t2.cell 0
      have f1 : w4.cell? ⟨wr.heap.size, 1, none⟩ = some (.int .i64 b) := t2.cell 1
      have f2 : w4.cell? ⟨wr.heap.size, 2, none⟩ = some (.int .i64 t) := t2.cell 2
      have hload2 := t2.loadAll (P := Try.prog) infoRp aggRp rfl
      have TA4 := TA.out.chg (hch.trans k2) (fun h => h)
      have h0 := TA4.cell 0
      have h1 := TA4.cell 1
      have h2 := TA4.cell 2
      have h3 := TA4.cell 3
      have O4 := hideIt (ho.new k2)
      have C4 := hideIt (hch.trans k2)
      have HF := hideIt (fil_snoc q (by rw [HLN.out]; exact hlt) hT)
      have N1 : xs.length + 1 ≤ 1000000000 := by rw [HN.out]; omega
      have SB := hideIt (show wa.heap.size ≤ w4.heap.size by have := hch.size; omega)
      clear hl2 hT ho hch t2 k2 z2 TA4
      by_cases ha : u ≤ t
      · have da : decide (t < u) = false := by simpa using ha
        have HQ2 : Hid (q ((a, b), t) = false) := hideIt (by rw [← HQ.out]; unfold expB countsB; simp [ha])
        rw [HQ2.out, if_neg (by decide)] at HF
        go_wp2_with (first
          | (refine wpList_loadv _ rfl 143 _ rfl rfl hload ?_)
          | (refine wpList_allocv _ rfl 143 rfl (zeroRp _) ?_)
          | (refine wpList_storev _ rfl 143 _ _ rfl rfl rfl s2 ?_)
          | (refine wpList_loadv _ rfl 143 _ rfl rfl hload2 ?_)
          | (at_builtin; refine wpList_append_recs (base := wa.heap.size) _ rfl _ _ 60 rfl recRp encRp_len encRp_one rfl (O4.out.alloc _) rfl (Recs.oneP w4 a b t) N1 (by omega) (by have := SB.out; simp; omega) ?_; intro v5 w5 o5 g5 q5))
        go_roundw
        case rel => exact ⟨k + 1, by omega, by go_num, by rw [HF.out, HX.out]; exact o5, (C4.out.alloc _).grown g5 (fun i e => .inr (O4.out.base_le e))⟩
        case measure => simp [intOf]; omega
      · have da : decide (t < u) = true := by simp; omega
        by_cases hb : u - t ≤ win
        · have db : decide (win < u - t) = false := by simp; omega
          have HQ2 : Hid (q ((a, b), t) = false) := hideIt (by rw [← HQ.out]; unfold expB countsB; simp [hb])
          rw [HQ2.out, if_neg (by decide)] at HF
          go_wp2_with (first
            | (refine wpList_loadv _ rfl 143 _ rfl rfl hload ?_)
            | (refine wpList_allocv _ rfl 143 rfl (zeroRp _) ?_)
            | (refine wpList_storev _ rfl 143 _ _ rfl rfl rfl s2 ?_)
            | (refine wpList_loadv _ rfl 143 _ rfl rfl hload2 ?_)
            | (at_builtin; refine wpList_append_recs (base := wa.heap.size) _ rfl _ _ 60 rfl recRp encRp_len encRp_one rfl (O4.out.alloc _) rfl (Recs.oneP w4 a b t) N1 (by omega) (by have := SB.out; simp; omega) ?_; intro v5 w5 o5 g5 q5))
          go_roundw
          case rel => exact ⟨k + 1, by omega, by go_num, by rw [HF.out, HX.out]; exact o5, (C4.out.alloc _).grown g5 (fun i e => .inr (O4.out.base_le e))⟩
          case measure => simp [intOf]; omega
        · have db : decide (win < u - t) = true := by simp; omega
          have HQ2 : Hid (q ((a, b), t) = true) := hideIt (by rw [← HQ.out]; unfold expB countsB; simp; omega)
          rw [HQ2.out, if_pos rfl] at HF
          go_wp2_with (first
            | (refine wpList_loadv _ rfl 143 _ rfl rfl hload ?_)
            | (refine wpList_allocv _ rfl 143 rfl (zeroRp _) ?_)
            | (refine wpList_storev _ rfl 143 _ _ rfl rfl rfl s2 ?_))
          go_roundw
          case rel => exact ⟨k + 1, by omega, by go_num, by rw [HF.out, HX.out, List.append_nil]; exact O4.out, C4.out⟩
          case measure => simp [intOf]; omega
    · obtain rfl : k = n := by omega
      have HE : Hid (L.filter (fun p => !q p) = xs) := hideIt (by
        have h1 : L.take k = L := by rw [← HLN.out, List.take_length]
        rw [← HX.out, h1])
      have HC := hideIt hch
      have HO := hideIt ho
      clear hch ho
      go_wp2
      go_ret2
      rw [HE.out]
      exact without_end HLN.out HN.out HO.out (CA.out.trans HC.out)
end
end Go.Proofs.Ytgmekeeemimnpaa
