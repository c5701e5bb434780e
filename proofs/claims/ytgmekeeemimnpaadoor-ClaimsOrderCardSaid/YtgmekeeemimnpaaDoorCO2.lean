/- ClaimsOrder: 'unlike' and 'made', walked. -/
import Derived.Test.YtgmekeeemimnpaaDoorCO1
namespace Go.Proofs.YtgmekeeemimnpaaDoor.R
open Go Go.Maps Go.MapKept Go.RowKit

theorem results_cell1 {P : Program} {fn : Func} {p : Tmp} {ty : TypeId} (h : fn.results = #[.cell p ty]) {tmps : Array Value} {w : World} {ad : Addr} {x : Value} (hp : tmps.getD p undef = .pointer (some ad))
    (hl : (loadVar ty ad).run P w = .ok x w) : (results fn tmps).run P w = .ok x w := by
  have hp' : tmps[p]?.getD undef = .pointer (some ad) := by simpa using hp
  simp only [results, h]
  simp [hp', asAddr, hl]

section
variable {w : World} {A : Option Addr} {n c : Nat} {l : List CR}
set_option maxRecDepth 100000 in
set_option maxHeartbeats 8000000 in
theorem unlike_calls (hl : ClaimsIn w A n c l) (hn : n ≤ 20) :
    Calls Tryd.prog 21 #[.slice A n c] w fun e w' => ∃ b, e = .returned (.bool b) ∧ (b = true → Unl l) ∧ Chg (fun _ => False) w w' := by
  obtain ⟨hr, hok, hnc, hcm⟩ := hl
  unfold maxLen at hcm
  have HR := hideIt hr
  have HLN := hideIt hr.len
  have HOK := hideIt hok
  clear hr hok
  go_enter Tryd.func21, Tryd.ntmps21
  go_wp2
  go_loopw [9] (fun i wr => ∃ k : Nat, k ≤ n ∧ i = .int .i64 k ∧ Chg (fun _ => False) w wr ∧ Hid (Unl (l.take k))) (fun i _ => n - (intOf i).toNat)
  case atStart => exact ⟨0, by omega, rfl, Chg.refl _ _, hideIt ⟨by simp, List.Pairwise.nil⟩⟩
  case round =>
    obtain ⟨k, hk, rfl, hch, hu⟩ := hrel
    by_cases hlt : k < n
    · obtain ⟨p, off, rfl, hbl, _⟩ := HR.out.at_ (by omega)
      have hload := (HR.out.new hch).load (P := Tryd.prog) hlt 28 infoC aggC encC_len
      have hokc := HOK.out _ (getD_mem' (d := d0C) (by rw [HLN.out]; exact hlt))
      obtain ⟨⟨id, ep, m⟩, hT⟩ : ∃ t, l.getD k d0C = t := ⟨_, rfl⟩
      rw [hT] at hload hokc
      obtain ⟨o1, o2, o3⟩ := hokc
      simp only at o1 o2 o3
      have hl2 : (encC (id, ep, m)).toArray = #[.int .i64 id, .int .i64 ep, .int .u64 (m : Int)] := rfl
      rw [hl2] at hload
      obtain ⟨w4, s2, t2, k2, z2⟩ := keep_rec (P := Tryd.prog) wr infoC (cs := #[.int .i64 0, .int .i64 0, .int .u64 0]) (cs' := #[.int .i64 id, .int .i64 ep, .int .u64 (m : Int)]) rfl rfl (by intro v hv; simp at hv; rcases hv with rfl | rfl | rfl <;> rfl)
      have f0 : w4.cell? ⟨wr.heap.size, 0, none⟩ = some (.int .i64 id) := t2.cell 0
      have f1 : w4.cell? ⟨wr.heap.size, 1, none⟩ = some (.int .i64 ep) := t2.cell 1
      have C4 := hideIt (hch.trans k2)
      have T4 := hideIt t2
      have HT := hideIt hT
      clear hl2 hT hch t2 k2 z2
      obtain ⟨r, h1⟩ : ∃ r, idB id = r := ⟨_, rfl⟩
      cases r with
      | false =>
        go_wp2_with (first
          | (refine wpList_loadv _ rfl 28 _ rfl rfl hload ?_)
          | (refine wpList_allocv _ rfl 28 rfl (zeroC _) ?_)
          | (refine wpList_storev _ rfl 28 _ _ rfl rfl rfl s2 ?_)
          | (go_at_call 14; refine (lawid w4 id _ h1).mono ?_; rintro e w9 ⟨rfl, rfl⟩))
        go_ret
        exact ⟨false, rfl, by simp, C4.out⟩
      | true =>
        by_cases e1 : ep < 1
        · go_wp2_with (first
            | (refine wpList_loadv _ rfl 28 _ rfl rfl hload ?_)
            | (refine wpList_allocv _ rfl 28 rfl (zeroC _) ?_)
            | (refine wpList_storev _ rfl 28 _ _ rfl rfl rfl s2 ?_)
            | (go_at_call 14; refine (lawid w4 id _ h1).mono ?_; rintro e w9 ⟨rfl, rfl⟩))
          go_ret
          exact ⟨false, rfl, by simp, C4.out⟩
        by_cases e2 : 281474976710656 < ep
        · go_wp2_with (first
            | (refine wpList_loadv _ rfl 28 _ rfl rfl hload ?_)
            | (refine wpList_allocv _ rfl 28 rfl (zeroC _) ?_)
            | (refine wpList_storev _ rfl 28 _ _ rfl rfl rfl s2 ?_)
            | (go_at_call 14; refine (lawid w4 id _ h1).mono ?_; rintro e w9 ⟨rfl, rfl⟩))
          go_ret
          exact ⟨false, rfl, by simp, C4.out⟩
        have HU := hideIt (show okU (id, ep, m) from ⟨h1, by simp only; omega⟩)
        have hct := fun W => run_cutK_to (K := 3) Tryd.underlying40 sizeC W (some ⟨p, off, none⟩) n c k (by omega)
        go_wp2_with (first
          | (refine wpList_loadv _ rfl 28 _ rfl rfl hload ?_)
          | (refine wpList_allocv _ rfl 28 rfl (zeroC _) ?_)
          | (refine wpList_storev _ rfl 28 _ _ rfl rfl rfl s2 ?_)
          | (go_at_call 14; refine (lawid w4 id _ h1).mono ?_; rintro e w9 ⟨rfl, rfl⟩))
        generalize wr.heap.size = gx at *
        go_loopw [32] (fun i wq => ∃ j : Nat, j ≤ k ∧ i = .int .i64 j ∧ Chg (fun _ => False) w4 wq ∧ Hid (∀ i, i < j → (l.getD i d0C).2.1 ≠ ep)) (fun i _ => k - (intOf i).toNat)
        case atStart => exact ⟨0, by omega, rfl, Chg.refl _ _, hideIt (by omega)⟩
        case round =>
          clear hload s2 f0 f1
          obtain ⟨j, hj, rfl, hc2, hall⟩ := hrel
          have g1 : wr.cell? ⟨gx, 1, none⟩ = some (.int .i64 ep) := (T4.out.chg hc2 (fun h => h)).cell 1
          by_cases hjk : j < k
          · have hload := (HR.out.new (C4.out.trans hc2)).load (P := Tryd.prog) (i := j) (by omega) 28 infoC aggC encC_len
            obtain ⟨⟨id', ep', m'⟩, hT'⟩ : ∃ t, l.getD j d0C = t := ⟨_, rfl⟩
            rw [hT'] at hload
            have hl2 : (encC (id', ep', m')).toArray = #[.int .i64 id', .int .i64 ep', .int .u64 (m' : Int)] := rfl
            rw [hl2] at hload
            obtain ⟨w5, s5, t5, k5, z5⟩ := keep_rec (P := Tryd.prog) wr infoC (cs := #[.int .i64 0, .int .i64 0, .int .u64 0]) (cs' := #[.int .i64 id', .int .i64 ep', .int .u64 (m' : Int)]) rfl rfl (by intro v hv; simp at hv; rcases hv with rfl | rfl | rfl <;> rfl)
            have f1 : w5.cell? ⟨wr.heap.size, 1, none⟩ = some (.int .i64 ep') := t5.cell 1
            have g5 : w5.cell? ⟨gx, 1, none⟩ = some (.int .i64 ep) := (T4.out.chg (hc2.trans k5) (fun h => h)).cell 1
            have C5 := hideIt (hc2.trans k5)
            have HT' := hideIt hT'
            clear hl2 hT' t5 k5 z5 hc2
            by_cases he : ep = ep'
            · have de : (ep == ep') = true := by simpa using he
              clear he
              go_wp2_with (first
                | (refine wpList_loadv _ rfl 28 _ rfl rfl hload ?_)
                | (refine wpList_allocv _ rfl 28 rfl (zeroC _) ?_)
                | (refine wpList_storev _ rfl 28 _ _ rfl rfl rfl s5 ?_))
              go_ret
              exact ⟨false, rfl, by simp, C4.out.trans C5.out⟩
            · have de : (ep == ep') = false := by simpa using he
              have HALL : Hid (∀ i, i < j + 1 → (l.getD i d0C).2.1 ≠ ep) := hideIt (fun i hi => by
                rcases Nat.lt_or_ge i j with h2 | h2
                · exact hall.out i h2
                · obtain rfl : i = j := by omega
                  rw [HT'.out]; exact fun e => he e.symm)
              clear he
              go_wp2_with (first
                | (refine wpList_loadv _ rfl 28 _ rfl rfl hload ?_)
                | (refine wpList_allocv _ rfl 28 rfl (zeroC _) ?_)
                | (refine wpList_storev _ rfl 28 _ _ rfl rfl rfl s5 ?_))
              go_roundw
              case rel => exact ⟨j + 1, by omega, by go_num, C5.out, HALL⟩
              case measure => simp [intOf]; omega
          · obtain rfl : j = k := by omega
            have HUN : Hid (Unl (l.take (j + 1))) := hideIt (by
              rw [take_succ_getD' l d0C j (by rw [HLN.out]; exact hlt), HT.out]
              refine ⟨fun c hc => ?_, List.pairwise_append.2 ⟨hu.out.2, by simp, fun a ha b hb => ?_⟩⟩
              · rcases List.mem_append.1 hc with hc | hc
                · exact hu.out.1 c hc
                · simp at hc; subst hc; exact HU.out
              · simp at hb
                subst hb
                obtain ⟨i, hi, rfl⟩ := List.mem_iff_getElem.1 ha
                rw [List.length_take] at hi
                rw [List.getElem_take]
                have := hall.out i (by omega)
                rw [List.getD_eq_getElem?_getD, List.getElem?_eq_getElem (by omega)] at this
                exact this)
            have HC := hideIt (C4.out.trans hc2)
            clear hc2 g1
            go_wp2
            go_roundw
            case rel => exact ⟨j + 1, by omega, by go_num, HC.out, HUN⟩
            case measure => simp [intOf]; omega
    · obtain rfl : k = n := by omega
      have HUN : Hid (Unl l) := hideIt (by
        have h1 : l.take k = l := by rw [← HLN.out, List.take_length]
        have h2 := hu.out
        rw [h1] at h2
        exact h2)
      go_wp2
      go_ret
      exact ⟨true, rfl, fun _ => HUN.out, hch⟩

set_option maxRecDepth 100000 in
set_option maxHeartbeats 8000000 in
theorem made_calls (hTW : TabW w) (hr : Recs encC 3 d0C w A n l) (hok : ∀ x ∈ l, okCR x) (hu : ∀ x ∈ l, okU x) (hn : n ≤ 50) :
    Calls Tryd.prog 22 #[.slice A n c] w fun e w' => e = .returned (.agg (tcs (madeT l))) ∧ Chg (fun _ => False) w w' := by
  obtain ⟨wB, hwB⟩ : ∃ wB, wB = (w.alloc (.cells (tcs zeroT) 24)).alloc (.cells (tcs zeroT) 24) := ⟨_, rfl⟩
  have hZ : TabAt wB w.heap.size zeroT := by rw [hwB]; exact (Blk.new w _ _).alloc _
  have hT : TabAt wB (w.heap.size + 1) zeroT := by
    rw [hwB]
    have := Blk.new (w.alloc (.cells (tcs zeroT) 24)) 24 (tcs zeroT)
    unfold TabAt
    simpa using this
  have hC : Chg (fun _ => False) w wB := by rw [hwB]; exact ((Chg.refl _ w).alloc _).alloc _
  have SB : wB.heap.size = w.heap.size + 2 := by rw [hwB]; simp
  have HB := hideIt hwB
  have HR := hideIt hr
  have HLN := hideIt hr.len
  have HOK := hideIt hok
  have HU := hideIt hu
  have HTW := hideIt hTW
  have HZ := hideIt hZ
  have HC := hideIt hC
  have HT := hideIt hT
  clear hwB hr hok hu hTW hZ hC hT
  go_enter Tryd.func22, Tryd.ntmps22
  go_upto_region 2 with (refine wpList_allocagg _ rfl 24 rfl (zero_tab _) ?_)
  rw [← HB.out]
  go_wp2
  go_loopw [8] (fun i wr => ∃ k : Nat, k ≤ n ∧ i = .int .i64 k ∧ TabAt wr (w.heap.size + 1) (madeT (l.take k)) ∧ Chg (fun i => i = w.heap.size + 1) wB wr) (fun i _ => n - (intOf i).toNat)
  case atStart => exact ⟨0, by omega, rfl, HT.out, Chg.refl _ _⟩
  case round =>
    obtain ⟨k, hk, rfl, hTk, hch⟩ := hrel
    have HCW := hideIt (HC.out.trans' hch (fun i hi => .inr (by subst hi; omega)))
    by_cases hlt : k < n
    · obtain ⟨p, off, rfl, hbl, _⟩ := HR.out.at_ (by omega)
      have hload := (HR.out.new HCW.out).load (P := Tryd.prog) hlt 28 infoC aggC encC_len
      have hokc := HOK.out _ (getD_mem' (d := d0C) (by rw [HLN.out]; exact hlt))
      have huc := HU.out _ (getD_mem' (d := d0C) (by rw [HLN.out]; exact hlt))
      obtain ⟨⟨id, ep, m⟩, hT⟩ : ∃ t, l.getD k d0C = t := ⟨_, rfl⟩
      rw [hT] at hload hokc huc
      obtain ⟨o1, o2, o3⟩ := hokc
      simp only at o1 o2 o3
      obtain ⟨f, hf⟩ : ∃ f, madeT (l.take k) = f := ⟨_, rfl⟩
      have hfr : rightT f = true := by rw [← hf]; exact made_right _ _ rfl (fun c hc => HU.out c (List.mem_of_mem_take hc))
      obtain ⟨g, hg⟩ : ∃ g, clT f id ep m.testBit = g := ⟨_, rfl⟩
      have hgn : madeT (l.take (k + 1)) = g := by rw [take_succ_getD' l d0C k (by rw [HLN.out]; exact hlt), hT, madeT_snoc, hf, hg]
      have OKC := hideIt (show okC f id ep = true by
        rw [okC_eq, hfr, huc.1]
        have h2 : 1 ≤ ep ∧ ep ≤ 281474976710656 := huc.2
        unfold epB
        simp
        omega)
      have hl2 : (encC (id, ep, m)).toArray = #[.int .i64 id, .int .i64 ep, .int .u64 (m : Int)] := rfl
      rw [hl2] at hload
      obtain ⟨w4, s2, t2, k2, z2⟩ := keep_rec (P := Tryd.prog) wr infoC (cs := #[.int .i64 0, .int .i64 0, .int .u64 0]) (cs' := #[.int .i64 id, .int .i64 ep, .int .u64 (m : Int)]) rfl rfl (by intro v hv; simp at hv; rcases hv with rfl | rfl | rfl <;> rfl)
      have f0 : w4.cell? ⟨wr.heap.size, 0, none⟩ = some (.int .i64 id) := t2.cell 0
      have f1 : w4.cell? ⟨wr.heap.size, 1, none⟩ = some (.int .i64 ep) := t2.cell 1
      have f2 : w4.cell? ⟨wr.heap.size, 2, none⟩ = some (.int .u64 (m : Int)) := t2.cell 2
      rw [hf] at hTk
      have hT4 := hTk.chg k2 (fun h => h)
      have hTW4 := hideIt (HTW.out.chg (HCW.out.trans k2) (fun h => h))
      have K2 := hideIt k2
      have HG := hideIt hg
      have HGN := hideIt hgn
      have HCH := hideIt hch
      have HF := hideIt hf
      clear hl2 hT t2 k2 z2 hTk hg hgn hch huc hfr hf
      go_wp2_with (first
        | (refine wpList_loadv _ rfl 28 _ rfl rfl hload ?_)
        | (refine wpList_allocv _ rfl 28 rfl (zeroC _) ?_)
        | (refine wpList_storev _ rfl 28 _ _ rfl rfl rfl s2 ?_)
        | (refine wpList_loadv _ rfl 24 _ rfl rfl hT4.load ?_)
        | (go_at_call 16; refine (claim_is w4 hTW4.out f id ep m o3 OKC.out g HG.out _ rfl).mono ?_; rintro e w5 ⟨rfl, k5⟩; obtain ⟨w6, s6, t6, c6, z6⟩ := (hT4.chg k5 (fun h => h)).store g)
        | (refine wpList_storev _ rfl 24 _ _ rfl rfl rfl s6 ?_))
      go_roundw
      case rel => exact ⟨k + 1, by omega, by go_num, by rw [HGN.out]; exact t6, (HCH.out.trans ((K2.out.trans k5).mono (fun _ h => h.elim))).trans c6⟩
      case measure => simp [intOf]; omega
    · obtain rfl : k = n := by omega
      have hTn : TabAt wr (w.heap.size + 1) (madeT l) := by
        have h1 : l.take k = l := by rw [← HLN.out, List.take_length]
        rw [h1] at hTk
        exact hTk
      have hzn : TabAt wr w.heap.size zeroT := HZ.out.chg hch (fun h => by omega)
      obtain ⟨w3, s3, t3, c3, z3⟩ := hzn.store (madeT l)
      clear hzn hTk hch
      go_wp2_with (first | (refine wpList_loadv _ rfl 24 _ rfl rfl hTn.load ?_) | (refine wpList_storev _ rfl 24 _ _ rfl rfl rfl s3 ?_))
      (try simp only [Exit.inBlock, Exit.then])
      refine bodyPost_ret (results_cell1 rfl rfl t3.load) rfl ?_
      exact ⟨rfl, HCW.out.trans' c3 (fun i hi => .inr (by subst hi; exact Nat.le_refl _))⟩
end
end Go.Proofs.YtgmekeeemimnpaaDoor.R
