/- Package report's By, walked. -/
import Derived.Test.YtgmekeeemimnpaaRp3
import Derived.Test.YtgmekeeemimnpaaKeys
import Derived.Test.YtgmekeeemimnpaaW3
namespace Go.Proofs.Ytgmekeeemimnpaa
open Go Go.Maps Go.MapKept Go.RowKit

/-- Does an entry tell of 'about', in time? -/
def tellsB (win about now : Int) (p : Pr × Int) : Bool := decide (p.1.1 = about) && countsB win p.2 now
/-- Who told of somebody. -/
def byL (win : Int) (L : List (Pr × Int)) (about now : Int) : List Int := (L.filter (tellsB win about now)).map (fun p => p.1.2)
section
variable {w : World} {b m : Nat} {win : Int} {L : List (Pr × Int)}
set_option maxRecDepth 100000 in
set_option maxHeartbeats 4000000 in
theorem by_calls (about now : Int) (hn : -9223372036854775808 ≤ now ∧ now ≤ 9223372036854775807) (hL : L.length ≤ 1000000) (h : BookAt w b m win L) :
    Calls Try.prog 63 #[.pointer (some ⟨b, 0, none⟩), .int .i64 about, .int .i64 now] w (KeysIs w (byL win L about now)) := by
  obtain ⟨hb, hm, hwin, hL0⟩ := h
  obtain ⟨i0, hi, hz0, hz1, hz2⟩ : ∃ i, Try.prog.info? 3 = some i ∧ i.zero = some (.int .i64 0) ∧ i.size = 1 ∧ i.bytes = 8 := by
    have h := infoIntW
    cases he : Try.prog.info? 3 with
    | none => rw [he] at h; cases h
    | some i => rw [he] at h; simp at h; exact ⟨i, rfl, h.1, h.2.1, h.2.2⟩
  have HI := hideIt hi
  have HG := hideIt hL0
  have HN := hideIt hn
  have HLN := hideIt hL
  have c1 : w.cell? ⟨b, 1, none⟩ = some (.map (some m)) := hb.cell 1
  clear hi hL0 hwin hL
  go_enter Try.func63, Try.ntmps63
  go_wp2_with (at_range; refine wpList_range _ rfl _ 137 3 rfl Try.underlying137 rfl hm ?_; intro w0 hit0 hc0 hs0)
  go_frame
  go_loopw [7] (fun v wr => ∃ (done : List (Pr × Int)) (xs : List Int) (A' : Option Addr) (N c' : Nat), IterIs ekPr (Value.int .i64) okPr wr w.heap.size m L done ∧ v = .slice A' N c' ∧ OwnI wr w.heap.size 3 (.slice A' N c') xs ∧ xs = (done.filter (tellsB win about now)).map (fun p => p.1.2) ∧ Chg (fun _ => False) w wr) (fun _ wr => wr.rangeLeft m w.heap.size)
  case atStart => exact ⟨[], [], none, 0, 0, hit0, rfl, OwnI.nil _ _ _, rfl, hc0⟩
  case round =>
    obtain ⟨done, xs, A', N, c', hit, rfl, ho, hxs, hch⟩ := hrel
    have HX := hideIt hxs
    clear hxs
    obtain ⟨A0, k0, hv0, hk0, hm0, hb0⟩ := ho.slice
    have hN0 : Hid (xs.length = N) := hideIt (by cases hv0; rfl)
    clear hv0 hk0 hm0 hb0
    have hxb : xs.length ≤ 1000000 := by
      have h1 := List.length_filter_le (tellsB win about now) done
      have h2 := hit.sub
      have h3 := nodup_len h2.1 h2.2
      have h4 := HLN.out
      rw [HX.out, List.length_map]
      omega
    go_wp2_with (at_next; refine wpList_nextm _ rfl _ rfl ekPr_inj rfl hit ?_ ?_)
    · intro hperm
      have HL : Hid (sortI (byL win L about now) = sortI xs) := hideIt (by
        unfold byL
        rw [HX.out]
        exact sortI_of_perm ((hperm.symm.filter _).map _))
      have HS := hideIt (calls_sort wr w.heap.size _ xs ho (by omega))
      clear hperm hxb
      go_wp2_with (go_at_call 103; refine HS.out.mono ?_; rintro e w4 ⟨rfl, ho4, hc4⟩)
      go_ret
      have hc : Chg (fun _ => False) w w4 := hch.trans' hc4 (fun i hi => .inr (ho.base_le hi))
      refine ⟨A', N, c', rfl, ?_, hc⟩
      rw [HL.out]
      exact ho4
    · intro a0 y0 t0 w1 hq hnd hit1 hlt hc1 hs1 hen
      have hg0 := HG.out _ hq
      have hch1 : Chg (fun _ => False) w w1 := hch.trans' hc1 (fun i hi => .inr (by subst hi; exact Nat.le_refl _))
      have ho1 : OwnI w1 w.heap.size 3 (.slice A' N c') xs := ho.chg hc1 (fun gg hgg e => by
        subst e
        exact absurd (own_not_iter ho hgg hit) (fun h => h))
      have hb1 := hb.chg hch1 (fun h => h)
      have hbase : w.heap.size ≤ w1.heap.size := hch1.size
      obtain ⟨w2, s2, t2, c2, z2⟩ := keep_rec (P := Try.prog) w1 infoPr (cs := #[.int .i64 0, .int .i64 0]) (cs' := #[.int .i64 a0, .int .i64 y0]) rfl rfl (by intro v hv; simp at hv; rcases hv with rfl | rfl <;> rfl)
      have p0 : w2.cell? ⟨w1.heap.size, 0, none⟩ = some (.int .i64 a0) := t2.cell 0
      have p1 : w2.cell? ⟨w1.heap.size, 1, none⟩ = some (.int .i64 y0) := t2.cell 1
      have hb2 := hb1.chg c2 (fun h => h)
      have hch2 := hch1.trans c2
      have ho2 := ho1.new c2
      have HT := hideIt (hit1.chg c2 (fun h => h) (fun h => h))
      have HLT : Hid (w2.rangeLeft m w.heap.size < wr.rangeLeft m w.heap.size) := hideIt (by
        rw [rangeLeft_chg c2 hit1.map.lt hit1.rlt (fun h => h) (fun h => h)]; exact hlt)
      have HCO := hideIt (counts_calls t0 now hg0.2.2 HN.out hb2)
      have oy : okI y0 := okI_iff.2 (by have := hg0.2.1; simp only at this; omega)
      have hbase2 : w.heap.size ≤ w2.heap.size := hch2.size
      simp only [ekPr] at hen
      clear t2 hlt hit1 hs1 z2 hg0 hc1 hnd ho1 hb1 hch1
      cases hB : tellsB win about now ((a0, y0), t0) with
      | false =>
        have HE : Hid (xs = List.map (fun p => p.1.2) (List.filter (tellsB win about now) (done ++ [((a0, y0), t0)]))) := hideIt (by
          rw [HX.out, List.filter_append]; simp [hB])
        by_cases ha : a0 = about
        · have hcf : countsB win t0 now = false := by unfold tellsB at hB; simpa [ha] using hB
          rw [hcf] at HCO
          subst ha
          clear hB hcf
          go_wp2_with (first
            | (refine wpList_allocv _ rfl 141 rfl (zeroPr _) ?_)
            | (refine wpList_storev _ rfl 141 _ _ rfl rfl rfl s2 ?_)
            | (go_at_call 102; refine HCO.out.mono ?_; rintro e w3 ⟨rfl, rfl⟩))
          go_roundw
          case rel => exact ⟨_, xs, A', N, c', HT.out, rfl, ho2, HE.out, hch2⟩
          case measure => exact HLT.out
        · have hd : (a0 == about) = false := by simpa using ha
          clear hB ha
          go_wp2_with (first
            | (refine wpList_allocv _ rfl 141 rfl (zeroPr _) ?_)
            | (refine wpList_storev _ rfl 141 _ _ rfl rfl rfl s2 ?_))
          go_roundw
          case rel => exact ⟨_, xs, A', N, c', HT.out, rfl, ho2, HE.out, hch2⟩
          case measure => exact HLT.out
      | true =>
        have HE : Hid (xs ++ [y0] = List.map (fun p => p.1.2) (List.filter (tellsB win about now) (done ++ [((a0, y0), t0)]))) := hideIt (by
          rw [HX.out, List.filter_append]; simp [hB])
        have hB2 : a0 = about ∧ countsB win t0 now = true := by unfold tellsB at hB; simpa using hB
        obtain ⟨rfl, hcf⟩ := hB2
        rw [hcf] at HCO
        clear hB hcf
        have hbase3 : w.heap.size ≤ (w2.alloc (.cells #[.int .i64 y0] 3)).heap.size := by simp; omega
        go_wp2_with (first
          | (refine wpList_allocv _ rfl 141 rfl (zeroPr _) ?_)
          | (refine wpList_storev _ rfl 141 _ _ rfl rfl rfl s2 ?_)
          | (go_at_call 102; refine HCO.out.mono ?_; rintro e w3 ⟨rfl, rfl⟩)
          | (at_builtin; refine wpList_append_ints _ rfl _ _ 25 rfl i0 _ Try.underlying25 HI.out hz0 hz1 hz2 rfl rfl (ho2.alloc _) rfl (Ints.one w2 3 y0 oy) (by omega) hbase3 ?_; intro v3 w3 o3 g3 l3))
        have hk3 : Chg (fun i => (Value.slice A' N c').ownBlock = some i) w2 w3 := ((Chg.refl _ w2).alloc _).grown g3 (fun i e => .inl e)
        have hgl := hm.lt
        have hng : ¬ (Value.slice A' N c').ownBlock = some m := fun e => by have := ho2.base_le e; omega
        have hnr : ¬ (Value.slice A' N c').ownBlock = some w.heap.size := fun e => own_not_iter ho2 e HT.out
        obtain ⟨A3, k3, hv3, _⟩ := o3.slice
        rw [hv3] at o3 ⊢
        refine ⟨⟨_, xs ++ [y0], A3, _, k3, HT.out.chg hk3 hng hnr, rfl, o3, HE.out, hch2.trans' hk3 (fun i e => .inr (ho2.base_le e))⟩, ?_⟩
        rw [rangeLeft_chg hk3 HT.out.map.lt HT.out.rlt hng hnr]
        exact HLT.out
end
end Go.Proofs.Ytgmekeeemimnpaa
