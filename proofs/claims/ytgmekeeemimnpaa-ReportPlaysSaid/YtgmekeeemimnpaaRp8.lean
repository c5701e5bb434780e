/- maps.DeleteFunc at the book's map, walked: what the closure tells goes. -/
import Derived.Test.YtgmekeeemimnpaaRp7
import Derived.Test.YtgmekeeemimnpaaIterD
namespace Go.Proofs.Ytgmekeeemimnpaa
open Go Go.Maps Go.MapKept Go.RowKit

theorem filter_adel {L : List (Pr × Int)} (hn : keysNodup L) {x : Pr} {v : Int} (h : (x, v) ∈ L) {pd : Pr × Int → Bool} (hp : pd (x, v) = true) : (adel L x).filter (fun p => !pd p) = L.filter (fun p => !pd p) := by
  unfold adel
  rw [List.filter_filter]
  refine List.filter_congr fun p hpL => ?_
  by_cases e : p.1 = x
  · obtain ⟨p1, p2⟩ := p
    simp only at e
    subst e
    have h1 := aget_of_mem hn h
    have h2 := aget_of_mem hn hpL
    rw [h1] at h2
    cases h2
    simp [hp]
  · simp [e]
def DelR (w : World) (m : Nat) (L : List (Pr × Int)) (e : Ending) (w' : World) : Prop := e = .returned (.tuple #[]) ∧ MapIs ekPr (Value.int .i64) okPr w' m L ∧ Chg (fun i => i = m) w w'
section
variable {w : World} {m : Nat} {L : List (Pr × Int)}
set_option maxRecDepth 100000 in
set_option maxHeartbeats 4000000 in
theorem rdel_calls (hm : MapIs ekPr (Value.int .i64) okPr w m L) (cf : FuncId) (cb : Array Value) (pd : Pr × Int → Bool) (eg : ∀ args w, (callFunc cf args).run Try.prog w = .ok (.enter cf args) w)
    (hcl : ∀ (W : World) (a y t : Int), Chg (fun i => i = m) w W → ((a, y), t) ∈ L → Calls Try.prog cf (#[.agg #[.int .i64 a, .int .i64 y], .int .i64 t] ++ cb) W fun e W' => e = .returned (.bool (pd ((a, y), t))) ∧ Chg (fun _ => False) W W') :
    Calls Try.prog 122 #[.map (some m), .func (.func cf) #[] cb] w (DelR w m (L.filter (fun p => !pd p))) := by
  have HC := hideIt hcl
  clear hcl
  go_enter Try.func122, Try.ntmps122
  go_wp2_with (at_range; refine wpList_range _ rfl _ 137 3 rfl Try.underlying137 rfl hm ?_; intro w0 hit0 hc0 hs0)
  go_frame
  go_loopw [8] (fun _ wr => ∃ (done Lc : List (Pr × Int)), IterIs ekPr (Value.int .i64) okPr wr w.heap.size m Lc done ∧ Hid (∀ p ∈ done, pd p = false) ∧ Hid (Lc.filter (fun p => !pd p) = L.filter (fun p => !pd p)) ∧ Hid (∀ p ∈ Lc, p ∈ L) ∧ Chg (fun i => i = m) w wr) (fun _ wr => wr.rangeLeft m w.heap.size)
  case atStart => exact ⟨[], L, hit0, hideIt (by simp), hideIt rfl, hideIt (fun _ h => h), hc0.mono (fun _ h => h.elim)⟩
  case round =>
    obtain ⟨done, Lc, hit, hd, hf, hs, hch⟩ := hrel
    go_wp2_with (at_next; refine wpList_nextm _ rfl _ rfl ekPr_inj rfl hit ?_ ?_)
    · intro hperm
      have HE : Hid (L.filter (fun p => !pd p) = Lc) := hideIt (by
        rw [← hf.out, List.filter_eq_self]
        intro p hp
        rw [hd.out p (hperm.mem_iff.2 hp)]
        rfl)
      clear hperm
      go_wp2
      go_end0
      exact ⟨rfl, by rw [HE.out]; exact hit.map, hch⟩
    · intro a0 y0 t0 w1 hq hnd hit1 hlt hc1 hs1 hen
      have hch1 : Chg (fun i => i = m) w w1 := hch.trans' hc1 (fun i hi => .inr (by subst hi; exact Nat.le_refl _))
      obtain ⟨w2, s2, t2, c2, z2⟩ := keep_rec (P := Try.prog) w1 infoPr (cs := #[.int .i64 0, .int .i64 0]) (cs' := #[.int .i64 a0, .int .i64 y0]) rfl rfl (by intro v hv; simp at hv; rcases hv with rfl | rfl <;> rfl)
      have hch2 := hch1.trans (c2.mono (fun _ h => h.elim))
      have HCL := hideIt (HC.out w2 a0 y0 t0 hch2 (hs.out _ hq))
      have HT := hideIt (hit1.chg c2 (fun h => h) (fun h => h))
      have HLT : Hid (w2.rangeLeft m w.heap.size < wr.rangeLeft m w.heap.size) := hideIt (by
        rw [rangeLeft_chg c2 hit1.map.lt hit1.rlt (fun h => h) (fun h => h)]; exact hlt)
      have T2 := hideIt t2
      have ok0 : okPr (a0, y0) := hit.map.keyGood _ hq
      have HQ := hideIt hq
      have hload := t2.loadAll (P := Try.prog) infoPr aggPr rfl
      simp only [ekPr] at hen
      clear t2 hlt hit1 hs1 z2 hc1 hnd hch1 hq
      cases hB : pd ((a0, y0), t0) with
      | false =>
        rw [hB] at HCL
        have HD : Hid (∀ p ∈ done ++ [((a0, y0), t0)], pd p = false) := hideIt (by
          intro p hp
          rcases List.mem_append.1 hp with hp | hp
          · exact hd.out p hp
          · simp at hp; subst hp; exact hB)
        clear hB
        go_wp2_with (first
          | (refine wpList_allocv _ rfl 141 rfl (zeroPr _) ?_)
          | (refine wpList_storev _ rfl 141 _ _ rfl rfl rfl s2 ?_)
          | (refine wpList_loadv _ rfl 141 _ rfl rfl hload ?_)
          | (go_at_fn cf; refine HCL.out.mono ?_; rintro e w3 ⟨rfl, c3⟩))
        go_roundw
        case rel => exact ⟨_, Lc, HT.out.chg c3 (fun h => h) (fun h => h), HD, hf, hs, hch2.trans (c3.mono (fun _ h => h.elim))⟩
        case measure =>
          rw [rangeLeft_chg c3 HT.out.map.lt HT.out.rlt (fun h => h) (fun h => h)]
          exact HLT.out
      | true =>
        rw [hB] at HCL
        have HB := hideIt hB
        clear hB
        go_wp2_with (first
          | (refine wpList_allocv _ rfl 141 rfl (zeroPr _) ?_)
          | (refine wpList_storev _ rfl 141 _ _ rfl rfl rfl s2 ?_)
          | (refine wpList_loadv _ rfl 141 _ rfl rfl hload ?_)
          | (go_at_fn cf; refine HCL.out.mono ?_; rintro e w3 ⟨rfl, c3⟩; have T3 := T2.out.chg c3 (fun h => h); have hload3 := T3.loadAll (P := Try.prog) infoPr aggPr rfl; clear hload)
          | (refine wpList_loadv _ rfl 141 _ rfl rfl hload3 ?_)
          | (at_delete; refine wpList_dropi _ rfl _ _ 137 rfl 3 pairEnc Try.underlying137 (HT.out.chg c3 (fun h => h) (fun h => h)) rfl (a0, y0) rfl ok0 ?_; intro w4 hit4 ht4 hle4))
        go_frame
        go_roundw
        case rel =>
          refine ⟨_, _, hit4, hideIt (fun p hp => ?_), hideIt ((filter_adel hit.map.nodup HQ.out HB.out).trans hf.out), hideIt (fun p hp => hs.out p (mem_adel.1 hp).1), (hch2.trans (c3.mono (fun _ h => h.elim))).trans (Chg.mapTurned ht4)⟩
          obtain ⟨h1, h2⟩ := mem_adel.1 hp
          rcases List.mem_append.1 h1 with h1 | h1
          · exact hd.out p h1
          · simp at h1; subst h1; exact absurd rfl h2
        case measure =>
          have h5 := HLT.out
          rw [← rangeLeft_chg c3 HT.out.map.lt HT.out.rlt (fun h => h) (fun h => h)] at h5
          omega
end
end Go.Proofs.Ytgmekeeemimnpaa
