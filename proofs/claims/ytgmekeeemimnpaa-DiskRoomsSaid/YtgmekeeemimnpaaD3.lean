/- Package disk's others, walked. -/
import Derived.Test.YtgmekeeemimnpaaD2
namespace Go.Proofs.Ytgmekeeemimnpaa
open Go Go.Maps Go.MapKept Go.RowKit Go.Sort

theorem total_append (L M : Files) : total (L ++ M) = total L + total M := by simp [total]
theorem total_perm {L M : Files} (h : L.Perm M) : total L = total M := (h.map _).sum_nat
theorem adel_append (L M : Files) (x : Str) : adel (L ++ M) x = adel L x ++ adel M x := List.filter_append ..
theorem total_adel_le (L : Files) (x : Str) : total (adel L x) ≤ total L := by
  induction L with
  | nil => exact Nat.le_refl _
  | cons p L ih =>
    unfold adel total at *
    rw [List.filter_cons]
    split
    · simp only [List.map_cons, List.sum_cons]; omega
    · simp only [List.map_cons, List.sum_cons]; omega
theorem total_sub {L M : Files} (hn : L.Nodup) (hs : ∀ p ∈ L, p ∈ M) : total L ≤ total M := by
  induction L generalizing M with
  | nil => exact Nat.zero_le _
  | cons p L ih =>
    obtain ⟨h1, h2⟩ := List.nodup_cons.1 hn
    obtain ⟨s, t, rfl⟩ := List.append_of_mem (hs p (by simp))
    have := ih (M := s ++ t) h2 (fun q hq => by
      have := hs q (by simp [hq])
      simp only [List.mem_append, List.mem_cons] at this ⊢
      rcases this with h | rfl | h
      · exact .inl h
      · exact absurd hq h1
      · exact .inr h)
    rw [total_append] at this ⊢
    unfold total at *
    simp only [List.map_cons, List.sum_cons]
    omega
section
variable {w : World} {d m : Nat} {s : DSt}
set_option maxRecDepth 100000 in
set_option maxHeartbeats 4000000 in
theorem others_calls (x : Str) (w : World) (h : DiskAt w d m s) (hok : DOk s) : Calls Try.prog 114 #[.pointer (some ⟨d, 0, none⟩), encStr x] w fun e w' => e = .returned (.int .i64 (total (adel s.L x) : Int)) ∧ Chg (fun _ => False) w w' := by
  obtain ⟨L, room, left, down⟩ := s
  have hm := h.map
  have c0 : w.cell? ⟨d, 0, none⟩ = some (.map (some m)) := h.blk.cell 0
  have htot := hok.tot
  have hr1 := hok.room1
  simp only at hm htot hr1
  have HT := hideIt (show total L ≤ 65536 by omega)
  clear h hok htot hr1
  go_enter Try.func114, Try.ntmps114
  go_wp2_with (at_range; refine wpList_range _ rfl _ 154 160 rfl Try.underlying154 rfl hm ?_; intro w0 hit0 hc0 hs0)
  go_frame

  go_loopw [5] (fun v wr => ∃ done : Files, IterIs encStr evF okS wr w.heap.size m L done ∧ v = .int .i64 (total (adel done x) : Int) ∧ Chg (fun _ => False) w wr ∧ w.heap.size < wr.heap.size) (fun _ wr => wr.rangeLeft m w.heap.size)
  case atStart => exact ⟨[], hit0, rfl, hc0, by omega⟩
  case round =>
    obtain ⟨done, hit, rfl, hch, hsz⟩ := hrel
    go_wp2_with (at_next; refine wpList_nextm _ rfl _ rfl encS.inj rfl hit ?_ ?_)
    · intro hperm
      have H := hideIt (show total (adel done x) = total (adel L x) from total_perm (hperm.filter _))
      clear hperm
      go_wp2
      go_ret
      refine ⟨?_, hch⟩
      rw [H.out]
      rfl
    · intro k f w1 hq hnd hit1 hlt hc1 hs1 hen
      obtain ⟨A, n, c, sf, xs⟩ := f
      have hch1 : Chg (fun _ => False) w w1 := hch.trans' hc1 (fun i hi => .inr (by subst hi; exact Nat.le_refl _))
      have hsub := hit1.sub
      have hb1 : total (done ++ [(k, ⟨A, n, c, sf, xs⟩)]) ≤ 65536 := Nat.le_trans (total_sub hsub.1 hsub.2) HT.out
      have hb0 := total_adel_le (done ++ [(k, ⟨A, n, c, sf, xs⟩)]) x
      have k2 : Chg (fun _ => False) w1 (w1.alloc (.cells #[.slice A n c, .bool sf] 160)) := (Chg.refl _ w1).alloc _
      have hw : (w1.alloc (.cells #[.slice A n c, .bool sf] 160)).rangeLeft m w.heap.size = w1.rangeLeft m w.heap.size := rangeLeft_chg k2 hit1.map.lt hit1.rlt (fun h => h) (fun h => h)
      have HR := hideIt (show (w1.alloc (.cells #[.slice A n c, .bool sf] 160)).rangeLeft m w.heap.size < wr.rangeLeft m w.heap.size by rw [hw]; exact hlt)
      have HI := hideIt (hit1.chg k2 (fun h => h) (fun h => h))
      have HC := hideIt (hch1.trans k2)
      have hz4 : w.heap.size < (w1.alloc (.cells #[.slice A n c, .bool sf] 160)).heap.size := by simp; omega
      simp only [evF] at hen
      by_cases hk : k = x
      · have HE := hideIt (show adel (done ++ [(k, ⟨A, n, c, sf, xs⟩)]) x = adel done x by rw [adel_append]; unfold adel; simp [hk])
        have dk : (k == x) = true := by simpa using hk
        clear hw hit1 hlt hsub hb1 hb0 hch1 hc1 hk k2
        go_wp2
        go_roundw
        case rel => exact ⟨_, HI.out, by rw [HE.out], HC.out, hz4⟩
        case measure => exact HR.out
      · have HE := hideIt (show total (adel (done ++ [(k, ⟨A, n, c, sf, xs⟩)]) x) = total (adel done x) + n by rw [adel_append, total_append]; congr 1; unfold adel; simp [hk, total])
        have dk : (k == x) = false := by simpa using hk
        rw [HE.out] at hb0
        obtain ⟨td, htd⟩ : ∃ td, total (adel done x) = td := ⟨_, rfl⟩
        rw [htd] at hb0 HE ⊢
        have hwr : IntKind.i64.wrap ((td : Int) + (n : Int)) = (td : Int) + (n : Int) := IntWalk.i64_in _ (by omega)
        clear hw hit1 hlt hsub hb1 hb0 hch1 hc1 hk k2 htd
        go_wp2
        go_roundw
        case rel => exact ⟨_, HI.out, by rw [HE.out]; simp, HC.out, hz4⟩
        case measure => exact HR.out
end
end Go.Proofs.Ytgmekeeemimnpaa
