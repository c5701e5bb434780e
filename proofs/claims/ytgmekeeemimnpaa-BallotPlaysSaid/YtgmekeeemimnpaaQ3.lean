/- The quorum's New and Majority, walked. -/
import Derived.Test.YtgmekeeemimnpaaQ2
namespace Go.Proofs.Ytgmekeeemimnpaa
open Go Go.Maps Go.MapKept Go.RowKit

def fresh (xs : List Int) : List (Int × Bool) := xs.map (fun x => (x, false))
theorem aput_fresh_not {xs : List Int} {x : Int} (h : x ∉ xs) : aput (fresh xs) x false = fresh (xs ++ [x]) := by
  unfold aput
  have : aget (fresh xs) x = none := aget_none_iff.2 fun p hp => by
    obtain ⟨y, hy, rfl⟩ := List.mem_map.1 hp
    exact fun e => h (e ▸ hy)
  rw [this]
  simp [fresh]
theorem yes_fresh (xs : List Int) : yes (fresh xs) = 0 := by
  simp [yes, fresh, List.filter_map, Function.comp_def]

theorem right_nodup {xs : List Int} (h : rightB xs = true) : xs.Nodup := (of_decide_eq_true h).1
theorem right_len {xs : List Int} (h : rightB xs = true) : xs.length ≤ 16 := (of_decide_eq_true h).2.2
theorem right_ok {xs : List Int} (h : rightB xs = true) {x : Int} (hx : x ∈ xs) : okI x := by
  have := (of_decide_eq_true h).2.1 x hx
  exact okI_iff.2 (by omega)

set_option maxHeartbeats 400000 in
theorem new_no (A : Option Addr) (n c : Nat) (xs : List Int) (w : World) (h : Ints w A n xs) (hn : n ≤ 17592186043904) (hr : rightB xs = false) : Calls Try.prog 33 #[.slice A n c] w fun e w' =>
    e = .returned (.tuple #[.pointer none, .int .i64 10]) ∧ Chg (fun _ => False) w w' := by
  have hc := right_calls A n c xs w h hn
  rw [hr] at hc
  have HC := hideIt hc
  clear hc hr
  go_enter Try.func33, Try.ntmps33
  go_wp2_with (go_at_call 41; refine HC.out.mono ?_; rintro e w1 ⟨rfl, hc1⟩)
  go_ret2
  exact ⟨rfl, hc1⟩

/-- What New answers where the voters are right. -/
def NewOk (w : World) (xs : List Int) (e : Ending) (w' : World) : Prop :=
  ∃ p m, e = .returned (.tuple #[.pointer (some ⟨p, 0, none⟩), .int .i64 0]) ∧ w.heap.size ≤ p ∧ w.heap.size ≤ m ∧ TallyAt w' p m (fresh xs) ∧ Chg (fun _ => False) w w'

set_option maxHeartbeats 1000000 in
theorem new_yes (A : Option Addr) (n c : Nat) (xs : List Int) (w : World) (h : Ints w A n xs) (hr : rightB xs = true) : Calls Try.prog 33 #[.slice A n c] w (NewOk w xs) := by
  have hlen := h.len
  have hn16 := right_len hr
  have hn : n ≤ 16 := by omega
  have hc := right_calls A n c xs w h (by omega)
  rw [hr] at hc
  have HC := hideIt hc
  have HR := hideIt hr
  clear hc hr
  have hmm := @run_makeMap Try.prog
  go_enter Try.func33, Try.ntmps33
  go_wp2_with (go_at_call 41; refine HC.out.mono ?_; rintro e w1 ⟨rfl, hc1⟩)
  go_loopw [15] (fun i wr => ∃ k : Nat, k ≤ n ∧ i = .int .i64 k ∧ MapIs (Value.int .i64) Value.bool okI wr w1.heap.size (fresh (xs.take k)) ∧ Blk wr (w1.heap.size + 1) 118 #[.map (some w1.heap.size), .int .i64 0] ∧ Chg (fun _ => False) w wr) (fun i _ => n - (intOf i).toNat)
  case atStart =>
    refine ⟨0, Nat.zero_le _, rfl, (MapIs.made w1).alloc _, ?_, (hc1.alloc _).alloc _⟩
    have := Blk.new (w1.alloc (.map #[] 0)) 118 #[.map (some w1.heap.size), .int .i64 0]
    simpa using this
  case round =>
    obtain ⟨k, hk, rfl, hm, hb, hc⟩ := hrel
    have c0 : wr.cell? ⟨w1.heap.size + 1, 0, none⟩ = some (.map (some w1.heap.size)) := hb.cell 0
    by_cases hlt : k < n
    · obtain ⟨b, off, rfl, hbl, hcell⟩ := h.at_ (by omega)
      have hx : wr.cell? ⟨b, off + k, none⟩ = some (.int .i64 (xs.getD k 0)) := (hc.cell (p := ⟨b, off + k, none⟩) hbl (fun h => h)).trans (hcell k hlt)
      obtain ⟨x, hX⟩ : ∃ x, xs.getD k 0 = x := ⟨_, rfl⟩
      rw [hX] at hx
      have hok : okI x := right_ok HR.out (hX ▸ getD_mem (by omega))
      have hnot : x ∉ xs.take k := by
        have h1 : (xs.take (k + 1)).Nodup := (List.take_sublist _ _).nodup (right_nodup HR.out)
        rw [take_succ_getD xs k (by omega), List.nodup_append] at h1
        exact fun hm => h1.2.2 _ hm _ (by simp) hX.symm
      have HX := hideIt hX
      have HN := hideIt hnot
      clear hX hcell hnot
      go_wp2_with (at_mapUpdate; refine wpList_store _ rfl _ _ _ 116 rfl 4 encInt Try.underlying116 hm rfl x rfl hok false rfl ?_; intro w2 hm2 ht2)
      go_roundw
      case rel => exact ⟨k + 1, by omega, by go_num, by rw [take_succ_getD xs k (by omega), HX.out, ← aput_fresh_not HN.out]; exact hm2, hb.turned ht2, hc.map ht2 (.inr hc1.size)⟩
      case measure => simp [intOf]; omega
    · obtain rfl : k = n := by omega
      go_wp2
      go_ret2
      have hs := hc1.size
      refine ⟨w1.heap.size + 1, w1.heap.size, rfl, by omega, by omega, ?_, hc⟩
      rw [← hlen, List.take_length] at hm
      exact ⟨by rw [yes_fresh]; exact hb, hm, by simp [fresh]; omega⟩
end Go.Proofs.Ytgmekeeemimnpaa
