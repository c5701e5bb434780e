/- The quorum's Right, New and Majority, walked. -/
import Derived.Test.YtgmekeeemimnpaaQ1
import Derived.LoopTactic
import Derived.Deep.LoopGhost
namespace Go.Proofs.Ytgmekeeemimnpaa
open Go Go.Maps Go.MapKept Go.RowKit

/-- Is it a set of voters? -/
def rightB (xs : List Int) : Bool := decide (xs.Nodup ∧ (∀ x ∈ xs, 1 ≤ x ∧ x ≤ 4294967296) ∧ xs.length ≤ 16)
/-- .. so far. -/
def goodTo (xs : List Int) (k : Nat) : Prop := (xs.take k).Nodup ∧ ∀ x ∈ xs.take k, 1 ≤ x ∧ x ≤ 4294967296

theorem goodTo_succ {xs : List Int} {k : Nat} (h : k < xs.length) (hg : goodTo xs k) (h1 : 1 ≤ xs.getD k 0) (h2 : xs.getD k 0 ≤ 4294967296) (h3 : xs.getD k 0 ∉ xs.take k) : goodTo xs (k + 1) := by
  unfold goodTo
  rw [take_succ_getD xs k h]
  refine ⟨?_, ?_⟩
  · rw [List.nodup_append]
    exact ⟨hg.1, by simp, fun a ha b hb => by simp only [List.mem_singleton] at hb; subst hb; exact fun e => h3 (e ▸ ha)⟩
  · intro x hx
    rcases List.mem_append.1 hx with hx | hx
    · exact hg.2 x hx
    · simp only [List.mem_singleton] at hx; subst hx; exact ⟨h1, h2⟩
theorem rightB_low {xs : List Int} {k : Nat} (h : k < xs.length) (h1 : ¬ (1 ≤ xs.getD k 0 ∧ xs.getD k 0 ≤ 4294967296)) : rightB xs = false := by
  unfold rightB
  rw [decide_eq_false_iff_not]
  exact fun h' => h1 (h'.2.1 _ (getD_mem h))
theorem rightB_seen {xs : List Int} {k : Nat} (h : k < xs.length) (h3 : xs.getD k 0 ∈ xs.take k) : rightB xs = false := by
  unfold rightB
  rw [decide_eq_false_iff_not]
  intro h'
  have h1 : (xs.take (k + 1)).Nodup := (List.take_sublist _ _).nodup h'.1
  rw [take_succ_getD xs k h, List.nodup_append] at h1
  exact h1.2.2 _ h3 _ (by simp) rfl
theorem rightB_end {xs : List Int} (hg : goodTo xs xs.length) : rightB xs = decide ((xs.length : Int) ≤ 16) := by
  unfold rightB goodTo at *
  rw [List.take_length] at hg
  rw [decide_eq_decide]
  exact ⟨fun h => by have := h.2.2; omega, fun h => ⟨hg.1, hg.2, by omega⟩⟩

def marks (xs : List Int) : List (Int × Bool) := xs.map (fun x => (x, true))
theorem aget_marks_mem {xs : List Int} {x : Int} (h : x ∈ xs) : aget (marks xs) x = some true := by
  cases ha : aget (marks xs) x with
  | none =>
    exact absurd rfl (aget_none_iff.1 ha (x, true) (List.mem_map.2 ⟨x, h, rfl⟩))
  | some v =>
    obtain ⟨y, _, hy⟩ := List.mem_map.1 (aget_some_mem ha)
    simp only [Prod.mk.injEq] at hy
    rw [hy.2]
theorem aget_marks_not {xs : List Int} {x : Int} (h : x ∉ xs) : aget (marks xs) x = none :=
  aget_none_iff.2 fun p hp => by
    obtain ⟨y, hy, rfl⟩ := List.mem_map.1 hp
    exact fun e => h (e ▸ hy)
theorem aput_marks_not {xs : List Int} {x : Int} (h : x ∉ xs) : aput (marks xs) x true = marks (xs ++ [x]) := by
  unfold aput
  rw [aget_marks_not h]
  simp [marks]

set_option maxHeartbeats 1000000 in
theorem right_calls (A : Option Addr) (n c : Nat) (xs : List Int) (w : World) (h : Ints w A n xs) (hn : n ≤ 17592186043904) : Calls Try.prog 41 #[.slice A n c] w fun e w' =>
    e = .returned (.bool (rightB xs)) ∧ Chg (fun _ => False) w w' := by
  have hmm := @run_makeMap Try.prog
  go_enter Try.func41, Try.ntmps41
  go_wp2
  go_loopw [9] (fun i wr => ∃ k : Nat, k ≤ n ∧ i = .int .i64 k ∧ MapIs (Value.int .i64) Value.bool okI wr w.heap.size (marks (xs.take k)) ∧ Chg (fun _ => False) w wr ∧ goodTo xs k) (fun i _ => n - (intOf i).toNat)
  case atStart => exact ⟨0, Nat.zero_le _, rfl, MapIs.made w, (Chg.refl _ _).alloc _, by simp [goodTo]⟩
  case round =>
    obtain ⟨k, hk, rfl, hm, hc, hg⟩ := hrel
    have hlen := h.len
    by_cases hlt : k < n
    · obtain ⟨b, off, rfl, hb, hcell⟩ := h.at_ (by omega)
      have hx : wr.cell? ⟨b, off + k, none⟩ = some (.int .i64 (xs.getD k 0)) := (hc.cell (p := ⟨b, off + k, none⟩) hb (fun h => h)).trans (hcell k hlt)
      obtain ⟨x, hX⟩ : ∃ x, xs.getD k 0 = x := ⟨_, rfl⟩
      rw [hX] at hx
      have HX := hideIt hX
      clear hX hcell
      by_cases h1 : x < 1
      · go_wp2
        go_ret
        exact ⟨ret_bool (rightB_low (k := k) (by omega) (by rw [HX.out]; omega)).symm, hc⟩
      · by_cases h2 : 4294967296 < x
        · go_wp2
          go_ret
          exact ⟨ret_bool (rightB_low (k := k) (by omega) (by rw [HX.out]; omega)).symm, hc⟩
        · have hok : okI x := okI_iff.2 (by omega)
          have hl := hm.look encInt Try.underlying116 (zeroBool wr) hok false
          by_cases h3 : x ∈ xs.take k
          · rw [aget_marks_mem h3] at hl
            simp only [Option.map_some, Option.getD_some, Bool.false_eq_true, if_false] at hl
            have H3 := hideIt h3
            clear h3
            go_wp2
            go_ret
            exact ⟨ret_bool (rightB_seen (k := k) (by omega) (by rw [HX.out]; exact H3.out)).symm, hc⟩
          · rw [aget_marks_not h3] at hl
            simp only [Option.map_none, Option.getD_none, Bool.false_eq_true, if_false] at hl
            have H3 := hideIt h3
            clear h3
            go_wp2_with (at_mapUpdate; refine wpList_store _ rfl _ _ _ 116 rfl 4 encInt Try.underlying116 hm rfl x rfl hok true rfl ?_; intro w1 hm1 ht1)
            go_roundw
            case rel => exact ⟨k + 1, by omega, by go_num, by rw [take_succ_getD xs k (by omega), HX.out, ← aput_marks_not H3.out]; exact hm1, hc.map ht1 (.inr (Nat.le_refl _)), goodTo_succ (by omega) hg (by rw [HX.out]; omega) (by rw [HX.out]; omega) (by rw [HX.out]; exact H3.out)⟩
            case measure => simp [intOf]; omega
    · obtain rfl : k = n := by omega
      go_wp2
      go_ret
      exact ⟨ret_bool (by rw [rightB_end (by rw [hlen]; exact hg), hlen]), hc⟩
end Go.Proofs.Ytgmekeeemimnpaa
