/- The quorum's Majority; the statements' own has, right and anchor, walked. -/
import Derived.Test.YtgmekeeemimnpaaQ3
namespace Go.Proofs.Ytgmekeeemimnpaa
open Go Go.Maps Go.MapKept Go.RowKit

/-- Who has granted behind many grants. -/
def grants (L : List (Int × Bool)) (ys : List Int) : List (Int × Bool) := ys.foldl grantL L
theorem grants_snoc (L : List (Int × Bool)) (ys : List Int) (y : Int) : grants L (ys ++ [y]) = grantL (grants L ys) y := by simp [grants]
def majB (vs ys : List Int) : Bool := rightB vs && wonB (grants (fresh vs) ys)

set_option maxHeartbeats 400000 in
theorem maj_no (A B : Option Addr) (n m c d : Nat) (vs ys : List Int) (w : World) (h : Ints w A n vs) (hn : n ≤ 17592186043904) (hr : rightB vs = false) : Calls Try.prog 37 #[.slice A n c, .slice B m d] w fun e w' =>
    e = .returned (.bool (majB vs ys)) ∧ Chg (fun _ => False) w w' := by
  have HC := hideIt (new_no A n c vs w h hn hr)
  have HM : Hid (majB vs ys = false) := hideIt (by unfold majB; rw [hr]; rfl)
  clear hr
  go_enter Try.func37, Try.ntmps37
  go_wp2_with (go_at_call 33; refine HC.out.mono ?_; rintro e w1 ⟨rfl, hc1⟩)
  go_ret
  exact ⟨ret_bool HM.out.symm, hc1⟩

set_option maxHeartbeats 1000000 in
theorem maj_yes (A B : Option Addr) (n m c d : Nat) (vs ys : List Int) (w : World) (h : Ints w A n vs) (hy : Ints w B m ys) (hm : m ≤ 17592186043904) (hr : rightB vs = true) : Calls Try.prog 37 #[.slice A n c, .slice B m d] w fun e w' =>
    e = .returned (.bool (majB vs ys)) ∧ Chg (fun _ => False) w w' := by
  have HC := hideIt (new_yes A n c vs w h hr)
  have HM : Hid (majB vs ys = wonB (grants (fresh vs) ys)) := hideIt (by unfold majB; rw [hr]; rfl)
  clear hr
  go_enter Try.func37, Try.ntmps37
  go_wp2_with (go_at_call 33; refine HC.out.mono ?_; rintro e w1 ⟨p, q, rfl, hp, hq, ht, hc1⟩)
  go_loopw [18] (fun i wr => ∃ k : Nat, k ≤ m ∧ i = .int .i64 k ∧ TallyAt wr p q (grants (fresh vs) (ys.take k)) ∧ Chg (fun _ => False) w wr) (fun i _ => m - (intOf i).toNat)
  case atStart => exact ⟨0, Nat.zero_le _, rfl, ht, hc1⟩
  case round =>
    obtain ⟨k, hk, rfl, ht, hc⟩ := hrel
    have hlen := hy.len
    by_cases hlt : k < m
    · obtain ⟨b, off, rfl, hbl, hcell⟩ := hy.at_ (by omega)
      have hx : wr.cell? ⟨b, off + k, none⟩ = some (.int .i64 (ys.getD k 0)) := (hc.cell (p := ⟨b, off + k, none⟩) hbl (fun h => h)).trans (hcell k hlt)
      have hok : okI (ys.getD k 0) := hy.ok _ (getD_mem (by omega))
      obtain ⟨x, hX⟩ : ∃ x, ys.getD k 0 = x := ⟨_, rfl⟩
      rw [hX] at hx hok
      have HX := hideIt hX
      clear hX hcell
      go_wp2_with (go_at_call 34; refine (grant_calls p q _ x _ ht hok).mono ?_; rintro e w2 ⟨rfl, ht2, hc2, hs2⟩; clear hs2)
      go_roundw
      case rel => exact ⟨k + 1, by omega, by go_num, by rw [take_succ_getD ys k (by omega), HX.out, grants_snoc]; exact ht2, hc.trans' hc2 (fun i hi => .inr (by rcases hi with rfl | rfl <;> assumption))⟩
      case measure => simp [intOf]; omega
    · obtain rfl : k = m := by omega
      rw [← hlen, List.take_length] at ht
      have HT := hideIt (won_calls p q _ wr ht)
      go_wp2_with (go_at_call 35; refine HT.out.mono ?_; rintro e w2 ⟨rfl, nq, rfl⟩)
      go_ret
      exact ⟨ret_bool HM.out.symm, hc.drewN _⟩

theorem maj_calls (A B : Option Addr) (n m c d : Nat) (vs ys : List Int) (w : World) (h : Ints w A n vs) (hy : Ints w B m ys) (hn : n ≤ 17592186043904) (hm : m ≤ 17592186043904) : Calls Try.prog 37 #[.slice A n c, .slice B m d] w fun e w' =>
    e = .returned (.bool (majB vs ys)) ∧ Chg (fun _ => False) w w' := by
  cases hr : rightB vs with
  | false => exact maj_no A B n m c d vs ys w h hn hr
  | true => exact maj_yes A B n m c d vs ys w h hy hm hr

set_option maxHeartbeats 400000 in
theorem has_calls (A : Option Addr) (n c : Nat) (xs : List Int) (x : Int) (w : World) (h : Ints w A n xs) (hn : n ≤ 17592186043904) : Calls Try.prog 38 #[.slice A n c, .int .i64 x] w fun e w' =>
    e = .returned (.bool (decide (x ∈ xs))) ∧ w = w' := by
  have hlen := h.len
  go_enter Try.func38, Try.ntmps38
  go_wp2
  go_loop [9] (fun i => ∃ k : Nat, k ≤ n ∧ i = .int .i64 k ∧ x ∉ xs.take k) (fun i => n - (intOf i).toNat)
  case atStart => exact ⟨0, Nat.zero_le _, rfl, by simp⟩
  case round =>
    obtain ⟨k, hk, rfl, hnot⟩ := hrel
    by_cases hlt : k < n
    · obtain ⟨b, off, rfl, hbl, hcell⟩ := h.at_ (by omega)
      have hx : w.cell? ⟨b, off + k, none⟩ = some (.int .i64 (xs.getD k 0)) := hcell k hlt
      obtain ⟨y, hY⟩ : ∃ y, xs.getD k 0 = y := ⟨_, rfl⟩
      rw [hY] at hx
      have HY := hideIt hY
      have HN := hideIt hnot
      clear hY hcell hnot
      by_cases he : (x == y) = true
      · go_wp2
        go_ret
        have : x ∈ xs := by
          have h1 : x = y := by simpa using he
          rw [h1, ← HY.out]; exact getD_mem (by omega)
        exact ⟨ret_bool (by simp [this]), rfl⟩
      · have he' : (x == y) = false := by simpa using he
        clear he
        go_wp2
        go_round
        case rel => exact ⟨k + 1, by omega, by go_num, by
          rw [take_succ_getD xs k (by omega), HY.out]
          have : x ≠ y := by simpa using he'
          simp only [List.mem_append, List.mem_singleton, not_or]
          exact ⟨HN.out, this⟩⟩
        case measure => simp [intOf]; omega
    · obtain rfl : k = n := by omega
      rw [← hlen, List.take_length] at hnot
      have HN := hideIt hnot
      clear hnot
      go_wp2
      go_ret
      exact ⟨ret_bool (by simp [HN.out]), rfl⟩
end Go.Proofs.Ytgmekeeemimnpaa
