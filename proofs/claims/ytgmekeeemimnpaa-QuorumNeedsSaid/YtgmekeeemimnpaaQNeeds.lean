/- QuorumNeeds: the need of any number is more than half of it, and the least that is: for every int. -/
import Derived.Test.YtgmekeeemimnpaaQ5
namespace Go.Proofs.Ytgmekeeemimnpaa
open Go Go.Maps Go.MapKept Go.RowKit

set_option maxHeartbeats 1000000 in
theorem needs_calls (n : Int) (w : World) (h : okI n) : Calls Try.prog 3 #[.int .i64 n] w fun e w' => e = .returned (.bool true) ∧ Below w.heap.size w w' := by
  have HA := hideIt (anchor04 w)
  have hb := okI_iff.1 h
  by_cases hn : n ≤ 0
  · have e1 : need n = 1 := by unfold need; omega
    have HN := hideIt (fun w => need_as n 1 w h e1)
    clear e1 h
    go_enter Try.func3, Try.ntmps3
    go_wp2_with fail
    refine HA.out.mono ?_
    rintro e w1 ⟨rfl, c1⟩
    go_wp2_with fail
    refine (HN.out _).mono ?_
    rintro e w2 ⟨rfl, rfl⟩
    go_wp2
    go_ret
    exact ⟨rfl, c1.none_below⟩
  · obtain ⟨k, hk⟩ : ∃ k, need n = k := ⟨_, rfl⟩
    have HN := hideIt (fun w => need_as n k w h hk)
    have k1 : k - 1 ≤ n - k + 1 := by unfold need at hk; omega
    have k2 : n - k < k := by unfold need at hk; omega
    have k3 : 1 ≤ k := by unfold need at hk; omega
    have k4 : k ≤ n := by unfold need at hk; omega
    clear hk h
    go_enter Try.func3, Try.ntmps3
    go_wp2_with fail
    refine HA.out.mono ?_
    rintro e w1 ⟨rfl, c1⟩
    go_wp2_with fail
    refine (HN.out _).mono ?_
    rintro e w2 ⟨rfl, rfl⟩
    go_wp2
    go_ret
    exact ⟨rfl, c1.none_below⟩
end Go.Proofs.Ytgmekeeemimnpaa
