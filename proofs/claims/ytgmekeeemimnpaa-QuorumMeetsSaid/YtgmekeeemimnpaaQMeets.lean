/- QuorumMeets and QuorumMissing, walked. -/
import Derived.Test.YtgmekeeemimnpaaQP
import Derived.Test.YtgmekeeemimnpaaQ5
namespace Go.Proofs.Ytgmekeeemimnpaa
open Go Go.Maps Go.MapKept Go.RowKit

set_option maxHeartbeats 1000000 in
theorem meets_calls {A B C : Option Addr} {n m l c d e : Nat} {vs a b : List Int} (w : World) (hv : Ints w A n vs ∧ n ≤ c ∧ c ≤ maxLen) (ha : Ints w B m a ∧ m ≤ d ∧ d ≤ maxLen) (hb : Ints w C l b ∧ l ≤ e ∧ e ≤ maxLen) :
    Calls Try.prog 5 #[.slice A n c, .slice B m d, .slice C l e] w fun r w' => r = .returned (.bool true) ∧ Below w.heap.size w w' := by
  have HA := hideIt (anchor04 w)
  obtain ⟨hv, hnc, hcm⟩ := hv
  obtain ⟨ha, hmd, hdm⟩ := ha
  obtain ⟨hb, hle, hem⟩ := hb
  unfold maxLen at hcm hdm hem
  by_cases h1 : 16 < n
  · go_enter Try.func5, Try.ntmps5
    go_wp2_with (go_at_call 31; refine HA.out.mono ?_; rintro r w1 ⟨rfl, c1⟩)
    go_ret
    exact ⟨rfl, c1.none_below⟩
  by_cases h2 : 60 < m
  · go_enter Try.func5, Try.ntmps5
    go_wp2_with (go_at_call 31; refine HA.out.mono ?_; rintro r w1 ⟨rfl, c1⟩)
    go_ret
    exact ⟨rfl, c1.none_below⟩
  by_cases h3 : 60 < l
  · go_enter Try.func5, Try.ntmps5
    go_wp2_with (go_at_call 31; refine HA.out.mono ?_; rintro r w1 ⟨rfl, c1⟩)
    go_ret
    exact ⟨rfl, c1.none_below⟩
  have M : ∀ W, Chg (fun _ => False) w W → Calls Try.prog 37 #[.slice A n c, .slice B m d] W _ := fun W hW => maj_calls A B n m c d vs a W (hv.new hW) (ha.new hW) (by omega) (by omega)
  have M' : ∀ W, Chg (fun _ => False) w W → Calls Try.prog 37 #[.slice A n c, .slice C l e] W _ := fun W hW => maj_calls A C n l c e vs b W (hv.new hW) (hb.new hW) (by omega) (by omega)
  have HM := hideIt M
  have HM' := hideIt M'
  clear M M'
  cases e1 : majB vs a with
  | false =>
    rw [e1] at HM
    go_enter Try.func5, Try.ntmps5
    go_wp2_with fail
    refine HA.out.mono ?_
    rintro r w1 ⟨rfl, c1⟩
    go_wp2_with fail
    refine (HM.out w1 c1).mono ?_
    rintro r w2 ⟨rfl, c2⟩
    go_wp2_with fail
    go_ret
    exact ⟨rfl, (c1.trans c2).none_below⟩
  | true =>
    cases e2 : majB vs b with
    | false =>
      rw [e1] at HM
      rw [e2] at HM'
      go_enter Try.func5, Try.ntmps5
      go_wp2_with fail
      refine HA.out.mono ?_
      rintro r w1 ⟨rfl, c1⟩
      go_wp2_with fail
      refine (HM.out w1 c1).mono ?_
      rintro r w2 ⟨rfl, c2⟩
      go_wp2_with fail
      refine (HM'.out w2 (c1.trans c2)).mono ?_
      rintro r w3 ⟨rfl, c3⟩
      go_wp2_with fail
      go_ret
      exact ⟨rfl, ((c1.trans c2).trans c3).none_below⟩
    | true =>
      have HX := hideIt (meet (majB_iff.1 e1).2 (majB_iff.1 e2).2)
      rw [e1] at HM
      rw [e2] at HM'
      clear e1 e2
      have hlen := hv.len
      go_enter Try.func5, Try.ntmps5
      go_wp2_with fail
      refine HA.out.mono ?_
      rintro r w1 ⟨rfl, c1⟩
      go_wp2_with fail
      refine (HM.out w1 c1).mono ?_
      rintro r w2 ⟨rfl, c2⟩
      go_wp2_with fail
      refine (HM'.out w2 (c1.trans c2)).mono ?_
      rintro r w3 ⟨rfl, c3⟩
      have c4 := (c1.trans c2).trans c3
      go_wp2_with fail
      go_loop [36] (fun i => ∃ k : Nat, k ≤ n ∧ i = .int .i64 k ∧ ∀ x ∈ vs.take k, ¬ (x ∈ a ∧ x ∈ b)) (fun i => n - (intOf i).toNat)
      case atStart => exact ⟨0, Nat.zero_le _, rfl, by simp⟩
      case round =>
        obtain ⟨k, hk, rfl, hnot⟩ := hrel
        have HN := hideIt hnot
        clear hnot
        by_cases hlt : k < n
        · obtain ⟨p, off, rfl, hbl, hcell⟩ := (hv.new c4).at_ (by omega)
          have hx : w3.cell? ⟨p, off + k, none⟩ = some (.int .i64 (vs.getD k 0)) := hcell k hlt
          obtain ⟨x, hX⟩ : ∃ x, vs.getD k 0 = x := ⟨_, rfl⟩
          rw [hX] at hx
          have HX' := hideIt hX
          have HC1 := hideIt (has_calls B m d a x w3 (ha.new c4) (by omega))
          have HC2 := hideIt (has_calls C l e b x w3 (hb.new c4) (by omega))
          clear hX hcell
          by_cases k1 : x ∈ a
          · rw [show decide (x ∈ a) = true from by simpa using k1] at HC1
            by_cases k2 : x ∈ b
            · rw [show decide (x ∈ b) = true from by simpa using k2] at HC2
              clear k1 k2
              go_wp2_with fail
              refine HC1.out.mono ?_
              rintro r w4 ⟨rfl, rfl⟩
              go_wp2_with fail
              refine HC2.out.mono ?_
              rintro r w5 ⟨rfl, rfl⟩
              go_wp2_with fail
              go_ret
              exact ⟨rfl, c4.none_below⟩
            · rw [show decide (x ∈ b) = false from by simpa using k2] at HC2
              have K2 := hideIt k2
              clear k1 k2
              go_wp2_with fail
              refine HC1.out.mono ?_
              rintro r w4 ⟨rfl, rfl⟩
              go_wp2_with fail
              refine HC2.out.mono ?_
              rintro r w5 ⟨rfl, rfl⟩
              go_wp2_with fail
              go_round
              case rel => exact ⟨k + 1, by omega, by go_num, by
                rw [take_succ_getD vs k (by omega), HX'.out]
                intro y hy
                rcases List.mem_append.1 hy with hy | hy
                · exact HN.out y hy
                · simp only [List.mem_singleton] at hy; subst hy; exact fun h => K2.out h.2⟩
              case measure => simp [intOf]; omega
          · rw [show decide (x ∈ a) = false from by simpa using k1] at HC1
            have K1 := hideIt k1
            clear k1
            go_wp2_with fail
            refine HC1.out.mono ?_
            rintro r w4 ⟨rfl, rfl⟩
            go_wp2_with fail
            go_round
            case rel => exact ⟨k + 1, by omega, by go_num, by
                rw [take_succ_getD vs k (by omega), HX'.out]
                intro y hy
                rcases List.mem_append.1 hy with hy | hy
                · exact HN.out y hy
                · simp only [List.mem_singleton] at hy; subst hy; exact fun h => K1.out h.1⟩
            case measure => simp [intOf]; omega
        · exfalso
          obtain rfl : k = n := by omega
          obtain ⟨x, hx, hx2⟩ := HX.out
          rw [← hlen, List.take_length] at HN
          exact HN.out x hx hx2
end Go.Proofs.Ytgmekeeemimnpaa
