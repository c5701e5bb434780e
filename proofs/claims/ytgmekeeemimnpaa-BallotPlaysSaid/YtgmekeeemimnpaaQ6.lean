/- The statements' own 'right', and QuorumMissing, walked. -/
import Derived.Test.YtgmekeeemimnpaaQP
import Derived.Test.YtgmekeeemimnpaaQ5
namespace Go.Proofs.Ytgmekeeemimnpaa
open Go Go.Maps Go.MapKept Go.RowKit

theorem sizeInt (w : World) : (sizeOf 3).run Try.prog w = .ok 1 w := by kernel_rfl

theorem rightB_long {xs : List Int} (h : 16 < xs.length) : rightB xs = false := by
  unfold rightB
  rw [decide_eq_false_iff_not]
  exact fun h' => by have := h'.2.2; omega

set_option maxHeartbeats 1000000 in
theorem right04_calls (A : Option Addr) (n c : Nat) (xs : List Int) (w : World) (h : Ints w A n xs) (hnc : n ≤ c) : Calls Try.prog 39 #[.slice A n c] w fun e w' => e = .returned (.bool (rightB xs)) ∧ w = w' := by
  have hlen := h.len
  by_cases h16 : 16 < n
  · have HR := hideIt (rightB_long (xs := xs) (by omega))
    go_enter Try.func39, Try.ntmps39
    go_wp2
    go_ret
    exact ⟨ret_bool HR.out.symm, rfl⟩
  · have hct := fun (k : Nat) (hk : k ≤ c) => run_cut_to Try.underlying25 sizeInt w A n c k hk
    have HCT := hideIt hct
    clear hct
    go_enter Try.func39, Try.ntmps39
    go_wp2
    go_loop [10] (fun i => ∃ k : Nat, k ≤ n ∧ i = .int .i64 k ∧ goodTo xs k) (fun i => n - (intOf i).toNat)
    case atStart => exact ⟨0, Nat.zero_le _, rfl, by simp [goodTo]⟩
    case round =>
      obtain ⟨k, hk, rfl, hg⟩ := hrel
      by_cases hlt : k < n
      · have hI := h.take (Nat.le_of_lt hlt)
        have hcut := HCT.out k (by omega)
        have HH := hideIt (has_calls A k c (xs.take k) (xs.getD k 0) w hI (by omega))
        obtain ⟨b, off, rfl, hbl, hcell⟩ := h.at_ (by omega)
        have hx : w.cell? ⟨b, off + k, none⟩ = some (.int .i64 (xs.getD k 0)) := hcell k hlt
        obtain ⟨x, hX⟩ : ∃ x, xs.getD k 0 = x := ⟨_, rfl⟩
        rw [hX] at hx HH
        have HX := hideIt hX
        have HI := hideIt hI
        clear hX hcell hI
        by_cases h1 : x < 1
        · go_wp2
          go_ret
          exact ⟨ret_bool (rightB_low (k := k) (by omega) (by rw [HX.out]; omega)).symm, rfl⟩
        · by_cases h2 : 4294967296 < x
          · go_wp2
            go_ret
            exact ⟨ret_bool (rightB_low (k := k) (by omega) (by rw [HX.out]; omega)).symm, rfl⟩
          · by_cases h3 : x ∈ xs.take k
            · rw [show decide (x ∈ xs.take k) = true from by simpa using h3] at HH
              have H3 := hideIt h3
              clear h3
              go_wp2_with (go_at_call 38; refine HH.out.mono ?_; rintro r w1 ⟨rfl, rfl⟩)
              go_ret
              exact ⟨ret_bool (rightB_seen (k := k) (by omega) (by rw [HX.out]; exact H3.out)).symm, rfl⟩
            · rw [show decide (x ∈ xs.take k) = false from by simpa using h3] at HH
              have H3 := hideIt h3
              clear h3
              go_wp2_with (go_at_call 38; refine HH.out.mono ?_; rintro r w1 ⟨rfl, rfl⟩)
              go_round
              case rel => exact ⟨k + 1, by omega, by go_num, goodTo_succ (by omega) hg (by rw [HX.out]; omega) (by rw [HX.out]; omega) (by rw [HX.out]; exact H3.out)⟩
              case measure => simp [intOf]; omega
      · obtain rfl : k = n := by omega
        go_wp2
        go_ret
        exact ⟨ret_bool (by rw [rightB_end (by rw [hlen]; exact hg)]; simp; omega), rfl⟩

set_option maxRecDepth 100000 in
set_option maxHeartbeats 1000000 in
theorem missing_calls {A : Option Addr} {n c : Nat} {vs : List Int} {q : Int} (w : World) (hv : Ints w A n vs ∧ n ≤ c ∧ c ≤ maxLen) (hq : okI q) :
    Calls Try.prog 9 #[.slice A n c, .int .i64 q] w fun r w' => r = .returned (.bool true) ∧ Below w.heap.size w w' := by
  have HA := hideIt (anchor04 w)
  obtain ⟨hv, hnc, hcm⟩ := hv
  have hlen := hv.len
  have HR := hideIt (fun W (hW : Chg (fun _ => False) w W) => right04_calls A n c vs W (hv.new hW) hnc)
  unfold maxLen at hcm
  have hq' := okI_iff.1 hq
  clear hq
  obtain ⟨q1, q2⟩ := hq'
  cases hr : rightB vs with
  | false =>
    rw [hr] at HR
    clear hr
    go_enter Try.func9, Try.ntmps9
    go_wp2_with fail
    refine HA.out.mono ?_
    rintro r w1 ⟨rfl, c1⟩
    go_wp2_with fail
    refine (HR.out w1 c1).mono ?_
    rintro r w2 ⟨rfl, rfl⟩
    go_wp2_with fail
    go_ret
    exact ⟨rfl, c1.none_below⟩
  | true =>
    have hn16 := right_len hr
    rw [hr] at HR
    have HRV := hideIt hr
    clear hr
    by_cases h1 : q < 0
    · go_enter Try.func9, Try.ntmps9
      go_wp2_with fail
      refine HA.out.mono ?_
      rintro r w1 ⟨rfl, c1⟩
      go_wp2_with fail
      refine (HR.out w1 c1).mono ?_
      rintro r w2 ⟨rfl, rfl⟩
      go_wp2_with fail
      go_ret
      exact ⟨rfl, c1.none_below⟩
    · by_cases h2 : (n : Int) < q
      · go_enter Try.func9, Try.ntmps9
        go_wp2_with fail
        refine HA.out.mono ?_
        rintro r w1 ⟨rfl, c1⟩
        go_wp2_with fail
        refine (HR.out w1 c1).mono ?_
        rintro r w2 ⟨rfl, rfl⟩
        go_wp2_with fail
        go_ret
        exact ⟨rfl, c1.none_below⟩
      · obtain ⟨k, rfl⟩ : ∃ k : Nat, q = k := ⟨q.toNat, by omega⟩
        by_cases h3 : n = 0
        · have h3' : ((n : Int) == 0) = true := by simpa using h3
          clear h3
          go_enter Try.func9, Try.ntmps9
          go_wp2_with fail
          refine HA.out.mono ?_
          rintro r w1 ⟨rfl, c1⟩
          go_wp2_with fail
          refine (HR.out w1 c1).mono ?_
          rintro r w2 ⟨rfl, rfl⟩
          go_wp2_with fail
          go_ret
          exact ⟨rfl, c1.none_below⟩
        · have h3' : ((n : Int) == 0) = false := by simpa using h3
          have hkn : k ≤ n := by omega
          have HS := hideIt (fun W => run_cut_from Try.underlying25 sizeInt W A n c k hkn)
          have HM := hideIt (fun W (hW : Chg (fun _ => False) w W) => maj_calls A (cutA A c k) n (n - k) c (c - k) vs (vs.drop k) W (hv.new hW) ((hv.new hW).drop hkn hnc) (by omega) (by omega))
          have he : majB vs (vs.drop k) = decide (2 * (k : Int) < (n : Int)) := by
            rw [majB_eq, HRV.out, cnt_drop (right_nodup HRV.out), Bool.true_and, decide_eq_decide, hlen]
            omega
          rw [he] at HM
          clear h3 he
          go_enter Try.func9, Try.ntmps9
          go_wp2_with fail
          refine HA.out.mono ?_
          rintro r w1 ⟨rfl, c1⟩
          have hs1 := HS.out w1
          go_wp2_with fail
          refine (HR.out w1 c1).mono ?_
          rintro r w2 ⟨rfl, rfl⟩
          go_wp2_with fail
          refine (HM.out w1 c1).mono ?_
          rintro r w3 ⟨rfl, c3⟩
          go_wp2_with fail
          go_ret
          exact ⟨ret_bool (by simp), (c1.trans c3).none_below⟩
end Go.Proofs.Ytgmekeeemimnpaa
