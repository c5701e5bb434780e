/- BallotAgain, walked. (Printed by wip/gen/bagain.py.) -/
import Derived.Test.YtgmekeeemimnpaaB5
import Derived.Test.YtgmekeeemimnpaaBV
import Derived.Test.YtgmekeeemimnpaaQTallies
import Derived.Deep.QuietTactic
import Derived.BigQuiet
namespace Go.Proofs.Ytgmekeeemimnpaa
open Go Go.Maps Go.MapKept Go.RowKit

/-- A stand of two and more isn't won by one vote, however often. -/
theorem again_acks {vs : List Int} {x n a : Int} (hx : x ∈ vs) (hr : rightB vs = true) (h2 : 2 ≤ vs.length) :
    ackNow (some (n, a + 2 * 2, fresh vs)) x n a = (some (n, a + 2 * 2, grantL (fresh vs) x), false) ∧ ackNow (some (n, a + 2 * 2, grantL (fresh vs) x)) x n a = (some (n, a + 2 * 2, grantL (fresh vs) x), false) ∧ (grantL (fresh vs) x).length = vs.length := by
  have hn : vs.Nodup := by unfold rightB at hr; exact (of_decide_eq_true hr).1
  have e1 : grantL (fresh vs) x = grants (fresh vs) [x] := rfl
  have hc : cnt vs [x] ≤ 1 := by
    rw [gots_cnt hn]
    obtain ⟨h1, h3⟩ := gots_mem vs [x]
    cases hg : gots vs [x] with
    | nil => simp
    | cons y l =>
      cases l with
      | nil => simp
      | cons z l =>
        rw [hg] at h1 h3
        have hy := (h1 y).1 (by simp)
        have hz := (h1 z).1 (by simp)
        simp only [List.mem_singleton] at hy hz
        simp [hy.2, hz.2] at h3
  have w0 : wonB (fresh vs) = false := by unfold wonB; rw [yes_fresh]; simp
  have w1 : wonB (grantL (fresh vs) x) = false := by rw [e1, wonB_grants]; simp; omega
  have e2 : grantL (grantL (fresh vs) x) x = grantL (fresh vs) x := by
    have : aget (grantL (fresh vs) x) x ≠ some false := by
      rw [e1, grants_fresh, aget_map]
      split <;> simp
    rw [show grantL (grantL (fresh vs) x) x = if aget (grantL (fresh vs) x) x = some false then aput (grantL (fresh vs) x) x true else grantL (fresh vs) x from rfl, if_neg this]
  refine ⟨?_, ?_, ?_⟩
  · rw [ack_step (by omega) w0, w1]; rfl
  · rw [ack_step (by omega) w1, e2, w1]; rfl
  · rw [e1, length_grants]
theorem standing_on {e u t : Int} {L : List (Int × Bool)} (h : ¬ u < t) : standingV (some (e, u, L)) t = .tuple #[.int .i64 e, .bool true] := by simp [standingV, atNow, h]
theorem standB_right {vs : List Int} {e t : Int} (h : standB vs e t = true) : rightB vs = true := by
  unfold standB at h; simp only [Bool.and_eq_true] at h; exact h.1

set_option maxRecDepth 100000 in
set_option maxHeartbeats 8000000 in
theorem again_calls {A B : Option Addr} {n m c d : Nat} {vs es : List Int} (w : World) (hv : Ints w A n vs ∧ n ≤ c ∧ c ≤ maxLen) (hy : Ints w B m es ∧ m ≤ d ∧ d ≤ maxLen) :
    Calls Try.prog 24 #[.slice A n c, .slice B m d] w fun e w' => e = .returned (.bool true) ∧ Below w.heap.size w w' := by
  have HA := hideIt (anchor15 w)
  obtain ⟨hv, hnc, hcm⟩ := hv
  obtain ⟨hy, hmd, hdm⟩ := hy
  have hlv := hv.len
  have hly := hy.len
  unfold maxLen at hcm hdm
  have HN := hideIt (fun W (hc : Chg (fun _ => False) w W) => ballNew 2 w W hc (by omega) (by omega))
  by_cases q0 : n < 2
  · go_enter Try.func24, Try.ntmps24
    go_wp2_with (first
      | (go_at_call 42; refine HA.out.mono ?_; rintro e w1 ⟨rfl, c1⟩)
      | (go_at_call 43; refine (HN.out w1 c1).mono ?_; rintro e w2 ⟨b, rfl, b2⟩))
    go_ret
    exact ⟨rfl, b2.2.none_below⟩
  by_cases q1 : 16 < n
  · go_enter Try.func24, Try.ntmps24
    go_wp2_with (first
      | (go_at_call 42; refine HA.out.mono ?_; rintro e w1 ⟨rfl, c1⟩)
      | (go_at_call 43; refine (HN.out w1 c1).mono ?_; rintro e w2 ⟨b, rfl, b2⟩))
    go_ret
    exact ⟨rfl, b2.2.none_below⟩
  by_cases q2 : 30 < m
  · go_enter Try.func24, Try.ntmps24
    go_wp2_with (first
      | (go_at_call 42; refine HA.out.mono ?_; rintro e w1 ⟨rfl, c1⟩)
      | (go_at_call 43; refine (HN.out w1 c1).mono ?_; rintro e w2 ⟨b, rfl, b2⟩))
    go_ret
    exact ⟨rfl, b2.2.none_below⟩
  have HLV := hideIt hlv
  have HLY := hideIt hly
  clear hlv hly
  obtain ⟨pv, ov, rfl, hbv, hcv⟩ := hv.at_ (by omega)
  have hv0 := hcv 0 (by omega)
  have hov : okI (vs.getD 0 0) := hv.ok _ (getD_mem (by rw [HLV.out]; omega))
  have HMV := hideIt (getD_mem (xs := vs) (k := 0) (by rw [HLV.out]; omega))
  rw [Nat.add_zero] at hv0
  obtain ⟨v0, hV0⟩ : ∃ v0, vs.getD 0 0 = v0 := ⟨_, rfl⟩
  rw [hV0] at hv0 hov HMV
  have HV0 := hideIt hv0
  clear hV0 hcv hv0
  go_enter Try.func24, Try.ntmps24
  go_wp2_with fail
  refine HA.out.mono ?_
  rintro e w1 ⟨rfl, c1⟩
  go_wp2_with fail
  refine (HN.out w1 c1).mono ?_
  rintro e w2 ⟨b, rfl, b2⟩
  go_wp2_with fail
  go_loopw [40] (fun i wr => ∃ (k : Nat) (now : Option StandSt), k ≤ m ∧ i = .int .i64 k ∧ BallB w wr b 2 now [] ∧ ∀ e u L, now = some (e, u, L) → u < 10 * (k : Int)) (fun i _ => m - (intOf i).toNat)
  case atStart => exact ⟨0, none, Nat.zero_le _, rfl, b2, fun e u L h => by cases h⟩
  case round =>
    obtain ⟨k, now, hk, rfl, hb, ho⟩ := hrel
    by_cases hlt : k < m
    · obtain ⟨p, off, rfl, hbl, hcell⟩ := hy.at_ (by omega)
      have hx : wr.cell? ⟨p, off + k, none⟩ = some (.int .i64 (es.getD k 0)) := (hb.2.cell (p := ⟨p, off + k, none⟩) hbl (fun h => h)).trans (hcell k hlt)
      have hok : okI (es.getD k 0) := hy.ok _ (getD_mem (by rw [HLY.out]; exact hlt))
      obtain ⟨x, hX⟩ : ∃ x, es.getD k 0 = x := ⟨_, rfl⟩
      rw [hX] at hx hok
      have HCELL := hideIt hcell
      have HOK := hideIt hy.ok
      clear hX hcell
      have HNB : Hid ((atNow now (10 * (k : Int))).isSome = false) := hideIt (by
        cases now with
        | none => rfl
        | some y => obtain ⟨e, u, L⟩ := y; have := ho e u L rfl; simp [atNow, this])
      clear ho
      cases hs : standB vs x (10 * (k : Int)) with
      | false =>
        have HS := hideIt hs
        clear hs
        go_wp2_with (go_at_call 44; refine (hb.bad x (10 * (k : Int)) (hv.new hb.2) (by omega) HS.out).mono ?_; rintro e w3 ⟨rfl, b3⟩)
        go_ret
        exact ⟨rfl, b3.2.none_below⟩
      | true =>
        have HS := hideIt hs
        have HAK := hideIt (again_acks (n := x) (a := 10 * (k : Int)) HMV.out (standB_right hs) (by rw [HLV.out]; omega))
        clear hs
        go_wp2_with fail
        refine (hb.stand x (10 * (k : Int)) (hv.new hb.2) HS.out HNB.out).mono ?_
        rintro e w3 ⟨rfl, b3⟩
        go_wp2_with fail
        go_loopw [54] (fun i ws => ∃ (j : Nat), j ≤ k ∧ i = .int .i64 j ∧ BallB w ws b 2 (some (x, 10 * (k : Int) + 2 * 2, fresh vs)) []) (fun i _ => k - (intOf i).toNat)
        case atStart => exact ⟨0, Nat.zero_le _, rfl, b3⟩
        case round =>
          obtain ⟨j, hj, rfl, hb4⟩ := hrel
          have g0 : wr.cell? ⟨pv, ov, none⟩ = some (.int .i64 v0) := (hb4.2.cell (p := ⟨pv, ov, none⟩) hbv (fun h => h)).trans HV0.out
          by_cases hlt2 : j < k
          · have g1 : wr.cell? ⟨p, off + j, none⟩ = some (.int .i64 (es.getD j 0)) := (hb4.2.cell (p := ⟨p, off + j, none⟩) hbl (fun h => h)).trans (HCELL.out j (by omega))
            obtain ⟨y, hY⟩ : ∃ y, es.getD j 0 = y := ⟨_, rfl⟩
            rw [hY] at g1
            clear hY
            by_cases hne : y = x
            · subst hne
              have hd : (y != y) = false := by simp
              go_wp2
              go_quiet (fail)
              go_wp2
              go_roundw
              case rel => exact ⟨j + 1, by omega, by go_num, hb4.chg ((Chg.refl _ _).drewN _)⟩
              case measure => simp [intOf]; omega
            · have hd : (y != x) = true := by simpa using hne
              have HO : Hid (∀ N, Calls Try.prog 45 #[.pointer (some ⟨b, 0, none⟩), .int .i64 v0, .int .i64 y, .int .i64 (10 * (k : Int))] (wr.drewN N) fun e w' => e = .returned (.bool false) ∧ w' = wr.drewN N) := hideIt (fun N => ((hb4.chg ((Chg.refl _ _).drewN N)).other v0 y (10 * (k : Int)) (by omega) (fun h => hne h.symm)).mono fun _ _ h => ⟨h.1, h.2.symm⟩)
              clear hne
              go_wp2
              go_quiet ((go_at_call 45; exact Calls.quiet_of_same (HO.out _)))
              go_wp2
              go_roundw
              case rel => exact ⟨j + 1, by omega, by go_num, hb4.chg ((Chg.refl _ _).drewN _)⟩
              case measure => simp [intOf]; omega
          · obtain rfl : j = k := by omega
            go_wp2_with (first
              | (go_at_call 45; refine (hb4.ack v0 x (10 * (j : Int)) hov _ false HAK.out.1).mono ?_; rintro e w5 ⟨rfl, b5⟩; clear hb4; have g5 : w5.cell? ⟨pv, ov, none⟩ = some (.int .i64 v0) := (b5.2.cell (p := ⟨pv, ov, none⟩) hbv (fun h => h)).trans HV0.out)
              | (go_at_call 45; refine (b5.ack v0 x (10 * (j : Int)) hov _ false HAK.out.2.1).mono ?_; rintro e w6 ⟨rfl, b6⟩; clear b5)
              | (go_at_call 73; refine (b6.standing (10 * (j : Int)) (.tuple #[.int .i64 x, .bool true]) (standing_on (by omega))).mono ?_; rintro e w7 ⟨rfl, rfl⟩)
              | (go_at_call 74; refine b6.voters.mono ?_; rintro e w8 ⟨A8, n8, c8, rfl, h8, -, b8, -⟩; have e8 : n8 = n := h8.trans (by simp only [standers, List.length_map]; rw [HAK.out.2.2, HLV.out]); clear h8; subst e8))
            go_roundw
            case rel => exact ⟨j + 1, _, by omega, by go_num, b8, fun e u L h => by cases h; omega⟩
            case measure => simp [intOf]; omega
    · obtain rfl : k = m := by omega
      go_wp2
      go_ret
      exact ⟨rfl, hb.2.none_below⟩
end Go.Proofs.Ytgmekeeemimnpaa
