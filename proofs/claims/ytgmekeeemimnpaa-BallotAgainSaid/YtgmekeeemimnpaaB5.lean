/- BallotLate and BallotOnce, walked. -/
import Derived.Test.YtgmekeeemimnpaaB4
import Derived.Test.YtgmekeeemimnpaaQ6
import Derived.Test.YtgmekeeemimnpaaQGrows
namespace Go.Proofs.Ytgmekeeemimnpaa
open Go Go.Maps Go.MapKept Go.RowKit

theorem ackNow_on {e u : Int} {L : List (Int × Bool)} {f ep t : Int} (h : ¬ u < t) : ackNow (some (e, u, L)) f ep t = if e = ep then if grantB L f then if wonB (grantL L f) then (none, true) else (some (e, u, grantL L f), false) else (some (e, u, L), false) else (some (e, u, L), false) := by
  simp [ackNow, atNow, h]
theorem ackNow_past {e u : Int} {L : List (Int × Bool)} {f ep t : Int} (h : u < t) : ackNow (some (e, u, L)) f ep t = (some (e, u, L), false) := by
  simp [ackNow, atNow, h]
theorem ack_step {e u : Int} {L : List (Int × Bool)} {f t : Int} (h : ¬ u < t) (hw : wonB L = false) : ackNow (some (e, u, L)) f e t = if wonB (grantL L f) then (none, true) else (some (e, u, grantL L f), false) := by
  rw [ackNow_on h, if_pos rfl]
  cases hg : grantB L f with
  | true => rfl
  | false =>
    have : grantL L f = L := by
      unfold grantB at hg
      unfold grantL
      rw [if_neg (by simpa using hg)]
    rw [this, hw]
    rfl
theorem ints7 (w : World) : Ints (w.alloc (.cells #[.int .i64 7] 3)) (some ⟨w.heap.size, 0, none⟩) 1 [7] := by
  have hi := Ints.lit w 3 [7] (by intro x hx; exact okI_iff.2 (by simp at hx; omega))
  exact hi

set_option maxRecDepth 100000 in
set_option maxHeartbeats 4000000 in
theorem late_calls {to a ep o la : Int} (w : World) (_k0 : okI to) (_k1 : okI a) (_k2 : okI ep) (_k3 : okI o) (_k4 : okI la) :
    Calls Try.prog 10 #[.int .i64 to, .int .i64 a, .int .i64 ep, .int .i64 o, .int .i64 la] w fun e w' => e = .returned (.bool true) ∧ Below w.heap.size w w' := by
  have HA := hideIt (anchor15 w)
  by_cases h0 : 2 ≤ to ∧ to ≤ 1073741824
  · obtain ⟨h01, h02⟩ := h0
    have HN := hideIt (fun W (hc : Chg (fun _ => False) w W) => ballNew to w W hc h01 h02)
    by_cases h1 : (0 ≤ a ∧ a ≤ 549755813888) ∧ (1 ≤ ep ∧ ep ≤ 281474976710656) ∧ o ≠ ep ∧ (1 ≤ la ∧ la ≤ 549755813888)
    · obtain ⟨⟨a1, a2⟩, ⟨e1, e2⟩, ho, ⟨l1, l2⟩⟩ := h1
      have hoe : (o == ep) = false := by simpa using ho
      have k7 : okI 7 := okI_iff.2 (by omega)
      have k8 : okI 8 := okI_iff.2 (by omega)
      have S1 : Hid (standB [7] ep a = true) := hideIt (by
        have : timeB a = true := by simp only [timeB, decide_eq_true_eq]; omega
        simp only [standB, this, Bool.and_true, Bool.and_eq_true, decide_eq_true_eq]
        exact ⟨by decide, e1, e2⟩)
      have S2 : Hid (standB [7] ep (a + 2 * to) = true) := hideIt (by
        have : timeB (a + 2 * to) = true := by simp only [timeB, decide_eq_true_eq]; omega
        simp only [standB, this, Bool.and_true, Bool.and_eq_true, decide_eq_true_eq]
        exact ⟨by decide, e1, e2⟩)
      have S3 : Hid (standB [] ep a = true) := hideIt (by
        have : timeB a = true := by simp only [timeB, decide_eq_true_eq]; omega
        simp only [standB, this, Bool.and_true, Bool.and_eq_true, decide_eq_true_eq]
        exact ⟨by decide, e1, e2⟩)
      have S4 : Hid (standB [] ep (a + 2 * to + 1) = true) := hideIt (by
        have : timeB (a + 2 * to + 1) = true := by simp only [timeB, decide_eq_true_eq]; omega
        simp only [standB, this, Bool.and_true, Bool.and_eq_true, decide_eq_true_eq]
        exact ⟨by decide, e1, e2⟩)
      have N2 : Hid ((atNow (some (ep, a + 2 * to, fresh [7])) (a + 2 * to)).isSome = true) := hideIt (by simp [atNow])
      have N4 : Hid ((atNow (some (ep, a + 2 * to, fresh [])) (a + 2 * to + 1)).isSome = false) := hideIt (by simp only [atNow, Option.bind_some]; rw [if_pos (by omega)]; rfl)
      have A1 : Hid (ackNow (some (ep, a + 2 * to, fresh [7])) 7 o a = (some (ep, a + 2 * to, fresh [7]), false)) := hideIt (by rw [ackNow_on (by omega), if_neg (fun h => ho h.symm)])
      have A2 : Hid (ackNow (some (ep, a + 2 * to, fresh [7])) 7 ep (a + 2 * to + la) = (some (ep, a + 2 * to, fresh [7]), false)) := hideIt (ackNow_past (by omega))
      have A3 : Hid (ackNow (some (ep, a + 2 * to, fresh [7])) 8 ep a = (some (ep, a + 2 * to, fresh [7]), false)) := hideIt (by rw [ackNow_on (by omega), if_pos rfl, show grantB (fresh [7]) 8 = false from by decide]; rfl)
      have A4 : Hid (ackNow (some (ep, a + 2 * to, fresh [7])) 7 ep (a + 2 * to) = (none, true)) := hideIt (by rw [ackNow_on (by omega), if_pos rfl, show grantB (fresh [7]) 7 = true from by decide, if_pos rfl, show wonB (grantL (fresh [7]) 7) = true from by decide]; rfl)
      have A5 : Hid (ackNow (some (ep, a + 2 * to + 1 + 2 * to, fresh [])) 7 ep (a + 2 * to + 1) = (some (ep, a + 2 * to + 1 + 2 * to, fresh []), false)) := hideIt (by rw [ackNow_on (by omega), if_pos rfl, show grantB (fresh []) 7 = false from by decide]; rfl)
      clear ho
      go_enter Try.func10, Try.ntmps10
      go_wp2_with fail
      refine HA.out.mono ?_
      rintro e w1 ⟨rfl, c1⟩
      go_wp2_with fail
      refine (HN.out w1 c1).mono ?_
      rintro e w2 ⟨b, rfl, b2⟩
      have b2' := b2.chg ((Chg.refl _ w2).alloc (.cells #[.int .i64 7] 3))
      have HS := hideIt (b2'.stand (n := 1) (c := 1) ep a (ints7 w2) S1.out rfl)
      go_wp2_with fail
      refine HS.out.mono ?_
      rintro e w3 ⟨rfl, b3⟩
      have b3' := b3.chg ((Chg.refl _ w3).alloc (.cells #[.int .i64 7] 3))
      have HS := hideIt (b3'.busy (n := 1) (c := 1) ep (a + 2 * to) (ints7 w3) S2.out N2.out)
      go_wp2_with fail
      refine HS.out.mono ?_
      rintro e w4 ⟨rfl, b4⟩
      go_wp2_with fail
      refine (b4.ack 7 o a k7 _ false A1.out).mono ?_
      rintro e w5 ⟨rfl, b5⟩
      go_wp2_with fail
      refine (b5.ack 7 ep (a + 2 * to + la) k7 _ false A2.out).mono ?_
      rintro e w6 ⟨rfl, b6⟩
      go_wp2_with fail
      refine (b6.ack 8 ep a k8 _ false A3.out).mono ?_
      rintro e w7 ⟨rfl, b7⟩
      go_wp2_with fail
      refine (b7.ack 7 ep (a + 2 * to) k7 _ true A4.out).mono ?_
      rintro e w8 ⟨rfl, b8⟩
      go_wp2_with fail
      refine (b8.stand (n := 0) (c := 0) ep a (Ints.nil w8) S3.out rfl).mono ?_
      rintro e w9 ⟨rfl, b9⟩
      go_wp2_with fail
      refine (b9.stand (n := 0) (c := 0) ep (a + 2 * to + 1) (Ints.nil w9) S4.out N4.out).mono ?_
      rintro e w10 ⟨rfl, b10⟩
      go_wp2_with fail
      refine (b10.ack 7 ep (a + 2 * to + 1) k7 _ false A5.out).mono ?_
      rintro e w11 ⟨rfl, b11⟩
      go_wp2_with fail
      go_ret
      exact ⟨rfl, b11.2.none_below⟩
    · by_cases q0 : a < 0
      · clear h1
        go_enter Try.func10, Try.ntmps10
        go_wp2_with (first
          | (go_at_call 42; refine HA.out.mono ?_; rintro e w1 ⟨rfl, c1⟩)
          | (go_at_call 43; refine (HN.out w1 c1).mono ?_; rintro e w2 ⟨b, rfl, b2⟩))
        go_ret
        exact ⟨rfl, b2.2.none_below⟩
      by_cases q1 : 549755813888 < a
      · clear h1
        go_enter Try.func10, Try.ntmps10
        go_wp2_with (first
          | (go_at_call 42; refine HA.out.mono ?_; rintro e w1 ⟨rfl, c1⟩)
          | (go_at_call 43; refine (HN.out w1 c1).mono ?_; rintro e w2 ⟨b, rfl, b2⟩))
        go_ret
        exact ⟨rfl, b2.2.none_below⟩
      by_cases q2 : ep < 1
      · clear h1
        go_enter Try.func10, Try.ntmps10
        go_wp2_with (first
          | (go_at_call 42; refine HA.out.mono ?_; rintro e w1 ⟨rfl, c1⟩)
          | (go_at_call 43; refine (HN.out w1 c1).mono ?_; rintro e w2 ⟨b, rfl, b2⟩))
        go_ret
        exact ⟨rfl, b2.2.none_below⟩
      by_cases q3 : 281474976710656 < ep
      · clear h1
        go_enter Try.func10, Try.ntmps10
        go_wp2_with (first
          | (go_at_call 42; refine HA.out.mono ?_; rintro e w1 ⟨rfl, c1⟩)
          | (go_at_call 43; refine (HN.out w1 c1).mono ?_; rintro e w2 ⟨b, rfl, b2⟩))
        go_ret
        exact ⟨rfl, b2.2.none_below⟩
      by_cases q4 : o = ep
      · have qq : (o == ep) = true := by simpa using q4
        clear h1 q4
        go_enter Try.func10, Try.ntmps10
        go_wp2_with (first
          | (go_at_call 42; refine HA.out.mono ?_; rintro e w1 ⟨rfl, c1⟩)
          | (go_at_call 43; refine (HN.out w1 c1).mono ?_; rintro e w2 ⟨b, rfl, b2⟩))
        go_ret
        exact ⟨rfl, b2.2.none_below⟩
      have qq : (o == ep) = false := by simpa using q4
      by_cases q5 : la < 1
      · clear h1
        go_enter Try.func10, Try.ntmps10
        go_wp2_with (first
          | (go_at_call 42; refine HA.out.mono ?_; rintro e w1 ⟨rfl, c1⟩)
          | (go_at_call 43; refine (HN.out w1 c1).mono ?_; rintro e w2 ⟨b, rfl, b2⟩))
        go_ret
        exact ⟨rfl, b2.2.none_below⟩
      have q6 : 549755813888 < la := by omega
      clear h1 q4
      go_enter Try.func10, Try.ntmps10
      go_wp2_with (first
        | (go_at_call 42; refine HA.out.mono ?_; rintro e w1 ⟨rfl, c1⟩)
        | (go_at_call 43; refine (HN.out w1 c1).mono ?_; rintro e w2 ⟨b, rfl, b2⟩))
      go_ret
      exact ⟨rfl, b2.2.none_below⟩
  · have HN := hideIt (fun W => ballotNew_no to W h0)
    clear h0
    go_enter Try.func10, Try.ntmps10
    go_wp2_with (first
      | (go_at_call 42; refine HA.out.mono ?_; rintro e w1 ⟨rfl, c1⟩)
      | (go_at_call 43; refine (HN.out _).mono ?_; rintro e w2 ⟨rfl, rfl⟩))
    go_ret
    exact ⟨rfl, c1.none_below⟩

/-- Where a stand of k votes stands: not won yet, or won once. -/
def OnceAt (vs fs : List Int) (ep : Int) (k : Nat) (W : Int) (now : Option StandSt) : Prop :=
  (W = 0 ∧ now = some (ep, 0 + 2 * 2, grants (fresh vs) (fs.take k)) ∧ wonB (grants (fresh vs) (fs.take k)) = false) ∨ (W = 1 ∧ now = none ∧ majB vs (fs.take k) = true)

set_option maxRecDepth 100000 in
set_option maxHeartbeats 4000000 in
theorem once_calls {A B : Option Addr} {n m c d : Nat} {vs fs : List Int} {ep : Int} (w : World) (hv : Ints w A n vs ∧ n ≤ c ∧ c ≤ maxLen) (hy : Ints w B m fs ∧ m ≤ d ∧ d ≤ maxLen) (_k : okI ep) :
    Calls Try.prog 11 #[.slice A n c, .slice B m d, .int .i64 ep] w fun e w' => e = .returned (.bool true) ∧ Below w.heap.size w w' := by
  have HA := hideIt (anchor15 w)
  obtain ⟨hv, hnc, hcm⟩ := hv
  obtain ⟨hy, hmd, hdm⟩ := hy
  have hlv := hv.len
  have hly := hy.len
  unfold maxLen at hcm hdm
  have HN := hideIt (fun W (hc : Chg (fun _ => False) w W) => ballNew 2 w W hc (by omega) (by omega))
  by_cases h1 : 100 < n
  · go_enter Try.func11, Try.ntmps11
    go_wp2_with (first
      | (go_at_call 42; refine HA.out.mono ?_; rintro e w1 ⟨rfl, c1⟩)
      | (go_at_call 43; refine (HN.out w1 c1).mono ?_; rintro e w2 ⟨b, rfl, b2⟩))
    go_ret
    exact ⟨rfl, b2.2.none_below⟩
  by_cases h2 : 200 < m
  · go_enter Try.func11, Try.ntmps11
    go_wp2_with (first
      | (go_at_call 42; refine HA.out.mono ?_; rintro e w1 ⟨rfl, c1⟩)
      | (go_at_call 43; refine (HN.out w1 c1).mono ?_; rintro e w2 ⟨b, rfl, b2⟩))
    go_ret
    exact ⟨rfl, b2.2.none_below⟩
  cases hs : standB vs ep 0 with
  | false =>
    have HS := hideIt hs
    clear hs hlv hly
    go_enter Try.func11, Try.ntmps11
    go_wp2_with (first
      | (go_at_call 42; refine HA.out.mono ?_; rintro e w1 ⟨rfl, c1⟩)
      | (go_at_call 43; refine (HN.out w1 c1).mono ?_; rintro e w2 ⟨b, rfl, b2⟩)
      | (go_at_call 44; refine (b2.bad ep 0 (hv.new b2.2) (by omega) HS.out).mono ?_; rintro e w3 ⟨rfl, b3⟩))
    go_ret
    exact ⟨rfl, b3.2.none_below⟩
  | true =>
    have HR : Hid (rightB vs = true) := hideIt (by unfold standB at hs; simp only [Bool.and_eq_true] at hs; exact hs.1)
    have HS := hideIt hs
    have HLV := hideIt hlv
    have HLY := hideIt hly
    have HCT := hideIt (fun (W : World) (k : Nat) (hk : k ≤ d) => run_cut_to Try.underlying25 sizeInt W B m d k hk)
    clear hs hlv hly
    go_enter Try.func11, Try.ntmps11
    go_wp2_with fail
    refine HA.out.mono ?_
    rintro e w1 ⟨rfl, c1⟩
    go_wp2_with fail
    refine (HN.out w1 c1).mono ?_
    rintro e w2 ⟨b, rfl, b2⟩
    go_wp2_with fail
    refine (b2.stand ep 0 (hv.new b2.2) HS.out rfl).mono ?_
    rintro e w3 ⟨rfl, b3⟩
    go_wp2_with fail
    go_loopw [9, 39] (fun ws i wr => ∃ (k : Nat) (W : Int) (now : Option StandSt), k ≤ m ∧ i = .int .i64 k ∧ ws = .int .i64 W ∧ BallB w wr b 2 now [] ∧ OnceAt vs fs ep k W now) (fun _ i _ => m - (intOf i).toNat)
    case atStart =>
      refine ⟨0, 0, _, Nat.zero_le _, rfl, rfl, b3, .inl ⟨rfl, rfl, ?_⟩⟩
      show wonB (fresh vs) = false
      unfold wonB
      rw [yes_fresh]
      simp
    case round =>
      obtain ⟨k, W, now, hk, rfl, rfl, hb, ho⟩ := hrel
      have HO := hideIt ho
      clear ho
      by_cases hlt : k < m
      · obtain ⟨p, off, rfl, hbl, hcell⟩ := hy.at_ (by omega)
        have hx : wr.cell? ⟨p, off + k, none⟩ = some (.int .i64 (fs.getD k 0)) := (hb.2.cell (p := ⟨p, off + k, none⟩) hbl (fun h => h)).trans (hcell k hlt)
        have hok : okI (fs.getD k 0) := hy.ok _ (getD_mem (by rw [HLY.out]; exact hlt))
        obtain ⟨x, hX⟩ : ∃ x, fs.getD k 0 = x := ⟨_, rfl⟩
        rw [hX] at hx hok
        have HX := hideIt (take_succ_getD fs k (by rw [HLY.out]; exact hlt))
        rw [hX] at HX
        clear hX hcell
        rcases HO.out with ⟨h3, h4, h5⟩ | ⟨h3, h4, h5⟩
        · have ha := ack_step (e := ep) (u := 0 + 2 * 2) (f := x) (t := 0) (by omega) h5
          rw [← h4, ← grants_snoc, ← HX.out] at ha
          subst h3
          have H4 := hideIt h4
          clear h4
          cases hw : wonB (grants (fresh vs) (fs.take (k + 1))) with
          | false =>
            rw [hw] at ha
            have HA2 := hideIt ha
            have HW := hideIt hw
            clear ha hw h5
            go_wp2_with (go_at_call 45; refine (hb.ack x ep 0 hok _ false HA2.out).mono ?_; rintro e w5 ⟨rfl, b5⟩)
            go_roundw
            case rel => exact ⟨k + 1, 0, _, by omega, by go_num, rfl, b5, .inl ⟨rfl, rfl, HW.out⟩⟩
            case measure => simp [intOf]; omega
          | true =>
            rw [hw] at ha
            have HA2 := hideIt ha
            have HM : Hid (majB vs (fs.take (k + 1)) = true) := hideIt (by unfold majB; rw [HR.out, hw]; rfl)
            clear ha hw h5
            go_wp2_with (first
              | (go_at_call 45; refine (hb.ack x ep 0 hok _ true HA2.out).mono ?_; rintro e w5 ⟨rfl, b5⟩; have hcut : (Instr.slice 25 (.slice (some ⟨p, off, none⟩) m d) none (some (.int .i64 ((k : Int) + 1))) none).run Try.prog w5 = .ok (.slice (some ⟨p, off, none⟩) (k + 1) d) w5 := HCT.out w5 (k + 1) (by omega))
              | (go_at_call 37; refine (maj_as A (some ⟨p, off, none⟩) n (k + 1) c d vs (fs.take (k + 1)) w5 (hv.new b5.2) ((hy.new b5.2).take (by omega)) (by omega) (by omega) true HM.out).mono ?_; rintro e w6 ⟨rfl, c6⟩))
            go_roundw
            case rel => exact ⟨k + 1, 0 + 1, _, by omega, by go_num, rfl, b5.chg c6, .inr ⟨rfl, rfl, HM.out⟩⟩
            case measure => simp [intOf]; omega
        · subst h3
          have H4 := hideIt h4
          have HM : Hid (majB vs (fs.take (k + 1)) = true) := hideIt (by
            rw [HX.out]
            rw [majB_iff] at h5 ⊢
            have := cnt_mono (vs := vs) (ys := fs.take k) (zs := fs.take k ++ [x]) (fun y hy => List.mem_append_left _ hy)
            exact ⟨h5.1, by omega⟩)
          have HA2 : Hid (ackNow now x ep 0 = (none, false)) := hideIt (by rw [h4]; rfl)
          clear h4 h5
          go_wp2_with (go_at_call 45; refine (hb.ack x ep 0 hok _ false HA2.out).mono ?_; rintro e w5 ⟨rfl, b5⟩)
          go_roundw
          case rel => exact ⟨k + 1, 1, _, by omega, by go_num, rfl, b5, .inr ⟨rfl, rfl, HM.out⟩⟩
          case measure => simp [intOf]; omega
      · obtain rfl : k = m := by omega
        have ht : fs.take k = fs := by rw [← HLY.out, List.take_length]
        rcases HO.out with ⟨h3, h4, h5⟩ | ⟨h3, h4, h5⟩
        · subst h3
          rw [ht] at h5
          have HM := hideIt (maj_as A B n k c d vs fs wr (hv.new hb.2) (hy.new hb.2) (by omega) (by omega) false (by unfold majB; rw [HR.out, h5]; rfl))
          clear h4 h5 ht
          go_wp2_with (go_at_call 37; refine HM.out.mono ?_; rintro e w6 ⟨rfl, c6⟩)
          go_ret
          exact ⟨rfl, (hb.2.trans c6).none_below⟩
        · subst h3
          rw [ht] at h5
          have HM := hideIt (maj_as A B n k c d vs fs wr (hv.new hb.2) (hy.new hb.2) (by omega) (by omega) true h5)
          clear h4 h5 ht
          go_wp2_with (go_at_call 37; refine HM.out.mono ?_; rintro e w6 ⟨rfl, c6⟩)
          go_ret
          exact ⟨rfl, (hb.2.trans c6).none_below⟩
end Go.Proofs.Ytgmekeeemimnpaa
