/- ClaimsOwners, walked. -/
import Derived.Test.YtgmekeeemimnpaaDoorCOwn2
import Derived.Test.YtgmekeeemimnpaaDoorCDrops
namespace Go.Proofs.YtgmekeeemimnpaaDoor
open Go Go.Maps Go.MapKept Go.RowKit Go.Lib

/-- The slots of nobody and of some ids. -/
def allN (f : Nat → Int) (ys : List Int) : Nat := mask (fun i => f i == 0 || decide (f i ∈ ys)) 64
theorem allN_lt {f : Nat → Int} {ys : List Int} : allN f ys < 2 ^ 64 := mask_lt _ _
theorem allN_bit {f : Nat → Int} {ys : List Int} {i : Nat} (hi : i < 64) : (allN f ys).testBit i = (f i == 0 || decide (f i ∈ ys)) := by
  unfold allN; rw [mask_bit]; simp [hi]
theorem allN_nil {f : Nat → Int} : ofN f 0 = allN f [] := bits_eq (ofN_lt _ _) allN_lt fun i hi => by rw [ofN_bit hi, allN_bit hi]; simp
theorem allN_snoc {f : Nat → Int} {ys : List Int} {o : Int} : (allN f ys ||| ofN f o) = allN f (ys ++ [o]) := by
  refine bits_eq (Nat.or_lt_two_pow allN_lt (ofN_lt _ _)) allN_lt fun i hi => ?_
  rw [Nat.testBit_or, allN_bit hi, allN_bit hi, ofN_bit hi]
  by_cases h1 : f i = o <;> by_cases h2 : f i ∈ ys <;> by_cases h3 : f i = 0 <;> simp [h1, h2, h3] <;> simp_all
theorem allN_and {f : Nat → Int} {ys : List Int} {o : Int} (h0 : o ≠ 0) (ho : o ∉ ys) : (allN f ys &&& ofN f o) = 0 := by
  refine bits_eq (Nat.lt_of_le_of_lt Nat.and_le_right (ofN_lt _ _)) (by decide) fun i hi => ?_
  rw [Nat.testBit_and, allN_bit hi, ofN_bit hi]
  by_cases h1 : f i = o
  · rw [h1]; simp [h0, ho]
  · simp [h1]
theorem allN_all {f : Nat → Int} {xs : List Int} (h : IsOw f xs) : allN f xs = 18446744073709551615 := by
  refine bits_eq allN_lt (by decide) fun i hi => ?_
  rw [allN_bit hi]
  have h1 : (18446744073709551615 : Nat).testBit i = true := by
    have := Nat.testBit_two_pow_sub_one 64 i
    rw [show (18446744073709551615 : Nat) = 2 ^ 64 - 1 by decide, this]
    simpa using hi
  rw [h1]
  by_cases h0 : f i = 0
  · simp [h0]
  · have : f i ∈ xs := (h.2 _).2 ⟨h0, i, hi, rfl⟩
    simp [this]
/-- The one before. -/
def lst (xs : List Int) (k : Nat) : Int := if k = 0 then 0 else xs.getD (k - 1) 0

set_option maxRecDepth 100000 in
set_option maxHeartbeats 16000000 in
theorem owners_law_calls (w : World) (hTW : TabW w) (f : Nat → Int) :
    Calls Tryd.prog 11 #[.agg (tcs f)] w fun e w' => e = .returned (.bool true) ∧ Chg (fun _ => False) w w' := by
  have S0 := S1.start w hTW f
  obtain ⟨wB, hwB⟩ : ∃ wB, wB = w.alloc (.cells (tcs f) 24) := ⟨_, rfl⟩
  rw [← hwB] at S0
  have HB := hideIt hwB
  clear hwB hTW
  have tokA : True := trivial
  have tokD : True := trivial
  obtain ⟨r1, h1⟩ : ∃ r, rightT f = r := ⟨_, rfl⟩
  cases r1 with
  | false =>
    go_enter Tryd.func11, Tryd.ntmps11
    go_wp2_with (first
      | (have _t := tokA; go_at_call 12; rw [← HB.out]; refine (anchor_calls wB S0.tw).mono ?_; rintro e wa ⟨rfl, ka⟩; clear tokA _t; have Sa := hideIt (S0.step ka); clear ka S0 HB)
      | (refine wpList_loadv _ rfl 24 _ rfl rfl Sa.out.tf.load ?_)
      | (go_at_call 13; refine (lawright wa f _ h1).mono ?_; rintro e w1 ⟨rfl, k1⟩))
    go_ret
    exact ⟨rfl, (Sa.out.step k1).chg⟩
  | true =>
    obtain ⟨xs, hxs⟩ : ∃ xs, ((compact (srt (ownL f))).filter fun x => !(x == 0)) = xs := ⟨_, rfl⟩
    have how := ow_is f
    rw [hxs] at how
    have HOW := hideIt how
    have HOS := hideIt (fun W : World => owners_calls W f)
    rw [hxs] at HOS
    have hpos : ∀ x ∈ xs, 1 ≤ x ∧ x ≤ 4294967296 := fun x hx => by
      obtain ⟨h0, i, hi, rfl⟩ := (how.2 x).1 hx
      have h2 := rightT_iff.1 h1 i hi
      unfold ok1 at h2
      simp only [Bool.and_eq_true, decide_eq_true_eq] at h2
      omega
    have HPOS := hideIt hpos
    have HOZ := hideIt (fun W : World => of_calls W f 0)
    rw [allN_nil] at HOZ
    clear hxs how hpos
    go_enter Tryd.func11, Tryd.ntmps11
    go_wp2_with (first
      | (have _t := tokA; go_at_call 12; rw [← HB.out]; refine (anchor_calls wB S0.tw).mono ?_; rintro e wa ⟨rfl, ka⟩; clear tokA _t; have Sa := hideIt (S0.step ka); clear ka S0 HB)
      | (have _t := tokD; refine wpList_loadv _ rfl 24 _ rfl rfl Sa.out.tf.load ?_; clear tokD _t)
      | (go_at_call 13; refine (lawright wa f _ h1).mono ?_; rintro e w1 ⟨rfl, k1⟩; have Sx1 := hideIt (Sa.out.step k1); clear k1; have tokE : True := trivial)
      | (have _t := tokE; refine wpList_loadv _ rfl 24 _ rfl rfl Sx1.out.tf.load ?_; clear tokE _t)
      | (go_at_call 17; refine (HOZ.out w1).mono ?_; rintro e w2 ⟨rfl, k2⟩; have Sx2 := hideIt (Sx1.out.step k2); clear k2)
      | (refine wpList_loadv _ rfl 24 _ rfl rfl Sx2.out.tf.load ?_)
      | (go_at_call 25; refine (HOS.out w2).mono ?_; rintro e w3 ⟨A, n, c, rfl, ho, hn, hn64, k3⟩; have Sx3 := hideIt (Sx2.out.step k3); have HN := hideIt hn; have HI3 := hideIt (ho.ints (fun x hx => okI_iff.2 (by have := HPOS.out x hx; omega)) rfl); clear k3 ho hn))
    go_loopw [3, 4, 20] (fun al la i wr => ∃ k : Nat, k ≤ n ∧ i = .int .i64 k ∧ la = .int .i64 (lst xs k) ∧ al = .int .u64 ((allN f (xs.take k) : Nat) : Int) ∧ Chg (fun _ => False) w3 wr) (fun _ _ i _ => n - (intOf i).toNat)
    case atStart => exact ⟨0, by omega, rfl, rfl, rfl, Chg.refl _ _⟩
    case round =>
      obtain ⟨k, hk, rfl, rfl, rfl, hc⟩ := hrel
      by_cases hlt : k < n
      · obtain ⟨b, off, rfl, hbl, hcell⟩ := (HI3.out.new hc).at_ (by omega)
        have hx := hcell k hlt
        have hkl : k < xs.length := by rw [HN.out]; exact hlt
        have hmem : xs.getD k 0 ∈ xs := getD_mem hkl
        have htk := take_succ_getD xs k hkl
        obtain ⟨o, hO⟩ : ∃ o, xs.getD k 0 = o := ⟨_, rfl⟩
        have hlast : lst xs k < o := by
          have hp := HPOS.out _ hmem
          unfold lst
          by_cases h0 : k = 0
          · rw [if_pos h0]; omega
          · rw [if_neg h0, ← hO, getD_get xs k hkl, getD_get xs (k - 1) (by omega)]
            exact List.pairwise_iff_getElem.1 HOW.out.1 (k - 1) k (by omega) hkl (by omega)
        have hnot : o ∉ xs.take k := fun hm => by
          obtain ⟨j, hj, e⟩ := List.mem_iff_getElem.1 hm
          rw [List.length_take] at hj
          rw [List.getElem_take] at e
          have := List.pairwise_iff_getElem.1 HOW.out.1 j k (by omega) hkl (by omega)
          rw [getD_get xs k hkl] at hO
          omega
        rw [hO] at hx hmem htk
        have hop := HPOS.out _ hmem
        obtain ⟨la, hla⟩ : ∃ la, lst xs k = la := ⟨_, rfl⟩
        rw [hla] at hlast
        rw [hla]
        obtain ⟨a, ha⟩ : ∃ a, allN f (xs.take k) = a := ⟨_, rfl⟩
        have hal : a < 2 ^ 64 := by rw [← ha]; exact allN_lt
        rw [ha]
        obtain ⟨s, hs⟩ : ∃ s, ofN f o = s := ⟨_, rfl⟩
        have hsl : s < 2 ^ 64 := by rw [← hs]; exact ofN_lt _ _
        have hs0 : s ≠ 0 := by
          obtain ⟨_, i, hi, e⟩ := (HOW.out.2 o).1 hmem
          intro h
          have hb := ofN_bit (f := f) (id := o) hi
          rw [hs, h, e] at hb
          simp at hb
        have hand : bits .and .u64 (a : Int) (s : Int) = 0 := by
          rw [u64_and_nat _ _ hal hsl, ← ha, ← hs, allN_and (by omega) hnot]; rfl
        obtain ⟨a2, ha2⟩ : ∃ a2, allN f (xs.take (k + 1)) = a2 := ⟨_, rfl⟩
        have hor : bits .or .u64 (a : Int) (s : Int) = (a2 : Int) := by
          rw [u64_or_nat _ _ hal hsl, ← ha2, htk, ← allN_snoc, ha, hs]
        have d1 : decide (o ≤ la) = false := by simp; omega
        have d2 : ((s : Int) == 0) = false := by simp; omega
        have HA2 := hideIt ha2
        have HLS : Hid (lst xs (k + 1) = o) := hideIt (by unfold lst; rw [if_neg (by omega), Nat.add_sub_cancel]; exact hO)
        have HOF := hideIt (fun W : World => of_calls W f o)
        rw [hs] at HOF
        have HSB : Hid (∀ i, i < 64 → s.testBit i = true → f i = o) := hideIt (fun i hi hb => by
          rw [← hs, ofN_bit hi] at hb
          simpa using hb)
        have Sr := hideIt (Sx3.out.step hc)
        have KC := hideIt hc
        clear hcell hkl hmem htk hO hlast hnot hop hla ha hs hs0 ha2 hc
        go_wp2_with (first
          | (refine wpList_loadv _ rfl 24 _ rfl rfl Sr.out.tf.load ?_)
          | (go_at_call 17; refine (HOF.out _).mono ?_; rintro e w5 ⟨rfl, k5⟩; have S5 := hideIt (Sr.out.step k5); have K5 := hideIt (KC.out.trans k5); clear k5)
          | (go_at_call 18; refine (list_calls w5 S5.out.tw s hsl).mono ?_; rintro e w6 hlist; obtain ⟨A6, n6, c6, rfl, hints, -, hlen, k6⟩ := hlist.get; have S6 := hideIt (S5.out.step k6); have K6 := hideIt (K5.out.trans k6); have HI6 := hideIt hints; have HL6 := hideIt hlen; have hn6 : n6 ≤ 64 := (by rw [← hlen]; exact slots_len s); clear hlist hints hlen k6))
        go_loopw [43] (fun i wr => ∃ j : Nat, j ≤ n6 ∧ i = .int .i64 j ∧ w6 = wr) (fun i _ => n6 - (intOf i).toNat)
        case atStart => exact ⟨0, by omega, rfl, rfl⟩
        case round =>
          obtain ⟨j, hj, rfl, rfl⟩ := hrel
          by_cases hj6 : j < n6
          · obtain ⟨b6, off6, rfl, hbl6, hcell6⟩ := HI6.out.at_ (by omega)
            have hx6 := hcell6 j hj6
            have hkl6 : j < (slotsOf s).length := by rw [HL6.out]; exact hj6
            have hget : (slotsI s).getD j 0 = (((slotsOf s)[j] : Nat) : Int) := by simp [slotsI, List.getD, hkl6]
            obtain ⟨hi64, hib⟩ := mem_slots.1 (List.getElem_mem hkl6)
            rw [hget] at hx6
            obtain ⟨i, hI⟩ : ∃ i, (slotsOf s)[j] = i := ⟨_, rfl⟩
            rw [hI] at hx6 hi64 hib
            have hco := S6.out.tf.cell (show i < 128 by omega)
            rw [HSB.out i hi64 hib] at hco
            clear hcell6 hget hI hkl6 hib
            go_wp2
            go_roundw
            case rel => exact ⟨j + 1, by omega, by go_num, by first | rfl | trivial⟩
            case measure => simp [intOf]; omega
          · obtain rfl : j = n6 := by omega
            go_wp2
            go_roundw
            case rel => exact ⟨k + 1, by omega, by go_num, by rw [HLS.out], by rw [HA2.out], K6.out⟩
            case measure => simp [intOf]; omega
      · obtain rfl : k = n := by omega
        have hall : xs.take k = xs := by rw [← HN.out, List.take_length]
        have HAL := hideIt (allN_all HOW.out)
        rw [hall, HAL.out]
        have HC := hideIt hc
        clear hall hc
        go_wp2
        go_ret
        exact ⟨rfl, Sx3.out.chg.trans HC.out⟩
end Go.Proofs.YtgmekeeemimnpaaDoor
