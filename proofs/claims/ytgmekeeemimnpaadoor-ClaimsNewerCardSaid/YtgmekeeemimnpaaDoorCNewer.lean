/- ClaimsNewer, walked. (Printed by wip/gen_newer.py.) -/
import Derived.Test.YtgmekeeemimnpaaDoorCN1
namespace Go.Proofs.YtgmekeeemimnpaaDoor
open Go Go.Maps Go.MapKept Go.RowKit

/-- The slots of a set from 63 down, k of them looked at. -/
def dn (m k : Nat) : List Nat := ((List.range k).map (fun j => 63 - j)).filter (fun i => m.testBit i)
theorem dn_succ (m k : Nat) : dn m (k + 1) = dn m k ++ (if m.testBit (63 - k) then [63 - k] else []) := by
  unfold dn
  rw [List.range_succ, List.map_append, List.filter_append]
  simp only [List.map_cons, List.map_nil, List.filter_cons, List.filter_nil]
theorem dn_all (m : Nat) : ∀ i, i ∈ slotsOf m ↔ i ∈ dn m 64 := by
  intro i
  rw [mem_slots]
  unfold dn
  rw [List.mem_filter, List.mem_map]
  constructor
  · rintro ⟨h1, h2⟩
    exact ⟨⟨63 - i, by simp; omega, by omega⟩, h2⟩
  · rintro ⟨⟨j, hj, rfl⟩, h2⟩
    rw [List.mem_range] at hj
    exact ⟨by omega, h2⟩
theorem St.drewN {w0 w : World} {B : Nat} {f : Nat → Int} {id ep : Int} {m : Nat} (h : St w0 w B f id ep m) (n : Nat) : St w0 (w.drewN n) B f id ep m := ⟨h.chg.drewN n, h.tw, h.tf, h.cl⟩

set_option maxRecDepth 100000 in
set_option maxHeartbeats 16000000 in
theorem newer_law_calls (w : World) (hTW : TabW w) (f : Nat → Int) (id ep : Int) (m : Nat) (hm : m < 2 ^ 64) (_oi : okI id) (_oe : okI ep) :
    Calls Tryd.prog 10 #[.agg (tcs f), .agg #[.int .i64 id, .int .i64 ep, .int .u64 (m : Int)]] w fun e w' => e = .returned (.bool true) ∧ Chg (fun _ => False) w w' := by
  have S0 := St.start w hTW f id ep m
  obtain ⟨wB, hwB⟩ : ∃ wB, wB = (w.alloc (.cells (tcs f) 24)).alloc (.cells #[.int .i64 id, .int .i64 ep, .int .u64 (m : Int)] 28) := ⟨_, rfl⟩
  rw [← hwB] at S0
  have HB := hideIt hwB
  clear hwB hTW
  have tokA : True := trivial
  have tokN : True := trivial
  have tokR : True := trivial
  obtain ⟨r1, h1⟩ : ∃ r, rightT f = r := ⟨_, rfl⟩
  cases r1 with
  | false =>
    go_enter Tryd.func10, Tryd.ntmps10
    go_wp2_with (first
      | (have _t := tokA; go_at_call 12; rw [← HB.out]; refine (anchor_calls wB S0.tw).mono ?_; rintro e wa ⟨rfl, ka⟩; clear tokA _t; have Sa := hideIt (S0.step ka); obtain ⟨q01, q02, q03⟩ := Sa.out.cells; clear ka S0 HB)
      | (have _t := tokN; refine wpList_loadv _ rfl 24 _ rfl rfl Sa.out.tf.load ?_)
      | (have _t := tokN; go_at_call 24; refine (newer_ok wa Sa.out.tw f id ep m hm).mono ?_; rintro e w0 ⟨rfl, k0⟩; clear tokN _t q01 q02 q03; rw [h1]; have Sx0 := hideIt (Sa.out.step k0); clear k0)
      | (refine wpList_loadv _ rfl 24 _ rfl rfl Sx0.out.tf.load ?_)
      | (have _t := tokR; go_at_call 13; refine (lawright w0 f _ h1).mono ?_; rintro e w1 ⟨rfl, k1⟩; clear tokR _t; have Sx1 := hideIt (Sx0.out.step k1); clear k1))
    go_ret
    exact ⟨rfl, Sx1.out.chg⟩
  | true =>
    go_enter Tryd.func10, Tryd.ntmps10
    go_wp2_with (first
      | (have _t := tokA; go_at_call 12; rw [← HB.out]; refine (anchor_calls wB S0.tw).mono ?_; rintro e wa ⟨rfl, ka⟩; clear tokA _t; have Sa := hideIt (S0.step ka); obtain ⟨q01, q02, q03⟩ := Sa.out.cells; clear ka S0 HB)
      | (have _t := tokN; refine wpList_loadv _ rfl 24 _ rfl rfl Sa.out.tf.load ?_)
      | (have _t := tokN; go_at_call 24; refine (newer_ok wa Sa.out.tw f id ep m hm).mono ?_; rintro e w0 ⟨rfl, k0⟩; clear tokN _t q01 q02 q03; rw [h1]; have Sx0 := hideIt (Sa.out.step k0); clear k0)
      | (refine wpList_loadv _ rfl 24 _ rfl rfl Sx0.out.tf.load ?_)
      | (have _t := tokR; go_at_call 13; refine (lawright w0 f _ h1).mono ?_; rintro e w1 ⟨rfl, k1⟩; clear tokR _t; have Sx1 := hideIt (Sx0.out.step k1); clear k1))
    obtain ⟨N0, hN0⟩ : ∃ N0, newL f id ep (slotsOf m) = N0 := ⟨_, rfl⟩
    rw [hN0]
    have HN0 := hideIt hN0
    clear hN0
    go_loopw [6, 7] (fun wn i wr => ∃ (k j : Nat) (z : Int), k + j = 64 ∧ z = (j : Int) - 1 ∧ i = .int .i64 z ∧ wn = .int .i64 (newL f id ep (dn m k)) ∧ St w wr w.heap.size f id ep m) (fun _ i _ => (intOf i + 1).toNat)
    case atStart => exact ⟨0, 64, 63, rfl, rfl, rfl, rfl, Sx1.out⟩
    case round =>
      obtain ⟨k, j, z, hkj, hz, rfl, rfl, hS⟩ := hrel
      rcases j with _ | i
      · obtain rfl : z = -1 := by omega
        obtain rfl : k = 64 := by omega
        have HE := hideIt ((newL_mem (f := f) (id := id) (ep := ep) (dn_all m)).symm.trans HN0.out)
        rw [HE.out]
        have HS := hideIt hS
        clear hS hz hkj
        go_wp2
        go_ret
        exact ⟨rfl, HS.out.chg⟩
      · obtain rfl : z = (i : Int) := by omega
        have hik : 63 - k = i := by omega
        have hi64 : i < 64 := by omega
        have hco := hS.tf.cell (show i < 128 by omega)
        have hce := hS.tf.cell (show 64 + i < 128 by omega)
        obtain ⟨g1, g2, g3⟩ := hS.cells
        obtain ⟨lo, hlo⟩ : ∃ lo, newL f id ep (dn m k) = lo := ⟨_, rfl⟩
        have hnx : newL f id ep (dn m (k + 1)) = if m.testBit i then nwS f id ep lo i else lo := by
          rw [dn_succ, hik]
          cases m.testBit i with
          | false => simp [hlo]
          | true => rw [if_pos rfl, if_pos rfl, newL_snoc, hlo]
        rw [hlo]
        obtain ⟨x, hxe⟩ : ∃ x, f i = x := ⟨_, rfl⟩
        obtain ⟨y, hye⟩ : ∃ y, f (64 + i) = y := ⟨_, rfl⟩
        rw [hxe] at hco
        rw [hye] at hce
        unfold nwS cand at hnx
        rw [hxe, hye] at hnx
        have HH : Hid (∀ N, Calls Tryd.prog 20 #[.int .u64 (m : Int), .int .i64 (i : Int)] (wr.drewN N) fun e w' => e = .returned (.bool (m.testBit i)) ∧ w' = wr.drewN N) := hideIt (fun N => (has_calls _ m hm i hi64).mono fun e w' h => ⟨h.1, h.2.symm⟩)
        have HS := hideIt hS
        have HK := hideIt hkj
        clear hS hik hxe hye hlo hz hkj
        obtain ⟨bt, hbt⟩ : ∃ b, m.testBit i = b := ⟨_, rfl⟩
        rw [hbt] at HH hnx
        clear hbt
        cases bt with
        | false =>
          have HN := hideIt (hnx.trans (by rfl) : _ = lo)
          clear hnx
          go_wp2
          go_quiet ((go_at_call 20; exact Calls.quiet_of_same (HH.out _)))
          go_wp2
          go_roundw
          case rel => exact ⟨k + 1, i, (i : Int) - 1, by have := HK.out; omega, rfl, by go_num, by rw [HN.out], HS.out.drewN _⟩
          case measure => simp [intOf]
        | true =>
          cases c1 : (x != 0) with
          | false =>
            have HN := hideIt (hnx.trans (by rw [c1]; rfl) : _ = lo)
            clear hnx
            go_wp2
            go_quiet ((go_at_call 20; exact Calls.quiet_of_same (HH.out _)))
            go_wp2
            go_roundw
            case rel => exact ⟨k + 1, i, (i : Int) - 1, by have := HK.out; omega, rfl, by go_num, by rw [HN.out], HS.out.drewN _⟩
            case measure => simp [intOf]
          | true =>
            cases c2 : (x != id) with
            | false =>
              have HN := hideIt (hnx.trans (by rw [c1, c2]; rfl) : _ = lo)
              clear hnx
              go_wp2
              go_quiet ((go_at_call 20; exact Calls.quiet_of_same (HH.out _)))
              go_wp2
              go_roundw
              case rel => exact ⟨k + 1, i, (i : Int) - 1, by have := HK.out; omega, rfl, by go_num, by rw [HN.out], HS.out.drewN _⟩
              case measure => simp [intOf]
            | true =>
              cases c3 : (decide (ep < y)) with
              | false =>
                have HN := hideIt (hnx.trans (by rw [c1, c2, c3]; rfl) : _ = lo)
                clear hnx
                go_wp2
                go_quiet ((go_at_call 20; exact Calls.quiet_of_same (HH.out _)))
                go_wp2
                go_roundw
                case rel => exact ⟨k + 1, i, (i : Int) - 1, by have := HK.out; omega, rfl, by go_num, by rw [HN.out], HS.out.drewN _⟩
                case measure => simp [intOf]
              | true =>
                cases c4 : (lo == 0) with
                | true =>
                  have HN := hideIt (hnx.trans (by rw [c1, c2, c3, c4]; rfl) : _ = x)
                  clear hnx
                  go_wp2
                  go_quiet ((go_at_call 20; exact Calls.quiet_of_same (HH.out _)))
                  go_wp2
                  go_roundw
                  case rel => exact ⟨k + 1, i, (i : Int) - 1, by have := HK.out; omega, rfl, by go_num, by rw [HN.out], HS.out.drewN _⟩
                  case measure => simp [intOf]
                | false =>
                  cases c5 : (decide (x < lo)) with
                  | true =>
                    have HN := hideIt (hnx.trans (by rw [c1, c2, c3, c4, c5]; rfl) : _ = x)
                    clear hnx
                    go_wp2
                    go_quiet ((go_at_call 20; exact Calls.quiet_of_same (HH.out _)))
                    go_wp2
                    go_roundw
                    case rel => exact ⟨k + 1, i, (i : Int) - 1, by have := HK.out; omega, rfl, by go_num, by rw [HN.out], HS.out.drewN _⟩
                    case measure => simp [intOf]
                  | false =>
                    have HN := hideIt (hnx.trans (by rw [c1, c2, c3, c4, c5]; rfl) : _ = lo)
                    clear hnx
                    go_wp2
                    go_quiet ((go_at_call 20; exact Calls.quiet_of_same (HH.out _)))
                    go_wp2
                    go_roundw
                    case rel => exact ⟨k + 1, i, (i : Int) - 1, by have := HK.out; omega, rfl, by go_num, by rw [HN.out], HS.out.drewN _⟩
                    case measure => simp [intOf]
end Go.Proofs.YtgmekeeemimnpaaDoor
