/- The statements' own told (layer 4), walked. (Printed by wip/gen/qtallies.py.) -/
import Derived.Test.YtgmekeeemimnpaaTally
import Derived.Test.YtgmekeeemimnpaaQ6
namespace Go.Proofs.Ytgmekeeemimnpaa
open Go Go.Maps Go.MapKept Go.RowKit

theorem rise_at {l : List Int} (h : l.Pairwise (fun a b => a < b)) {j : Nat} (hj : j + 1 < l.length) : l.getD j 0 < l.getD (j + 1) 0 := by
  rw [getD_get l j (by omega), getD_get l (j + 1) hj]
  exact List.pairwise_iff_getElem.1 h j (j + 1) (by omega) hj (by omega)
/-- 'has' of a member. -/
theorem has_is {w : World} {A : Option Addr} {n c : Nat} {xs : List Int} {x : Int} (h : Ints w A n xs ∧ n ≤ 17592186043904) (hx : x ∈ xs) {wr : World} (hc : Chg (fun _ => False) w wr) :
    Calls Try.prog 38 #[.slice A n c, .int .i64 x] wr fun e w' => e = .returned (.bool true) ∧ wr = w' := by
  have := has_calls A n c xs x wr (h.1.new hc) h.2
  rw [decide_eq_true hx] at this
  exact this
theorem grantedL_rise {L : List (Int × Bool)} (hn : keysNodup L) : (grantedL L).Pairwise (fun a b => a < b) := (sortI_lt hn).sublist List.filter_sublist
theorem grantedL_ok {w : World} {m : Nat} {L : List (Int × Bool)} (h : MapIs (Value.int .i64) Value.bool okI w m L) : ∀ x ∈ grantedL L, okI x := fun x hx => keys_ok h x (List.mem_filter.1 hx).1

set_option maxRecDepth 100000 in
set_option maxHeartbeats 8000000 in
theorem told_calls {A B : Option Addr} {n q c d p m : Nat} {vs got : List Int} {L : List (Int × Bool)} (w : World) (ht : TallyAt w p m L) (hv : Ints w A n vs) (hg : Ints w B q got) (hn : n ≤ 1000) (hq : q ≤ 1000)
    (h1 : (sortI (L.map (·.1))).length = n) (h2 : (grantedL L).length = q) (h3 : ∀ x ∈ sortI (L.map (·.1)), x ∈ vs) (h4 : ∀ x ∈ grantedL L, x ∈ got) :
    Calls Try.prog 68 #[.pointer (some ⟨p, 0, none⟩), .slice A n c, .slice B q d] w fun e w' => e = .returned (.bool true) ∧ Chg (fun _ => False) w w' := by
  have HV := hideIt (voters_calls w ht)
  have HR1 := hideIt (sortI_lt ht.nodup)
  have HR2 := hideIt (grantedL_rise ht.nodup)
  have HO1 := hideIt (keys_ok ht.map)
  have HO2 := hideIt (grantedL_ok ht.map)
  have HT := hideIt ht
  have HM1 := hideIt h3
  have HM2 := hideIt h4
  have HL1 := hideIt h1
  have HL2 := hideIt h2
  have HVS := hideIt hv
  have HGS := hideIt hg
  clear ht h1 h2 h3 h4 hv hg
  go_enter Try.func68, Try.ntmps68
  go_wp2_with fail
  refine HV.out.mono ?_
  rintro e w1 ⟨A1, n1, c1, rfl, o1, k1⟩
  obtain ⟨_, _, hv1, -⟩ := o1.slice
  obtain rfl : n1 = n := by rw [HL1.out] at hv1; cases hv1; rfl
  have I1 := hideIt (o1.ints HO1.out rfl)
  have K1 := hideIt k1
  clear o1 hv1
  go_wp2_with fail
  refine (granted_calls w1 (HT.out.chg k1 (fun h => h) (fun h => h))).mono ?_
  rintro e w2 ⟨A2, n2, c2, rfl, o2, k2⟩
  obtain ⟨_, _, hv2, -⟩ := o2.slice
  obtain rfl : n2 = q := by rw [HL2.out] at hv2; cases hv2; rfl
  have I2 := hideIt (o2.ints HO2.out rfl)
  have I1' := hideIt (I1.out.new k2)
  have K2 := hideIt (K1.out.trans k2)
  have V2 : Hid (Ints w2 A n1 vs ∧ n1 ≤ 17592186043904) := hideIt ⟨HVS.out.new K2.out, by omega⟩
  have G2 : Hid (Ints w2 B n2 got ∧ n2 ≤ 17592186043904) := hideIt ⟨HGS.out.new K2.out, by omega⟩
  clear o2 hv2 k1 k2 I1
  go_wp2_with fail
  go_loopw [31] (fun i wr => ∃ k : Nat, k ≤ n1 ∧ i = .int .i64 k ∧ Chg (fun _ => False) w2 wr) (fun i _ => n1 - (intOf i).toNat)
  case atStart => exact ⟨0, by omega, rfl, Chg.refl _ _⟩
  case round =>
    obtain ⟨k, hk, rfl, hch⟩ := hrel
    by_cases hlt : k < n1
    · have hI := I1'.out.new hch
      obtain ⟨b, off, hA, hbl, hcell⟩ := hI.at_ (by omega)
      have hx := hcell k hlt
      have hmem : (sortI (L.map (·.1))).getD k 0 ∈ vs := HM1.out _ (getD_mem (by rw [hI.len]; exact hlt))
      have HH := hideIt (has_is (c := c) V2.out hmem hch)
      obtain ⟨x, hX⟩ : ∃ x, (sortI (L.map (·.1))).getD k 0 = x := ⟨_, rfl⟩
      have hrise := HR1.out
      rw [hX] at hx HH
      subst hA
      rcases Nat.eq_zero_or_pos k with h0 | h0
      · subst h0
        rw [Nat.add_zero] at hx
        clear hcell hX hmem hI hrise
        go_wp2_with (go_at_call 38; refine HH.out.mono ?_; rintro e w9 ⟨rfl, rfl⟩)
        go_roundw
        case rel => exact ⟨1, by omega, rfl, hch⟩
        case measure => simp [intOf]; omega
      · obtain ⟨j, rfl⟩ : ∃ j, k = j + 1 := ⟨k - 1, by omega⟩
        have hy := hcell j (by omega)
        have hlt2 : (sortI (L.map (·.1))).getD j 0 < (sortI (L.map (·.1))).getD (j + 1) 0 := rise_at hrise (by rw [hI.len]; exact hlt)
        rw [hX] at hlt2
        obtain ⟨y, hY⟩ : ∃ y, (sortI (L.map (·.1))).getD j 0 = y := ⟨_, rfl⟩
        rw [hY] at hy hlt2
        have hcast : ((j + 1 : Nat) : Int) = (j : Int) + 1 := by omega
        clear hcell hX hY hmem hI hrise
        go_wp2_with (go_at_call 38; refine HH.out.mono ?_; rintro e w9 ⟨rfl, rfl⟩)
        go_roundw
        case rel => exact ⟨j + 1 + 1, by omega, by go_num, hch⟩
        case measure => simp [intOf]; omega
    · obtain rfl : k = n1 := by omega
      have K3 := hideIt hch
      obtain ⟨w3, hw3⟩ : ∃ w3, w3 = wr := ⟨_, rfl⟩
      rw [← hw3] at K3 ⊢
      have I3 := hideIt (I2.out.new K3.out)
      have G3 : Hid (Ints w3 B n2 got ∧ n2 ≤ 17592186043904) := hideIt ⟨G2.out.1.new K3.out, G2.out.2⟩
      clear hch hw3
      go_wp2_with fail
      go_loopw [56] (fun i wr => ∃ k : Nat, k ≤ n2 ∧ i = .int .i64 k ∧ Chg (fun _ => False) w3 wr) (fun i _ => n2 - (intOf i).toNat)
      case atStart => exact ⟨0, by omega, rfl, Chg.refl _ _⟩
      case round =>
        obtain ⟨k, hk, rfl, hch⟩ := hrel
        by_cases hlt : k < n2
        · have hI := I3.out.new hch
          obtain ⟨b, off, hA, hbl, hcell⟩ := hI.at_ (by omega)
          have hx := hcell k hlt
          have hmem : (grantedL L).getD k 0 ∈ got := HM2.out _ (getD_mem (by rw [hI.len]; exact hlt))
          have HH := hideIt (has_is (c := d) G3.out hmem hch)
          obtain ⟨x, hX⟩ : ∃ x, (grantedL L).getD k 0 = x := ⟨_, rfl⟩
          have hrise := HR2.out
          rw [hX] at hx HH
          subst hA
          rcases Nat.eq_zero_or_pos k with h0 | h0
          · subst h0
            rw [Nat.add_zero] at hx
            clear hcell hX hmem hI hrise
            go_wp2_with (go_at_call 38; refine HH.out.mono ?_; rintro e w9 ⟨rfl, rfl⟩)
            go_roundw
            case rel => exact ⟨1, by omega, rfl, hch⟩
            case measure => simp [intOf]; omega
          · obtain ⟨j, rfl⟩ : ∃ j, k = j + 1 := ⟨k - 1, by omega⟩
            have hy := hcell j (by omega)
            have hlt2 : (grantedL L).getD j 0 < (grantedL L).getD (j + 1) 0 := rise_at hrise (by rw [hI.len]; exact hlt)
            rw [hX] at hlt2
            obtain ⟨y, hY⟩ : ∃ y, (grantedL L).getD j 0 = y := ⟨_, rfl⟩
            rw [hY] at hy hlt2
            have hcast : ((j + 1 : Nat) : Int) = (j : Int) + 1 := by omega
            clear hcell hX hY hmem hI hrise
            go_wp2_with (go_at_call 38; refine HH.out.mono ?_; rintro e w9 ⟨rfl, rfl⟩)
            go_roundw
            case rel => exact ⟨j + 1 + 1, by omega, by go_num, hch⟩
            case measure => simp [intOf]; omega
        · obtain rfl : k = n2 := by omega
          go_wp2
          go_ret
          exact ⟨rfl, (K2.out.trans K3.out).trans hch⟩
end Go.Proofs.Ytgmekeeemimnpaa
