/- DiskRenames, walked: a file that is renamed again and again is the file of the last name. -/
import Derived.Test.YtgmekeeemimnpaaDSwaps
import Derived.Test.YtgmekeeemimnpaaDN
namespace Go.Proofs.Ytgmekeeemimnpaa
open Go Go.Maps Go.MapKept Go.RowKit Go.Sort

abbrev nFirst : Str := [102, 105, 114, 115, 116]
theorem named_first : namedB nFirst = true := by decide
theorem one_get (x : Str) (f : FileG) : aget [(x, f)] x = some f := by simp [aget]
theorem one_del (x : Str) (f : FileG) : adel [(x, f)] x = [] := by simp [adel]
theorem one_put (x : Str) (f g : FileG) : aput [(x, f)] x g = [(x, g)] := by simp [aput, aget]
set_option maxRecDepth 100000 in
set_option maxHeartbeats 8000000 in
theorem renames_calls {A C : Option Addr} {n c N c2 : Nat} {xs : List Int} {sy : Bool} {names : List Str} (w : World) (hb : Bytes w A n xs ∧ n ≤ c ∧ c ≤ maxLen) (hn : Recs encL 1 ([] : Str) w C N names ∧ (∀ x ∈ names, okS x) ∧ N ≤ c2 ∧ c2 ≤ maxLen) :
    Calls Try.prog 30 #[.slice A n c, .bool sy, .slice C N c2] w fun e w' => e = .returned (.bool true) ∧ Below w.heap.size w w' := by
  have HA := hideIt (anchor12 w)
  obtain ⟨hb, hb1, hb2⟩ := hb
  obtain ⟨hn, hok, hn1, hn2⟩ := hn
  have HB := hideIt hb
  have HN := hideIt hn
  have HLEN := hideIt hn.len
  have HOK := hideIt hok
  have HC := hideIt (And.intro hb1 hb2)
  have k1 : okS nFirst := okS_of (by decide)
  clear hb hn hok hb1 hb2 hn1 hn2
  by_cases q1 : 300 < n
  · go_enter Try.func30, Try.ntmps30
    go_wp2_with (go_at_call 83; refine HA.out.mono ?_; rintro e w1 ⟨rfl, c1⟩)
    go_ret
    exact ⟨rfl, c1.none_below⟩
  by_cases q2 : 30 < N
  · go_enter Try.func30, Try.ntmps30
    go_wp2_with (go_at_call 83; refine HA.out.mono ?_; rintro e w1 ⟨rfl, c1⟩)
    go_ret
    exact ⟨rfl, c1.none_below⟩
  go_enter Try.func30, Try.ntmps30
  go_wp2_with fail
  refine HA.out.mono ?_
  rintro e w1 ⟨rfl, ch1⟩
  go_wp2_with fail
  refine (diskNewB (w0 := w) 1000 (by omega) (by omega) ch1).mono ?_
  rintro e w2 ⟨d, m, rfl, b2⟩
  go_wp2_with fail
  have g1 := wr_gen (L := []) (r := 1000) (l := -1) (x := nFirst) (n := n) (l' := -1) (b := false) rfl named_first (by show ((0 : Nat) : Int) + n ≤ 1000; omega)
  refine (b2.write nFirst k1 (HB.out.new b2.chg) (by omega) HC.out.1 HC.out.2 0 g1.1).mono ?_
  rintro e w3 ⟨⟨A1, m1, d1, sf1, xs1⟩, hn1, hxs1, hs1, rfl, b3⟩
  simp only at hn1 hxs1 hs1
  subst hn1 hxs1 hs1
  rw [g1.2 _ rfl] at b3
  have e1 : aput ([] : Files) nFirst ⟨A1, m1, d1, false, xs1⟩ = [(nFirst, ⟨A1, m1, d1, false, xs1⟩)] := rfl
  rw [e1] at b3
  clear b2 e1 g1
  cases sy with
  | true =>
    go_wp2_with fail
    refine (b3.sync (s' := ⟨[(nFirst, ⟨A1, m1, d1, true, xs1⟩)], 1000, -1, false⟩) nFirst k1 0 (sync_gen (f := ⟨A1, m1, d1, false, xs1⟩) (l' := -1) (b := false) rfl rfl)).mono ?_
    rintro e w4 ⟨rfl, b4⟩
    clear b3
    go_wp2_with fail
    go_loopw [40, 8] (fun i a wr => ∃ (k : Nat) (at_ : Str), k ≤ N ∧ i = .int .i64 k ∧ a = encStr at_ ∧ DiskB w wr d m ⟨[(at_, ⟨A1, m1, d1, true, xs1⟩)], 1000, -1, false⟩ ∧ okS at_) (fun i _ _ => N - (intOf i).toNat)
    case atStart => exact ⟨0, nFirst, Nat.zero_le _, rfl, rfl, b4, k1⟩
    case round =>
      clear b4
      obtain ⟨k, at_, hk, rfl, rfl, b5, ka⟩ := hrel
      by_cases hlt : k < N
      · obtain ⟨p, off, rfl, hpb, hcell⟩ := HN.out.at_ (by omega)
        obtain ⟨x, hx⟩ : ∃ x, names.getD k [] = x := ⟨_, rfl⟩
        have hxc : wr.cell? ⟨p, off + k, none⟩ = some (encStr x) := by
          have h1 := hcell k hlt 0 (encStr x) (by rw [hx]; rfl)
          have h2 := b5.chg.cell (p := ⟨p, off + (k * 1 + 0), none⟩) hpb (fun h => h)
          have := h2.trans h1
          simpa using this
        have kx : okS x := HOK.out x (by rw [← hx]; exact getD_mem' (by rw [HLEN.out]; exact hlt))
        have KX := hideIt kx
        have KA := hideIt ka
        clear hcell hx kx ka
        by_cases h100 : 100 < x.length
        · have hd : decide (100 < (x.length : Int)) = true := by simp; omega
          clear h100
          go_wp2_with fail
          go_ret
          exact ⟨rfl, b5.chg.none_below⟩
        · have hd : decide (100 < (x.length : Int)) = false := by simp; omega
          have HX := hideIt h100
          clear h100
          cases hnx : namedB x with
          | true =>
            have hr := ren_gen (L := [(at_, (⟨A1, m1, d1, true, xs1⟩ : FileG))]) (r := 1000) (l := -1) (l' := -1) (b := false) (x := at_) (y := x) rfl (one_get _ _) hnx
            rw [one_del] at hr
            have HR := hideIt (b5.rename at_ x KA.out KX.out 0 hr)
            have HNM := hideIt (fun W => (lnamed_calls x W (by have := HX.out; omega)))
            rw [hnx] at HNM
            clear hr hnx b5
            go_wp2_with (first
              | (go_at_call 88; refine HR.out.mono ?_; rintro e w6 ⟨rfl, b6⟩; have B6 := hideIt b6; clear b6)
              | (go_at_call 94; refine (HNM.out _).mono ?_; rintro e w7 ⟨rfl, rfl⟩))
            go_roundw
            case rel => exact ⟨k + 1, x, by omega, by go_num, rfl, B6.out, KX.out⟩
            case measure => simp [intOf]; omega
          | false =>
            have hr : renS ⟨[(at_, (⟨A1, m1, d1, true, xs1⟩ : FileG))], 1000, -1, false⟩ at_ x = (52, ⟨[(at_, ⟨A1, m1, d1, true, xs1⟩)], 1000, -1, false⟩) := by
              unfold renS
              simp only [Bool.false_eq_true, if_false, one_get, hnx]
            have HR := hideIt (b5.rename at_ x KA.out KX.out 52 hr)
            have HNM := hideIt (fun W => (lnamed_calls x W (by have := HX.out; omega)))
            rw [hnx] at HNM
            clear hr hnx b5
            go_wp2_with (first
              | (go_at_call 88; refine HR.out.mono ?_; rintro e w6 ⟨rfl, b6⟩; have B6 := hideIt b6; clear b6)
              | (go_at_call 94; refine (HNM.out _).mono ?_; rintro e w7 ⟨rfl, rfl⟩))
            go_roundw
            case rel => exact ⟨k + 1, at_, by omega, by go_num, rfl, B6.out, KA.out⟩
            case measure => simp [intOf]; omega
      · obtain rfl : k = N := by omega
        go_wp2_with fail
        refine (b5.names rfl (by simp)).mono ?_
        rintro e w6 ⟨A6, n6, c6, rfl, hn6, r6, -, -, k6⟩
        obtain rfl : n6 = 1 := hn6
        have b6 := b5.new k6
        obtain ⟨p6, o6, rfl, hp6, hc6⟩ := r6.at_ (by omega)
        have hc6' : w6.cell? ⟨p6, o6, none⟩ = some (encStr at_) := by
          have := hc6 0 (by omega) 0 (encStr at_) (by rw [show sortS (List.map (·.1) [(at_, (⟨A1, m1, d1, true, xs1⟩ : FileG))]) = [at_] from List.mergeSort_singleton _]; rfl)
          simpa using this
        clear b5 r6 hc6
        go_wp2_with fail
        refine (b6.read at_ ka ⟨A1, m1, d1, true, xs1⟩ rfl (one_get _ _)).mono ?_
        rintro e w7 ⟨A7, c7, rfl, y7, -, -, b7, k7⟩
        have hc7 : w7.cell? ⟨p6, o6, none⟩ = some (encStr at_) := (k7.cell (p := ⟨p6, o6, none⟩) hp6 (fun h => h)).trans hc6'
        have hs1 := fun c => Bytes.toStr (c := c) y7
        have hs2 := Bytes.toStr (c := c) (HB.out.new b7.chg)
        have hbq := beq_bytes (strOfNums xs1)
        simp only at hs1
        have HSF := hideIt (b7.safe at_ ka true (by unfold safeB; simp only [one_get]))
        clear hc6' b6
        go_wp2_with (first
          | (go_at_call 91; refine HSF.out.mono ?_; rintro e w8 ⟨rfl, rfl⟩))
        go_ret
        exact ⟨rfl, b7.chg.none_below⟩
  | false =>
    have b4 := b3
    have hw4 : ∃ w4, w3 = w4 := ⟨_, rfl⟩
    obtain ⟨w4, rfl⟩ := hw4
    clear b3
    go_wp2_with fail
    go_loopw [40, 8] (fun i a wr => ∃ (k : Nat) (at_ : Str), k ≤ N ∧ i = .int .i64 k ∧ a = encStr at_ ∧ DiskB w wr d m ⟨[(at_, ⟨A1, m1, d1, false, xs1⟩)], 1000, -1, false⟩ ∧ okS at_) (fun i _ _ => N - (intOf i).toNat)
    case atStart => exact ⟨0, nFirst, Nat.zero_le _, rfl, rfl, b4, k1⟩
    case round =>
      clear b4
      obtain ⟨k, at_, hk, rfl, rfl, b5, ka⟩ := hrel
      by_cases hlt : k < N
      · obtain ⟨p, off, rfl, hpb, hcell⟩ := HN.out.at_ (by omega)
        obtain ⟨x, hx⟩ : ∃ x, names.getD k [] = x := ⟨_, rfl⟩
        have hxc : wr.cell? ⟨p, off + k, none⟩ = some (encStr x) := by
          have h1 := hcell k hlt 0 (encStr x) (by rw [hx]; rfl)
          have h2 := b5.chg.cell (p := ⟨p, off + (k * 1 + 0), none⟩) hpb (fun h => h)
          have := h2.trans h1
          simpa using this
        have kx : okS x := HOK.out x (by rw [← hx]; exact getD_mem' (by rw [HLEN.out]; exact hlt))
        have KX := hideIt kx
        have KA := hideIt ka
        clear hcell hx kx ka
        by_cases h100 : 100 < x.length
        · have hd : decide (100 < (x.length : Int)) = true := by simp; omega
          clear h100
          go_wp2_with fail
          go_ret
          exact ⟨rfl, b5.chg.none_below⟩
        · have hd : decide (100 < (x.length : Int)) = false := by simp; omega
          have HX := hideIt h100
          clear h100
          cases hnx : namedB x with
          | true =>
            have hr := ren_gen (L := [(at_, (⟨A1, m1, d1, false, xs1⟩ : FileG))]) (r := 1000) (l := -1) (l' := -1) (b := false) (x := at_) (y := x) rfl (one_get _ _) hnx
            rw [one_del] at hr
            have HR := hideIt (b5.rename at_ x KA.out KX.out 0 hr)
            have HNM := hideIt (fun W => (lnamed_calls x W (by have := HX.out; omega)))
            rw [hnx] at HNM
            clear hr hnx b5
            go_wp2_with (first
              | (go_at_call 88; refine HR.out.mono ?_; rintro e w6 ⟨rfl, b6⟩; have B6 := hideIt b6; clear b6)
              | (go_at_call 94; refine (HNM.out _).mono ?_; rintro e w7 ⟨rfl, rfl⟩))
            go_roundw
            case rel => exact ⟨k + 1, x, by omega, by go_num, rfl, B6.out, KX.out⟩
            case measure => simp [intOf]; omega
          | false =>
            have hr : renS ⟨[(at_, (⟨A1, m1, d1, false, xs1⟩ : FileG))], 1000, -1, false⟩ at_ x = (52, ⟨[(at_, ⟨A1, m1, d1, false, xs1⟩)], 1000, -1, false⟩) := by
              unfold renS
              simp only [Bool.false_eq_true, if_false, one_get, hnx]
            have HR := hideIt (b5.rename at_ x KA.out KX.out 52 hr)
            have HNM := hideIt (fun W => (lnamed_calls x W (by have := HX.out; omega)))
            rw [hnx] at HNM
            clear hr hnx b5
            go_wp2_with (first
              | (go_at_call 88; refine HR.out.mono ?_; rintro e w6 ⟨rfl, b6⟩; have B6 := hideIt b6; clear b6)
              | (go_at_call 94; refine (HNM.out _).mono ?_; rintro e w7 ⟨rfl, rfl⟩))
            go_roundw
            case rel => exact ⟨k + 1, at_, by omega, by go_num, rfl, B6.out, KA.out⟩
            case measure => simp [intOf]; omega
      · obtain rfl : k = N := by omega
        go_wp2_with fail
        refine (b5.names rfl (by simp)).mono ?_
        rintro e w6 ⟨A6, n6, c6, rfl, hn6, r6, -, -, k6⟩
        obtain rfl : n6 = 1 := hn6
        have b6 := b5.new k6
        obtain ⟨p6, o6, rfl, hp6, hc6⟩ := r6.at_ (by omega)
        have hc6' : w6.cell? ⟨p6, o6, none⟩ = some (encStr at_) := by
          have := hc6 0 (by omega) 0 (encStr at_) (by rw [show sortS (List.map (·.1) [(at_, (⟨A1, m1, d1, false, xs1⟩ : FileG))]) = [at_] from List.mergeSort_singleton _]; rfl)
          simpa using this
        clear b5 r6 hc6
        go_wp2_with fail
        refine (b6.read at_ ka ⟨A1, m1, d1, false, xs1⟩ rfl (one_get _ _)).mono ?_
        rintro e w7 ⟨A7, c7, rfl, y7, -, -, b7, k7⟩
        have hc7 : w7.cell? ⟨p6, o6, none⟩ = some (encStr at_) := (k7.cell (p := ⟨p6, o6, none⟩) hp6 (fun h => h)).trans hc6'
        have hs1 := fun c => Bytes.toStr (c := c) y7
        have hs2 := Bytes.toStr (c := c) (HB.out.new b7.chg)
        have hbq := beq_bytes (strOfNums xs1)
        simp only at hs1
        have HSF := hideIt (b7.safe at_ ka false (by unfold safeB; simp only [one_get]))
        clear hc6' b6
        go_wp2_with (first
          | (go_at_call 91; refine HSF.out.mono ?_; rintro e w8 ⟨rfl, rfl⟩))
        go_ret
        exact ⟨rfl, b7.chg.none_below⟩
end Go.Proofs.Ytgmekeeemimnpaa
