/- DiskSwaps, walked: a file that is written beside, synced and renamed is the old one or the new one. -/
import Derived.Test.YtgmekeeemimnpaaD11
import Derived.Test.YtgmekeeemimnpaaDRd
namespace Go.Proofs.Ytgmekeeemimnpaa
open Go Go.Maps Go.MapKept Go.RowKit Go.Sort

/-- What a call does to the count of calls that are left: the count behind it; does it go down? -/
def stepL (l : Int) : Int × Bool := if 0 < l then (l - 1, false) else if l = 0 then (0, true) else (l, false)
section
variable {L : Files} {r l : Int} {x y : Str} {f : FileG}
theorem stepS_eq (l' : Int) (b : Bool) (h : stepL l = (l', b)) : stepS ⟨L, r, l, false⟩ = ⟨L, r, l', b⟩ := by
  unfold stepL at h
  unfold stepS
  simp only
  split at h
  · next h1 => rw [if_pos h1]; cases h; rfl
  · next h1 =>
    rw [if_neg h1]
    split at h
    · next h2 => rw [if_pos h2]; cases h; rw [h2]
    · next h2 => rw [if_neg h2]; cases h; rfl
theorem wr_gen {n : Nat} {l' : Int} {b : Bool} (h : stepL l = (l', b)) (hn : namedB x = true) (hr : (total (adel L x) : Int) + n ≤ r) : wrE ⟨L, r, l, false⟩ x n = (if b then 50 else 0) ∧ ∀ f : FileG, f.n = n → wrD ⟨L, r, l, false⟩ x f = ⟨aput L x f, r, l', b⟩ := by
  constructor
  · unfold wrE
    rw [stepS_eq l' b h]
    simp only [Bool.false_eq_true, if_false, hn, if_true]
    rw [if_neg (by omega)]
  · intro f hf
    unfold wrD putS
    simp only [Bool.false_eq_true, if_false, hn, if_true]
    rw [if_neg (by omega), stepS_eq l' b h]
theorem sync_gen {l' : Int} {b : Bool} (h : stepL l = (l', b)) (ha : aget L x = some f) : syncS ⟨L, r, l, false⟩ x = if b then (50, ⟨L, r, l', true⟩) else (0, ⟨aput L x { f with safe := true }, r, l', false⟩) := by
  unfold syncS
  simp only [Bool.false_eq_true, if_false, ha]
  rw [stepS_eq l' b h]
  cases b <;> rfl
theorem ren_gen {l' : Int} {b : Bool} (h : stepL l = (l', b)) (ha : aget L x = some f) (hn : namedB y = true) : renS ⟨L, r, l, false⟩ x y = if b then (50, ⟨L, r, l', true⟩) else (0, ⟨aput (adel L x) y f, r, l', false⟩) := by
  unfold renS
  simp only [Bool.false_eq_true, if_false, ha, hn, if_true]
  rw [stepS_eq l' b h]
  cases b <;> rfl
end
abbrev nA : Str := [97]
abbrev nB : Str := [98]
theorem named_a : namedB nA = true := by decide
theorem named_b : namedB nB = true := by decide
theorem beq_bytes (s : ByteArray) : (s == s) = true := by
  cases s with
  | mk d => show (d == d) = true; simp
set_option maxRecDepth 100000 in
set_option maxHeartbeats 8000000 in
theorem swaps_calls {A B K : Option Addr} {n1 c1 n2 c2 q c3 : Nat} {old next keep : List Int} {arm : Int} (w : World) (ho : Bytes w A n1 old ∧ n1 ≤ c1 ∧ c1 ≤ maxLen) (hx : Bytes w B n2 next ∧ n2 ≤ c2 ∧ c2 ≤ maxLen) (ha : okI arm) (hk : Ints w K q keep ∧ q ≤ c3 ∧ c3 ≤ maxLen) :
    Calls Try.prog 27 #[.slice A n1 c1, .slice B n2 c2, .int .i64 arm, .slice K q c3] w fun e w' => e = .returned (.bool true) ∧ Below w.heap.size w w' := by
  have HA := hideIt (anchor12 w)
  obtain ⟨ho, ho1, ho2⟩ := ho
  obtain ⟨hx, hx1, hx2⟩ := hx
  obtain ⟨hk, hk1, hk2⟩ := hk
  have HO := hideIt ho
  have HX := hideIt hx
  have HK := hideIt hk
  have HAR := hideIt ha
  have HC := hideIt (And.intro (And.intro ho1 ho2) (And.intro hx1 hx2))
  have k1 : okS nA := okS_of (by decide)
  have k2 : okS nB := okS_of (by decide)
  clear ho hx hk ha ho1 ho2 hx1 hx2 hk1 hk2
  by_cases q1 : 1000 < n1
  · go_enter Try.func27, Try.ntmps27
    go_wp2_with (go_at_call 83; refine HA.out.mono ?_; rintro e w1 ⟨rfl, c1⟩)
    go_ret
    exact ⟨rfl, c1.none_below⟩
  by_cases q2 : 1000 < n2
  · go_enter Try.func27, Try.ntmps27
    go_wp2_with (go_at_call 83; refine HA.out.mono ?_; rintro e w1 ⟨rfl, c1⟩)
    go_ret
    exact ⟨rfl, c1.none_below⟩
  by_cases q3 : 50 < q
  · go_enter Try.func27, Try.ntmps27
    go_wp2_with (go_at_call 83; refine HA.out.mono ?_; rintro e w1 ⟨rfl, c1⟩)
    go_ret
    exact ⟨rfl, c1.none_below⟩
  go_enter Try.func27, Try.ntmps27
  go_wp2_with fail
  refine HA.out.mono ?_
  rintro e w1 ⟨rfl, ch1⟩
  go_wp2_with fail
  refine (diskNewB (w0 := w) 4000 (by omega) (by omega) ch1).mono ?_
  rintro e w2 ⟨d, m, rfl, b2⟩
  go_wp2_with fail
  have g1 := wr_gen (L := []) (r := 4000) (l := -1) (x := nA) (n := n1) (l' := -1) (b := false) rfl named_a (by show ((0 : Nat) : Int) + n1 ≤ 4000; omega)
  refine (b2.write nA k1 (HO.out.new b2.chg) (by omega) HC.out.1.1 HC.out.1.2 0 g1.1).mono ?_
  rintro e w3 ⟨⟨A1, m1, d1, sf1, xs1⟩, hn1, hxs1, hs1, rfl, b3⟩
  simp only at hn1 hxs1 hs1
  subst hn1 hxs1 hs1
  rw [g1.2 _ rfl] at b3
  have e1 : aput ([] : Files) nA ⟨A1, m1, d1, false, xs1⟩ = [(nA, ⟨A1, m1, d1, false, xs1⟩)] := rfl
  rw [e1] at b3
  clear b2 e1 g1
  go_wp2_with fail
  refine (b3.sync (s' := ⟨[(nA, ⟨A1, m1, d1, true, xs1⟩)], 4000, -1, false⟩) nA k1 0 (sync_gen (f := ⟨A1, m1, d1, false, xs1⟩) (l' := -1) (b := false) rfl rfl)).mono ?_
  rintro e w4 ⟨rfl, b4⟩
  clear b3
  go_wp2_with fail
  refine (b4.arm arm HAR.out).mono ?_
  rintro e w5 ⟨rfl, b5⟩
  clear b4
  simp only at b5
  obtain ⟨l0, hl0⟩ : ∃ l, max arm (-1) = l := ⟨_, rfl⟩
  rw [hl0] at b5
  by_cases p0 : arm < 0
  · as_aux_lemma =>
      obtain rfl : l0 = -1 := by omega
      have da : decide (arm < 0) = true := by simp; try omega
      have db : decide (2 < arm) = false := by simp; try omega
      clear hl0
      have g2 := wr_gen (L := [(nA, (⟨A1, m1, d1, true, xs1⟩ : FileG))]) (r := 4000) (l := -1) (x := nB) (n := n2) (l' := -1) (b := false) (by unfold stepL; simp; try omega) named_b (by show ((m1 + 0 : Nat) : Int) + n2 ≤ 4000; omega)
      go_wp2_with fail
      refine (b5.write nB k2 (HX.out.new b5.chg) (by omega) HC.out.2.1 HC.out.2.2 0 g2.1).mono ?_
      rintro e w6 ⟨⟨A2, m2, d2, sf2, xs2⟩, hn2, hxs2, hs2, rfl, b6⟩
      simp only at hn2 hxs2 hs2
      subst hn2 hxs2 hs2
      rw [g2.2 _ rfl] at b6
      have e2 : aput [(nA, (⟨A1, m1, d1, true, xs1⟩ : FileG))] nB ⟨A2, m2, d2, false, xs2⟩ = [(nA, ⟨A1, m1, d1, true, xs1⟩), (nB, ⟨A2, m2, d2, false, xs2⟩)] := rfl
      rw [e2] at b6
      clear b5 e2 g2
      go_wp2_with fail
      refine (b6.sync (s' := ⟨[(nA, (⟨A1, m1, d1, true, xs1⟩ : FileG)), (nB, ⟨A2, m2, d2, true, xs2⟩)], 4000, -1, false⟩) nB k2 0 (sync_gen (f := ⟨A2, m2, d2, false, xs2⟩) (l' := -1) (b := false) (by unfold stepL; simp; try omega) rfl)).mono ?_
      rintro e w7 ⟨rfl, b7⟩
      clear b6
      go_wp2_with fail
      refine (b7.rename (s' := ⟨[(nA, (⟨A2, m2, d2, true, xs2⟩ : FileG))], 4000, -1, false⟩) nB nA k2 k1 0 (ren_gen (f := ⟨A2, m2, d2, true, xs2⟩) (l' := -1) (b := false) (by unfold stepL; simp; try omega) rfl named_a)).mono ?_
      rintro e w8 ⟨rfl, b8⟩
      clear b7
      go_wp2_with fail
      have hkk := b8.apart HK.out
      have hsf := (crashTo_inv (keep := keep) b8.nodup _ (Nat.le_refl _)).2.2.2.2 nA ⟨A2, m2, d2, true, xs2⟩ rfl rfl
      obtain ⟨L', hL'⟩ : ∃ L', crashL keep [(nA, (⟨A2, m2, d2, true, xs2⟩ : FileG))] = L' := ⟨_, rfl⟩
      have hsf' : aget L' nA = some ⟨A2, m2, d2, true, xs2⟩ := by rw [← hL']; exact hsf
      refine (b8.crash (HK.out.new b8.chg) (by omega) (by simp) hkk L' hL').mono ?_
      rintro e w9 ⟨rfl, b9⟩
      clear hsf b8
      go_wp2_with fail
      refine (b9.read nA k1 ⟨A2, m2, d2, true, xs2⟩ rfl hsf').mono ?_
      rintro e w10 ⟨A10, c10, rfl, y10, -, -, b10, -⟩
      have hs1 := fun c => Bytes.toStr (c := c) y10
      have hs2 := Bytes.toStr (c := c1) (HO.out.new b10.chg)
      have hs3 := Bytes.toStr (c := c2) (HX.out.new b10.chg)
      have hbq := beq_bytes (strOfNums xs2)
      clear hsf' hL' hkk b9
      simp only at hs1
      go_wp2
      go_ret
      exact ⟨rfl, b10.chg.none_below⟩
  by_cases p1 : arm = 0
  · as_aux_lemma =>
      obtain rfl : l0 = 0 := by omega
      have da : decide (arm < 0) = false := by simp; try omega
      have db : decide (2 < arm) = false := by simp; try omega
      clear hl0
      have g2 := wr_gen (L := [(nA, (⟨A1, m1, d1, true, xs1⟩ : FileG))]) (r := 4000) (l := 0) (x := nB) (n := n2) (l' := 0) (b := true) (by unfold stepL; simp; try omega) named_b (by show ((m1 + 0 : Nat) : Int) + n2 ≤ 4000; omega)
      go_wp2_with fail
      refine (b5.write nB k2 (HX.out.new b5.chg) (by omega) HC.out.2.1 HC.out.2.2 50 g2.1).mono ?_
      rintro e w6 ⟨⟨A2, m2, d2, sf2, xs2⟩, hn2, hxs2, hs2, rfl, b6⟩
      simp only at hn2 hxs2 hs2
      subst hn2 hxs2 hs2
      rw [g2.2 _ rfl] at b6
      have e2 : aput [(nA, (⟨A1, m1, d1, true, xs1⟩ : FileG))] nB ⟨A2, m2, d2, false, xs2⟩ = [(nA, ⟨A1, m1, d1, true, xs1⟩), (nB, ⟨A2, m2, d2, false, xs2⟩)] := rfl
      rw [e2] at b6
      clear b5 e2 g2
      go_wp2_with fail
      have hkk := b6.apart HK.out
      have hsf := (crashTo_inv (keep := keep) b6.nodup _ (Nat.le_refl _)).2.2.2.2 nA ⟨A1, m1, d1, true, xs1⟩ rfl rfl
      obtain ⟨L', hL'⟩ : ∃ L', crashL keep [(nA, (⟨A1, m1, d1, true, xs1⟩ : FileG)), (nB, ⟨A2, m2, d2, false, xs2⟩)] = L' := ⟨_, rfl⟩
      have hsf' : aget L' nA = some ⟨A1, m1, d1, true, xs1⟩ := by rw [← hL']; exact hsf
      refine (b6.crash (HK.out.new b6.chg) (by omega) (by simp) hkk L' hL').mono ?_
      rintro e w9 ⟨rfl, b9⟩
      clear hsf b6
      go_wp2_with fail
      refine (b9.read nA k1 ⟨A1, m1, d1, true, xs1⟩ rfl hsf').mono ?_
      rintro e w10 ⟨A10, c10, rfl, y10, -, -, b10, -⟩
      have hs1 := fun c => Bytes.toStr (c := c) y10
      have hs2 := Bytes.toStr (c := c1) (HO.out.new b10.chg)
      have hs3 := Bytes.toStr (c := c2) (HX.out.new b10.chg)
      have hbq := beq_bytes (strOfNums xs1)
      clear hsf' hL' hkk b9
      simp only at hs1
      go_wp2
      go_ret
      exact ⟨rfl, b10.chg.none_below⟩
  by_cases p2 : arm = 1
  · as_aux_lemma =>
      obtain rfl : l0 = 1 := by omega
      have da : decide (arm < 0) = false := by simp; try omega
      have db : decide (2 < arm) = false := by simp; try omega
      clear hl0
      have g2 := wr_gen (L := [(nA, (⟨A1, m1, d1, true, xs1⟩ : FileG))]) (r := 4000) (l := 1) (x := nB) (n := n2) (l' := 0) (b := false) (by unfold stepL; simp; try omega) named_b (by show ((m1 + 0 : Nat) : Int) + n2 ≤ 4000; omega)
      go_wp2_with fail
      refine (b5.write nB k2 (HX.out.new b5.chg) (by omega) HC.out.2.1 HC.out.2.2 0 g2.1).mono ?_
      rintro e w6 ⟨⟨A2, m2, d2, sf2, xs2⟩, hn2, hxs2, hs2, rfl, b6⟩
      simp only at hn2 hxs2 hs2
      subst hn2 hxs2 hs2
      rw [g2.2 _ rfl] at b6
      have e2 : aput [(nA, (⟨A1, m1, d1, true, xs1⟩ : FileG))] nB ⟨A2, m2, d2, false, xs2⟩ = [(nA, ⟨A1, m1, d1, true, xs1⟩), (nB, ⟨A2, m2, d2, false, xs2⟩)] := rfl
      rw [e2] at b6
      clear b5 e2 g2
      go_wp2_with fail
      refine (b6.sync (s' := ⟨[(nA, (⟨A1, m1, d1, true, xs1⟩ : FileG)), (nB, ⟨A2, m2, d2, false, xs2⟩)], 4000, 0, true⟩) nB k2 50 (sync_gen (f := ⟨A2, m2, d2, false, xs2⟩) (l' := 0) (b := true) (by unfold stepL; simp; try omega) rfl)).mono ?_
      rintro e w7 ⟨rfl, b7⟩
      clear b6
      go_wp2_with fail
      have hkk := b7.apart HK.out
      have hsf := (crashTo_inv (keep := keep) b7.nodup _ (Nat.le_refl _)).2.2.2.2 nA ⟨A1, m1, d1, true, xs1⟩ rfl rfl
      obtain ⟨L', hL'⟩ : ∃ L', crashL keep [(nA, (⟨A1, m1, d1, true, xs1⟩ : FileG)), (nB, ⟨A2, m2, d2, false, xs2⟩)] = L' := ⟨_, rfl⟩
      have hsf' : aget L' nA = some ⟨A1, m1, d1, true, xs1⟩ := by rw [← hL']; exact hsf
      refine (b7.crash (HK.out.new b7.chg) (by omega) (by simp) hkk L' hL').mono ?_
      rintro e w9 ⟨rfl, b9⟩
      clear hsf b7
      go_wp2_with fail
      refine (b9.read nA k1 ⟨A1, m1, d1, true, xs1⟩ rfl hsf').mono ?_
      rintro e w10 ⟨A10, c10, rfl, y10, -, -, b10, -⟩
      have hs1 := fun c => Bytes.toStr (c := c) y10
      have hs2 := Bytes.toStr (c := c1) (HO.out.new b10.chg)
      have hs3 := Bytes.toStr (c := c2) (HX.out.new b10.chg)
      have hbq := beq_bytes (strOfNums xs1)
      clear hsf' hL' hkk b9
      simp only at hs1
      go_wp2
      go_ret
      exact ⟨rfl, b10.chg.none_below⟩
  by_cases p3 : arm = 2
  · as_aux_lemma =>
      obtain rfl : l0 = 2 := by omega
      have da : decide (arm < 0) = false := by simp; try omega
      have db : decide (2 < arm) = false := by simp; try omega
      clear hl0
      have g2 := wr_gen (L := [(nA, (⟨A1, m1, d1, true, xs1⟩ : FileG))]) (r := 4000) (l := 2) (x := nB) (n := n2) (l' := 1) (b := false) (by unfold stepL; simp; try omega) named_b (by show ((m1 + 0 : Nat) : Int) + n2 ≤ 4000; omega)
      go_wp2_with fail
      refine (b5.write nB k2 (HX.out.new b5.chg) (by omega) HC.out.2.1 HC.out.2.2 0 g2.1).mono ?_
      rintro e w6 ⟨⟨A2, m2, d2, sf2, xs2⟩, hn2, hxs2, hs2, rfl, b6⟩
      simp only at hn2 hxs2 hs2
      subst hn2 hxs2 hs2
      rw [g2.2 _ rfl] at b6
      have e2 : aput [(nA, (⟨A1, m1, d1, true, xs1⟩ : FileG))] nB ⟨A2, m2, d2, false, xs2⟩ = [(nA, ⟨A1, m1, d1, true, xs1⟩), (nB, ⟨A2, m2, d2, false, xs2⟩)] := rfl
      rw [e2] at b6
      clear b5 e2 g2
      go_wp2_with fail
      refine (b6.sync (s' := ⟨[(nA, (⟨A1, m1, d1, true, xs1⟩ : FileG)), (nB, ⟨A2, m2, d2, true, xs2⟩)], 4000, 0, false⟩) nB k2 0 (sync_gen (f := ⟨A2, m2, d2, false, xs2⟩) (l' := 0) (b := false) (by unfold stepL; simp; try omega) rfl)).mono ?_
      rintro e w7 ⟨rfl, b7⟩
      clear b6
      go_wp2_with fail
      refine (b7.rename (s' := ⟨[(nA, (⟨A1, m1, d1, true, xs1⟩ : FileG)), (nB, ⟨A2, m2, d2, true, xs2⟩)], 4000, 0, true⟩) nB nA k2 k1 50 (ren_gen (f := ⟨A2, m2, d2, true, xs2⟩) (l' := 0) (b := true) (by unfold stepL; simp; try omega) rfl named_a)).mono ?_
      rintro e w8 ⟨rfl, b8⟩
      clear b7
      go_wp2_with fail
      have hkk := b8.apart HK.out
      have hsf := (crashTo_inv (keep := keep) b8.nodup _ (Nat.le_refl _)).2.2.2.2 nA ⟨A1, m1, d1, true, xs1⟩ rfl rfl
      obtain ⟨L', hL'⟩ : ∃ L', crashL keep [(nA, (⟨A1, m1, d1, true, xs1⟩ : FileG)), (nB, ⟨A2, m2, d2, true, xs2⟩)] = L' := ⟨_, rfl⟩
      have hsf' : aget L' nA = some ⟨A1, m1, d1, true, xs1⟩ := by rw [← hL']; exact hsf
      refine (b8.crash (HK.out.new b8.chg) (by omega) (by simp) hkk L' hL').mono ?_
      rintro e w9 ⟨rfl, b9⟩
      clear hsf b8
      go_wp2_with fail
      refine (b9.read nA k1 ⟨A1, m1, d1, true, xs1⟩ rfl hsf').mono ?_
      rintro e w10 ⟨A10, c10, rfl, y10, -, -, b10, -⟩
      have hs1 := fun c => Bytes.toStr (c := c) y10
      have hs2 := Bytes.toStr (c := c1) (HO.out.new b10.chg)
      have hs3 := Bytes.toStr (c := c2) (HX.out.new b10.chg)
      have hbq := beq_bytes (strOfNums xs1)
      clear hsf' hL' hkk b9
      simp only at hs1
      go_wp2
      go_ret
      exact ⟨rfl, b10.chg.none_below⟩
  as_aux_lemma =>
    have p4 : 2 < l0 := by omega
    have da : decide (arm < 0) = false := by simp; omega
    have db : decide (2 < arm) = true := by simp; omega
    clear hl0
    have g2 := wr_gen (L := [(nA, (⟨A1, m1, d1, true, xs1⟩ : FileG))]) (r := 4000) (l := l0) (x := nB) (n := n2) (l' := l0 - 1) (b := false) (by unfold stepL; simp; try omega) named_b (by show ((m1 + 0 : Nat) : Int) + n2 ≤ 4000; omega)
    go_wp2_with fail
    refine (b5.write nB k2 (HX.out.new b5.chg) (by omega) HC.out.2.1 HC.out.2.2 0 g2.1).mono ?_
    rintro e w6 ⟨⟨A2, m2, d2, sf2, xs2⟩, hn2, hxs2, hs2, rfl, b6⟩
    simp only at hn2 hxs2 hs2
    subst hn2 hxs2 hs2
    rw [g2.2 _ rfl] at b6
    have e2 : aput [(nA, (⟨A1, m1, d1, true, xs1⟩ : FileG))] nB ⟨A2, m2, d2, false, xs2⟩ = [(nA, ⟨A1, m1, d1, true, xs1⟩), (nB, ⟨A2, m2, d2, false, xs2⟩)] := rfl
    rw [e2] at b6
    clear b5 e2 g2
    go_wp2_with fail
    refine (b6.sync (s' := ⟨[(nA, (⟨A1, m1, d1, true, xs1⟩ : FileG)), (nB, ⟨A2, m2, d2, true, xs2⟩)], 4000, l0 - 1 - 1, false⟩) nB k2 0 (sync_gen (f := ⟨A2, m2, d2, false, xs2⟩) (l' := l0 - 1 - 1) (b := false) (by unfold stepL; simp; try omega) rfl)).mono ?_
    rintro e w7 ⟨rfl, b7⟩
    clear b6
    go_wp2_with fail
    refine (b7.rename (s' := ⟨[(nA, (⟨A2, m2, d2, true, xs2⟩ : FileG))], 4000, l0 - 1 - 1 - 1, false⟩) nB nA k2 k1 0 (ren_gen (f := ⟨A2, m2, d2, true, xs2⟩) (l' := l0 - 1 - 1 - 1) (b := false) (by unfold stepL; simp; try omega) rfl named_a)).mono ?_
    rintro e w8 ⟨rfl, b8⟩
    clear b7
    go_wp2_with fail
    have hkk := b8.apart HK.out
    have hsf := (crashTo_inv (keep := keep) b8.nodup _ (Nat.le_refl _)).2.2.2.2 nA ⟨A2, m2, d2, true, xs2⟩ rfl rfl
    obtain ⟨L', hL'⟩ : ∃ L', crashL keep [(nA, (⟨A2, m2, d2, true, xs2⟩ : FileG))] = L' := ⟨_, rfl⟩
    have hsf' : aget L' nA = some ⟨A2, m2, d2, true, xs2⟩ := by rw [← hL']; exact hsf
    refine (b8.crash (HK.out.new b8.chg) (by omega) (by simp) hkk L' hL').mono ?_
    rintro e w9 ⟨rfl, b9⟩
    clear hsf b8
    go_wp2_with fail
    refine (b9.read nA k1 ⟨A2, m2, d2, true, xs2⟩ rfl hsf').mono ?_
    rintro e w10 ⟨A10, c10, rfl, y10, -, -, b10, -⟩
    have hs1 := fun c => Bytes.toStr (c := c) y10
    have hs2 := Bytes.toStr (c := c1) (HO.out.new b10.chg)
    have hs3 := Bytes.toStr (c := c2) (HX.out.new b10.chg)
    have hbq := beq_bytes (strOfNums xs2)
    clear hsf' hL' hkk b9
    simp only at hs1
    go_wp2
    go_ret
    exact ⟨rfl, b10.chg.none_below⟩
end Go.Proofs.Ytgmekeeemimnpaa
