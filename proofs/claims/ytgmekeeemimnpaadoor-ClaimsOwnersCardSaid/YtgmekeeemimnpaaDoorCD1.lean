/- Drop, walked. (Printed by wip/gen_drop.py.) -/
import Derived.Test.YtgmekeeemimnpaaDoorC9
namespace Go.Proofs.YtgmekeeemimnpaaDoor
open Go Go.Maps Go.MapKept Go.RowKit

def okD (f : Nat → Int) (id : Int) : Bool := rightT f && (decide (1 ≤ id) && decide (id ≤ 4294967296))
theorem okD_eq (f : Nat → Int) (id : Int) : okD f id = (rightT f && idB id) := rfl
/-- What is dropped. -/
def dpN (f : Nat → Int) (id : Int) (m : Nat) : Nat := ofN f id &&& (18446744073709551615 - m)
/-- The table behind a Drop of the slots p. -/
def dpT (f : Nat → Int) (p : Nat → Bool) : Nat → Int := fun j => if j < 64 then (if p j then 0 else f j) else (if p (j - 64) then 0 else f j)
theorem dpN_lt {f : Nat → Int} {id : Int} {m : Nat} : dpN f id m < 2 ^ 64 := Nat.lt_of_le_of_lt Nat.and_le_left (ofN_lt _ _)
theorem not_bit {m q i : Nat} (hq : q < 2 ^ 64) (hi : i < 64) : (m &&& (18446744073709551615 - q)).testBit i = (m.testBit i && !q.testBit i) := by
  rw [Nat.testBit_and]
  have h := Nat.testBit_two_pow_sub_succ (n := 64) hq i
  rw [show (2 : Nat) ^ 64 - (q + 1) = 18446744073709551615 - q by omega] at h
  rw [h]
  simp [hi]
theorem ofN_bit {f : Nat → Int} {id : Int} {i : Nat} (hi : i < 64) : (ofN f id).testBit i = (f i == id) := by
  unfold ofN; rw [mask_bit]; simp [hi]
theorem dpN_bit {f : Nat → Int} {id : Int} {m i : Nat} (hm : m < 2 ^ 64) (hi : i < 64) : (dpN f id m).testBit i = ((f i == id) && !m.testBit i) := by
  unfold dpN; rw [not_bit hm hi, ofN_bit hi]
theorem dpT_own {f : Nat → Int} {p : Nat → Bool} {i : Nat} (hi : i < 64) : dpT f p i = if p i then 0 else f i := by unfold dpT; rw [if_pos hi]
theorem dpT_ep {f : Nat → Int} {p : Nat → Bool} {i : Nat} : dpT f p (64 + i) = if p i then 0 else f (64 + i) := by
  unfold dpT; rw [if_neg (by omega), show 64 + i - 64 = i by omega]
theorem dpT_congr {f : Nat → Int} {p q : Nat → Bool} (h : ∀ j, j < 64 → p j = q j) : ∀ j, j < 128 → dpT f p j = dpT f q j := by
  intro j hj
  unfold dpT
  by_cases hh : j < 64
  · rw [if_pos hh, if_pos hh, h j hh]
  · rw [if_neg hh, if_neg hh, h (j - 64) (by omega)]
theorem dpT_step {f : Nat → Int} {p : Nat → Bool} {i : Nat} (hi : i < 64) : ∀ j, j < 128 → upd (upd (dpT f p) i 0) (64 + i) 0 j = dpT f (fun j => p j || decide (j = i)) j := by
  intro j hj
  unfold upd dpT
  by_cases h1 : j = 64 + i
  · rw [if_pos h1, if_neg (by omega)]
    simp [show j - 64 = i by omega]
  · rw [if_neg h1]
    by_cases h2 : j = i
    · rw [if_pos h2, if_pos (by omega)]
      simp [h2]
    · rw [if_neg h2]
      by_cases hh : j < 64
      · rw [if_pos hh, if_pos hh]; simp [h2]
      · rw [if_neg hh, if_neg hh]; simp [show ¬ j - 64 = i by omega]

set_option maxRecDepth 100000 in
set_option maxHeartbeats 2000000 in
theorem drop_bad (w : World) (f : Nat → Int) (id : Int) (m : Nat) (h : okD f id = false) :
    Calls Tryd.prog 23 #[.agg (tcs f), .int .i64 id, .int .u64 (m : Int)] w fun e w' => ClaimBad w e w' := by
  obtain ⟨wB, hwB⟩ : ∃ wB, wB = (w.alloc (.cells (tcs f) 24)).alloc (.cells (tcs zeroT) 24) := ⟨_, rfl⟩
  have hT : TabAt wB w.heap.size f := by rw [hwB]; exact (Blk.new w _ _).alloc _
  have hZ : TabAt wB (w.heap.size + 1) zeroT := by
    rw [hwB]
    have := Blk.new (w.alloc (.cells (tcs f) 24)) 24 (tcs zeroT)
    unfold TabAt
    simpa using this
  have hC : Chg (fun _ => False) w wB := by rw [hwB]; exact ((Chg.refl _ w).alloc _).alloc _
  have HB := hideIt hwB
  have HR := hideIt (right_calls wB f)
  clear hwB
  have HZ := hideIt hZ
  have HC := hideIt hC
  have HH := hideIt h
  clear hZ hC h
  obtain ⟨r, hr⟩ : ∃ r, rightT f = r := ⟨_, rfl⟩
  rw [hr] at HR
  have hok := HH.out
  unfold okD at hok
  rw [hr] at hok
  cases r with
  | false =>
    clear hok hr
    go_enter Tryd.func23, Tryd.ntmps23
    go_wp2_with (first | (refine wpList_allocagg _ rfl 24 rfl (zero_tab _) ?_; rw [← HB.out]) | (refine wpList_loadv _ rfl 24 _ rfl rfl hT.load ?_) | (go_at_call 19; refine HR.out.mono ?_; rintro e w1 ⟨rfl, k1⟩; obtain ⟨w2, s2, t2, c2, z2⟩ := (HZ.out.chg k1 (fun h => h)).store zeroT) | (refine wpList_buildv _ rfl 24 rfl (build_tab _) ?_) | (refine wpList_storev _ rfl 24 _ _ rfl rfl rfl s2 ?_))
    (try simp only [Exit.inBlock, Exit.then])
    refine bodyPost_ret (results_cell3 rfl rfl t2.load) rfl ?_
    exact ⟨rfl, (HC.out.trans k1).trans' c2 (fun i hi => .inr (by subst hi; have := HC.out.size; simp))⟩
  | true =>
    by_cases a1 : id < 1
    · have b1 : decide (id < 1) = true := by simpa using a1
      clear hok hr
      go_enter Tryd.func23, Tryd.ntmps23
      go_wp2_with (first | (refine wpList_allocagg _ rfl 24 rfl (zero_tab _) ?_; rw [← HB.out]) | (refine wpList_loadv _ rfl 24 _ rfl rfl hT.load ?_) | (go_at_call 19; refine HR.out.mono ?_; rintro e w1 ⟨rfl, k1⟩; obtain ⟨w2, s2, t2, c2, z2⟩ := (HZ.out.chg k1 (fun h => h)).store zeroT) | (refine wpList_buildv _ rfl 24 rfl (build_tab _) ?_) | (refine wpList_storev _ rfl 24 _ _ rfl rfl rfl s2 ?_))
      (try simp only [Exit.inBlock, Exit.then])
      refine bodyPost_ret (results_cell3 rfl rfl t2.load) rfl ?_
      exact ⟨rfl, (HC.out.trans k1).trans' c2 (fun i hi => .inr (by subst hi; have := HC.out.size; simp))⟩
    have b1 : decide (id < 1) = false := by simpa using a1
    by_cases a2 : id > 4294967296
    · have b2 : decide (id > 4294967296) = true := by simpa using a2
      clear hok hr
      go_enter Tryd.func23, Tryd.ntmps23
      go_wp2_with (first | (refine wpList_allocagg _ rfl 24 rfl (zero_tab _) ?_; rw [← HB.out]) | (refine wpList_loadv _ rfl 24 _ rfl rfl hT.load ?_) | (go_at_call 19; refine HR.out.mono ?_; rintro e w1 ⟨rfl, k1⟩; obtain ⟨w2, s2, t2, c2, z2⟩ := (HZ.out.chg k1 (fun h => h)).store zeroT) | (refine wpList_buildv _ rfl 24 rfl (build_tab _) ?_) | (refine wpList_storev _ rfl 24 _ _ rfl rfl rfl s2 ?_))
      (try simp only [Exit.inBlock, Exit.then])
      refine bodyPost_ret (results_cell3 rfl rfl t2.load) rfl ?_
      exact ⟨rfl, (HC.out.trans k1).trans' c2 (fun i hi => .inr (by subst hi; have := HC.out.size; simp))⟩
    have b2 : decide (id > 4294967296) = false := by simpa using a2
    exfalso
    simp at hok
    omega

set_option maxRecDepth 100000 in
set_option maxHeartbeats 4000000 in
theorem drop_ok (w : World) (hTW : TabW w) (f : Nat → Int) (id : Int) (m : Nat) (hm : m < 2 ^ 64) (h : okD f id = true) :
    Calls Tryd.prog 23 #[.agg (tcs f), .int .i64 id, .int .u64 (m : Int)] w fun e w' => e = .returned (.tuple #[.agg (tcs (dpT f (dpN f id m).testBit)), .int .u64 (dpN f id m : Int), .int .i64 0]) ∧ Chg (fun _ => False) w w' := by
  obtain ⟨wB, hwB⟩ : ∃ wB, wB = (w.alloc (.cells (tcs f) 24)).alloc (.cells (tcs zeroT) 24) := ⟨_, rfl⟩
  have hT : TabAt wB w.heap.size f := by rw [hwB]; exact (Blk.new w _ _).alloc _
  have hZ : TabAt wB (w.heap.size + 1) zeroT := by
    rw [hwB]
    have := Blk.new (w.alloc (.cells (tcs f) 24)) 24 (tcs zeroT)
    unfold TabAt
    simpa using this
  have hC : Chg (fun _ => False) w wB := by rw [hwB]; exact ((Chg.refl _ w).alloc _).alloc _
  have HB := hideIt hwB
  have HR := hideIt (right_calls wB f)
  clear hwB
  unfold okD at h
  simp only [Bool.and_eq_true, decide_eq_true_eq] at h
  obtain ⟨hr, hi1, hi2⟩ := h
  rw [hr] at HR
  have b1 : decide (id < 1) = false := by simp; omega
  have b2 : decide (id > 4294967296) = false := by simp; omega
  obtain ⟨so, hso⟩ : ∃ so, ofN f id = so := ⟨_, rfl⟩
  have hsl : so < 2 ^ 64 := by rw [← hso]; exact ofN_lt _ _
  obtain ⟨d, hd⟩ : ∃ d, dpN f id m = d := ⟨_, rfl⟩
  have hdl : d < 2 ^ 64 := by rw [← hd]; exact dpN_lt
  have han : bits .andNot .u64 (so : Int) (m : Int) = (d : Int) := by rw [u64_andNot_nat _ _ hsl hm, ← hd, ← hso]; rfl
  have HOF := hideIt (fun W : World => of_calls W f id)
  rw [hso] at HOF
  rw [hd]
  have HZ := hideIt hZ
  have HC := hideIt hC
  have HTW := hideIt (hTW.chg hC (fun h => h))
  clear hZ hC hr hTW hso hd
  go_enter Tryd.func23, Tryd.ntmps23
  go_wp2_with (first | (refine wpList_allocagg _ rfl 24 rfl (zero_tab _) ?_; rw [← HB.out]) | (refine wpList_loadv _ rfl 24 _ rfl rfl hT.load ?_) | (go_at_call 19; refine HR.out.mono ?_; rintro e w1 ⟨rfl, k1⟩; have hT1 := hT.chg k1 (fun h => h)) | (refine wpList_loadv _ rfl 24 _ rfl rfl hT1.load ?_) | (go_at_call 17; refine (HOF.out w1).mono ?_; rintro e w1' ⟨rfl, k1'⟩; have tz := (HTW.out.chg k1 (fun h => h)).chg k1' (fun h => h)) | (go_at_call 18; refine (list_calls w1' tz d hdl).mono ?_; rintro e w2 hlist; obtain ⟨A, n, c, rfl, hints, hbase, hlen, k2⟩ := hlist.get; clear hlist tz))
  have hZ2 : TabAt w2 (w.heap.size + 1) zeroT := ((HZ.out.chg k1 (fun h => h)).chg k1' (fun h => h)).chg k2 (fun h => h)
  have hT2 : TabAt w2 w.heap.size f := (hT1.chg k1' (fun h => h)).chg k2 (fun h => h)
  have hC2 := hideIt (((HC.out.trans k1).trans k1').trans k2)
  have hBlt : w.heap.size < w1'.heap.size := Nat.lt_of_lt_of_le hT1.lt k1'.size
  have HZ2 := hideIt hZ2
  have hn64 : n ≤ 64 := by rw [← hlen]; exact slots_len d
  have HLEN := hideIt hlen
  have HINT := hideIt hints
  have h0 : TabAt w2 w.heap.size (dpT f (inTake (slotsOf d) 0)) := hT2.congr (fun i _ => by
    have e : inTake (slotsOf d) 0 = fun _ => false := by funext j; simp [inTake]
    rw [e]
    unfold dpT
    by_cases hh : i < 64 <;> simp [hh])
  clear hZ2 hT2 hints hlen hT1 hT
  go_loopw [31] (fun i wr => ∃ k : Nat, k ≤ n ∧ i = .int .i64 k ∧ TabAt wr w.heap.size (dpT f (inTake (slotsOf d) k)) ∧ Chg (fun i => i = w.heap.size) w2 wr) (fun i _ => n - (intOf i).toNat)
  case atStart => exact ⟨0, by omega, rfl, h0, Chg.refl _ _⟩
  case round =>
    clear h0
    obtain ⟨k, hk, rfl, hTk, hCk⟩ := hrel
    by_cases hlt : k < n
    · have hkl : k < (slotsOf d).length := by rw [HLEN.out]; exact hlt
      have hsucc := inTake_succ hkl
      have hi64 := (mem_slots.1 (List.getElem_mem hkl)).1
      obtain ⟨b, off, rfl, hbl, hcell⟩ := HINT.out.at_ (by omega)
      have hbB : b ≠ w.heap.size := by have := hbase b off rfl; omega
      have hx := (hCk.cell (p := ⟨b, off + k, none⟩) hbl hbB).trans (hcell k hlt)
      have hget : (slotsI d).getD k 0 = (((slotsOf d)[k] : Nat) : Int) := by simp [slotsI, List.getD, hkl]
      rw [hget] at hx
      obtain ⟨i, hI⟩ : ∃ i, (slotsOf d)[k] = i := ⟨_, rfl⟩
      rw [hI] at hx hsucc hi64
      have hco := hTk.cell (show i < 128 by omega)
      have hce := hTk.cell (show 64 + i < 128 by omega)
      obtain ⟨x, hxe⟩ : ∃ x, dpT f (inTake (slotsOf d) k) i = x := ⟨_, rfl⟩
      obtain ⟨y, hye⟩ : ∃ y, dpT f (inTake (slotsOf d) k) (64 + i) = y := ⟨_, rfl⟩
      rw [hxe] at hco
      rw [hye] at hce
      have f1 := Blk.frozen hTk i
      have f2 := Blk.frozen hTk (64 + i)
      have HTK := hideIt hTk
      have HCK := hideIt hCk
      have HSUCC := hideIt hsucc
      have HA := hideIt (dpT_step (f := f) (p := inTake (slotsOf d) k) hi64)
      clear hcell hget hI hTk hsucc hxe hye hbase hkl
      go_wp2
      go_roundw
      case rel =>
        refine ⟨k + 1, by omega, by go_num, ?_, (HCK.out.setCell (.inl rfl) _).setCell (.inl rfl) _⟩
        rw [HSUCC.out]
        exact ((HTK.out.set i _).set (64 + i) _).congr HA.out
      case measure => simp [intOf]; omega
    · obtain rfl : k = n := by omega
      have hall := inTake_all d HLEN.out
      have hTn : TabAt wr w.heap.size (dpT f d.testBit) := hTk.congr (dpT_congr hall)
      have hzn : TabAt wr (w.heap.size + 1) zeroT := HZ2.out.chg hCk (fun h => by omega)
      obtain ⟨w3, s3, t3, c3, z3⟩ := hzn.store (dpT f d.testBit)
      have HCK := hideIt hCk
      clear hall hTk hCk hbase hzn
      go_wp2_with (first | (refine wpList_loadv _ rfl 24 _ rfl rfl hTn.load ?_) | (refine wpList_storev _ rfl 24 _ _ rfl rfl rfl s3 ?_))
      (try simp only [Exit.inBlock, Exit.then])
      refine bodyPost_ret (results_cell3 rfl rfl t3.load) rfl ?_
      exact ⟨rfl, ((hC2.out.trans' HCK.out (fun i hi => .inr (by subst hi; exact Nat.le_refl _))).trans' c3 (fun i hi => .inr (by subst hi; omega)))⟩
theorem drop_is (w : World) (hTW : TabW w) (f : Nat → Int) (id : Int) (m : Nat) (hm : m < 2 ^ 64) (h : okD f id = true) (d : Nat) (hd : dpN f id m = d) (g : Nat → Int) (hg : dpT f d.testBit = g) :
    Calls Tryd.prog 23 #[.agg (tcs f), .int .i64 id, .int .u64 (m : Int)] w fun e w' => e = .returned (.tuple #[.agg (tcs g), .int .u64 (d : Int), .int .i64 0]) ∧ Chg (fun _ => False) w w' := by
  subst hd hg
  exact drop_ok w hTW f id m hm h
end Go.Proofs.YtgmekeeemimnpaaDoor
