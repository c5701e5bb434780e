/- Claim, where all is right. -/
import Derived.Test.YtgmekeeemimnpaaDoorC5
namespace Go.Proofs.YtgmekeeemimnpaaDoor
open Go Go.Maps Go.MapKept Go.RowKit

theorem max_if (a b : Int) : (if a < b then b else a) = max a b := by omega
theorem ListIs.get {m : Nat} {w w' : World} {e : Ending} (h : ListIs m w e w') : ∃ A n c, e = .returned (.slice A n c) ∧ Ints w' A n (slotsI m) ∧ (∀ b off, A = some ⟨b, off, none⟩ → w.heap.size ≤ b) ∧ (slotsOf m).length = n ∧ Chg (fun _ => False) w w' := by
  obtain ⟨A, n, c, rfl, ho, hc⟩ := h
  obtain ⟨A', c', hv, _, _, hb⟩ := ho.slice
  have hi := ho.ints (slotsI_ok m) rfl
  cases hv
  exact ⟨_, _, _, rfl, hi, hb, by simp [slotsI], hc⟩
theorem TabAt.set {w : World} {b : Nat} {f : Nat → Int} (h : TabAt w b f) (i : Nat) (v : Int) : TabAt (w.setCell ⟨b, i, none⟩ (.int .i64 v)) b (upd f i v) := by
  have := Blk.set_ h i (.int .i64 v)
  rw [tcs_set] at this
  exact this
theorem TabAt.congr {w : World} {b : Nat} {f g : Nat → Int} (h : TabAt w b f) (hf : ∀ i, i < 128 → f i = g i) : TabAt w b g := by
  unfold TabAt at h ⊢
  rw [← tcs_congr hf]
  exact h

section
variable {f : Nat → Int} {id ep : Int} {p q : Nat → Bool}
theorem clT_congr (h : ∀ j, j < 64 → p j = q j) : ∀ j, j < 128 → clT f id ep p j = clT f id ep q j := by
  intro j hj
  unfold clT
  by_cases h1 : j < 64
  · rw [if_pos h1, if_pos h1, h j h1]
  · rw [if_neg h1, if_neg h1, h (j - 64) (by omega)]
theorem tkN_bit (j : Nat) : (tkN f id ep p).testBit j = (decide (j < 64) && (p j && took f id ep j)) := mask_bit _ _ _
theorem tkN_lt : tkN f id ep p < 2 ^ 64 := mask_lt _ _
theorem tkN_congr (h : ∀ j, j < 64 → p j = q j) : tkN f id ep p = tkN f id ep q := by
  refine bits_eq tkN_lt tkN_lt fun j hj => ?_
  rw [tkN_bit, tkN_bit, h j hj]
variable {i : Nat} (hi : i < 64) (hp : p i = false)
include hi hp
theorem clT_own : clT f id ep p i = f i := by unfold clT; rw [if_pos hi, hp]; simp
theorem clT_ep : clT f id ep p (64 + i) = f (64 + i) := by
  unfold clT
  rw [if_neg (by omega), show 64 + i - 64 = i by omega, hp]; simp
theorem clT_same (hx : f i = id) : ∀ j, j < 128 → upd (clT f id ep p) (64 + i) (max (f (64 + i)) ep) j = clT f id ep (fun j => p j || decide (j = i)) j := by
  intro j hj
  have ht : took f id ep i = false := by unfold took; rw [hx]; simp
  unfold upd
  by_cases h1 : j = 64 + i
  · subst h1
    rw [if_pos rfl]
    unfold clT
    rw [if_neg (by omega), show 64 + i - 64 = i by omega]
    simp [hx]
  · rw [if_neg h1]
    unfold clT
    by_cases h2 : j < 64
    · rw [if_pos h2, if_pos h2]
      by_cases h3 : j = i
      · subst h3; simp [ht]
      · simp [h3]
    · rw [if_neg h2, if_neg h2]
      have h3 : ¬ (j - 64 = i) := by omega
      simp [h3]
theorem clT_take (hx : took f id ep i = true) : ∀ j, j < 128 → upd (upd (clT f id ep p) i id) (64 + i) ep j = clT f id ep (fun j => p j || decide (j = i)) j := by
  intro j hj
  have hn : (f i == id) = false := by unfold took at hx; simp at hx; simp [hx.1]
  unfold upd
  by_cases h1 : j = 64 + i
  · subst h1
    rw [if_pos rfl]
    unfold clT
    rw [if_neg (by omega), show 64 + i - 64 = i by omega]
    simp [hx, hn]
  · rw [if_neg h1]
    by_cases h2 : j = i
    · subst h2
      rw [if_pos rfl]
      unfold clT
      rw [if_pos hi]
      simp [hx]
    · rw [if_neg h2]
      unfold clT
      by_cases h3 : j < 64
      · rw [if_pos h3, if_pos h3]
        simp [h2]
      · rw [if_neg h3, if_neg h3]
        have h4 : ¬ (j - 64 = i) := by omega
        simp [h4]
theorem clT_none (hx : took f id ep i = false) (hn : f i ≠ id) : ∀ j, j < 128 → clT f id ep p j = clT f id ep (fun j => p j || decide (j = i)) j := by
  intro j hj
  have hn' : (f i == id) = false := by simpa using hn
  unfold clT
  by_cases h3 : j < 64
  · rw [if_pos h3, if_pos h3]
    by_cases h4 : j = i
    · subst h4; simp [hx]
    · simp [h4]
  · rw [if_neg h3, if_neg h3]
    by_cases h4 : j - 64 = i
    · subst h4; simp [hp, hx, hn']
    · simp [h4]
theorem tkN_no (hx : took f id ep i = false) : tkN f id ep p = tkN f id ep (fun j => p j || decide (j = i)) := by
  refine bits_eq tkN_lt tkN_lt fun j hj => ?_
  rw [tkN_bit, tkN_bit]
  by_cases h4 : j = i
  · subst h4; simp [hx]
  · simp [h4]
omit hp in
theorem tkN_or (hx : took f id ep i = true) : bits .or .u64 ((tkN f id ep p : Nat) : Int) ((2 ^ i : Nat) : Int) = ((tkN f id ep (fun j => p j || decide (j = i)) : Nat) : Int) := by
  have h2 : 2 ^ i < 2 ^ 64 := Nat.pow_lt_pow_right (by decide) hi
  rw [u64_or_nat _ _ tkN_lt h2]
  congr 1
  refine bits_eq (Nat.or_lt_two_pow tkN_lt h2) tkN_lt fun j hj => ?_
  rw [Nat.testBit_or, tkN_bit, tkN_bit, Nat.testBit_two_pow]
  by_cases h4 : i = j
  · subst h4; simp [hx, hi]
  · have : ¬ (j = i) := fun h => h4 h.symm
    simp [h4, this]
end

def inTake (L : List Nat) (k : Nat) : Nat → Bool := fun j => decide (j ∈ L.take k)
theorem inTake_succ {L : List Nat} {k : Nat} (h : k < L.length) : inTake L (k + 1) = fun j => inTake L k j || decide (j = L[k]) := by
  funext j
  unfold inTake
  have h1 : j ∈ L.take (k + 1) ↔ j ∈ L.take k ∨ j = L[k] := by rw [List.take_succ_eq_append_getElem h, List.mem_append, List.mem_singleton]
  simp only [h1, Bool.decide_or]
theorem inTake_new {L : List Nat} (hn : L.Nodup) {k : Nat} (h : k < L.length) : inTake L k L[k] = false := by
  unfold inTake
  rw [decide_eq_false_iff_not]
  intro hm
  obtain ⟨i, hi, he⟩ := List.mem_iff_getElem.1 hm
  rw [List.getElem_take] at he
  rw [List.length_take] at hi
  have := (List.getElem_inj hn).1 he
  omega
theorem inTake_all (m : Nat) {n : Nat} (hn : (slotsOf m).length = n) : ∀ j, j < 64 → inTake (slotsOf m) n j = m.testBit j := by
  intro j hj
  unfold inTake
  rw [← hn, List.take_length]
  cases h : m.testBit j with
  | true => simp [mem_slots, hj, h]
  | false => simp [mem_slots, h]

set_option maxRecDepth 100000 in
set_option maxHeartbeats 4000000 in
theorem claim_ok (w : World) (hTW : TabW w) (f : Nat → Int) (id ep : Int) (m : Nat) (hm : m < 2 ^ 64) (h : okC f id ep = true) :
    Calls Tryd.prog 16 #[.agg (tcs f), .int .i64 id, .int .i64 ep, .int .u64 (m : Int)] w fun e w' => ClaimOk f id ep m w e w' := by
  obtain ⟨wB, hwB⟩ : ∃ wB, wB = (w.alloc (.cells (tcs f) 24)).alloc (.cells (tcs zeroT) 24) := ⟨_, rfl⟩
  have hT : TabAt wB w.heap.size f := by rw [hwB]; exact (Blk.new w _ _).alloc _
  have hZ : TabAt wB (w.heap.size + 1) zeroT := by
    rw [hwB]
    have := Blk.new (w.alloc (.cells (tcs f) 24)) 24 (tcs zeroT)
    unfold TabAt
    simpa using this
  have hC : Chg (fun _ => False) w wB := by rw [hwB]; exact ((Chg.refl _ w).alloc _).alloc _
  have HB := hideIt hwB
  have HR := hideIt (right_calls wB f)
  clear hwB
  unfold okC at h
  simp only [Bool.and_eq_true, decide_eq_true_eq] at h
  obtain ⟨⟨hr, hi1, hi2⟩, he1, he2⟩ := h
  rw [hr] at HR
  have b1 : decide (id < 1) = false := by simp; omega
  have b2 : decide (id > 4294967296) = false := by simp; omega
  have b3 : decide (ep < 0) = false := by simp; omega
  have b4 : decide (ep > 281474976710656) = false := by simp; omega
  have HZ := hideIt hZ
  have HC := hideIt hC
  have HTW := hideIt (hTW.chg hC (fun h => h))
  obtain ⟨B, hB⟩ : ∃ B, Hid (w.heap.size = B) := ⟨_, hideIt rfl⟩
  clear hZ hC hr hTW
  go_enter Tryd.func16, Tryd.ntmps16
  go_wp2_with (first | (refine wpList_allocagg _ rfl 24 rfl (zero_tab _) ?_; rw [← HB.out]) | (refine wpList_loadv _ rfl 24 _ rfl rfl hT.load ?_) | (go_at_call 19; refine HR.out.mono ?_; rintro e w1 ⟨rfl, k1⟩; have tz := HTW.out.chg k1 (fun h => h)) | (go_at_call 18; refine (list_calls w1 tz m hm).mono ?_; rintro e w2 hlist; obtain ⟨A, n, c, rfl, hints, hbase, hlen, k2⟩ := hlist.get; clear hlist tz))
  have hZ2 : TabAt w2 (w.heap.size + 1) zeroT := (HZ.out.chg k1 (fun h => h)).chg k2 (fun h => h)
  have hT2 : TabAt w2 w.heap.size f := (hT.chg k1 (fun h => h)).chg k2 (fun h => h)
  have hC2 := hideIt ((HC.out.trans k1).trans k2)
  have hBlt : w.heap.size < w1.heap.size := Nat.lt_of_lt_of_le hT.lt k1.size
  have HZ2 := hideIt hZ2
  have hn64 : n ≤ 64 := by rw [← hlen]; exact slots_len m
  have HLEN := hideIt hlen
  have HINT := hideIt hints
  have h0 : TabAt w2 w.heap.size (clT f id ep (inTake (slotsOf m) 0)) := hT2.congr (fun i _ => by
    have e : inTake (slotsOf m) 0 = fun _ => false := by funext j; simp [inTake]
    rw [e]
    unfold clT
    by_cases hh : i < 64 <;> simp [hh])
  have t0 : tkN f id ep (inTake (slotsOf m) 0) = 0 := by
    refine bits_eq tkN_lt (by decide) fun j hj => ?_
    rw [tkN_bit]
    simp [inTake]
  have HT0 := hideIt t0
  clear hZ2 hT2 hints hlen t0
  go_loopw [9, 37] (fun tk i wr => ∃ k : Nat, k ≤ n ∧ i = .int .i64 k ∧ tk = .int .u64 ((tkN f id ep (inTake (slotsOf m) k) : Nat) : Int) ∧ TabAt wr w.heap.size (clT f id ep (inTake (slotsOf m) k)) ∧ Chg (fun i => i = w.heap.size) w2 wr) (fun _ i _ => n - (intOf i).toNat)
  case atStart => exact ⟨0, by omega, rfl, by rw [HT0.out]; rfl, h0, Chg.refl _ _⟩
  case round =>
    obtain ⟨k, hk, rfl, rfl, hTk, hCk⟩ := hrel
    by_cases hlt : k < n
    · have hkl : k < (slotsOf m).length := by rw [HLEN.out]; exact hlt
      have hnew := inTake_new (slots_nodup m) hkl
      have hsucc := inTake_succ hkl
      have hi64 := (mem_slots.1 (List.getElem_mem hkl)).1
      obtain ⟨b, off, rfl, hbl, hcell⟩ := HINT.out.at_ (by omega)
      have hbB : b ≠ w.heap.size := by have := hbase b off rfl; omega
      have hx := (hCk.cell (p := ⟨b, off + k, none⟩) hbl hbB).trans (hcell k hlt)
      have hget : (slotsI m).getD k 0 = (((slotsOf m)[k] : Nat) : Int) := by simp [slotsI, List.getD, hkl]
      rw [hget] at hx
      obtain ⟨i, hI⟩ : ∃ i, (slotsOf m)[k] = i := ⟨_, rfl⟩
      rw [hI] at hx hnew hsucc hi64
      have hco := hTk.cell (show i < 128 by omega)
      have hce := hTk.cell (show 64 + i < 128 by omega)
      rw [clT_own hi64 hnew] at hco
      rw [clT_ep hi64 hnew] at hce
      obtain ⟨x, hxe⟩ : ∃ x, f i = x := ⟨_, rfl⟩
      obtain ⟨y, hye⟩ : ∃ y, f (64 + i) = y := ⟨_, rfl⟩
      have htk : took f id ep i = (!(x == id) && (x == 0 || decide (y < ep))) := by unfold took; rw [hxe, hye]
      rw [hxe] at hco
      rw [hye] at hce
      have f1 := Blk.frozen hTk i
      have f2 := Blk.frozen hTk (64 + i)
      have HTK := hideIt hTk
      have HCK := hideIt hCk
      have HNEW := hideIt hnew
      have HSUCC := hideIt hsucc
      have HXE := hideIt hxe
      have HYE := hideIt hye
      clear hcell hget hI hTk hnew hsucc hxe hye hbase hkl
      by_cases c1 : x = id
      · have d1 : (x == id) = true := by simpa using c1
        have ht : took f id ep i = false := by rw [htk, d1]; simp
        have HA := hideIt (clT_same (ep := ep) hi64 HNEW.out (HXE.out.trans c1))
        have HB2 := hideIt (tkN_no hi64 HNEW.out ht)
        clear htk ht
        go_wp2
        refine ⟨⟨k + 1, by omega, by go_num, by rw [HSUCC.out, ← HB2.out], ?_, HCK.out.setCell (.inl rfl) _⟩, by simp [intOf]; omega⟩
        rw [HSUCC.out]
        refine (HTK.out.set (64 + i) _).congr fun j hj => (?_ : _ = _).trans (HA.out j hj)
        rw [HYE.out, max_if]
      · have d1 : (x == id) = false := by simpa using c1
        rw [d1] at htk
        by_cases c2 : x = 0
        · have d2 : (x == 0) = true := by simpa using c2
          have ht : took f id ep i = true := by rw [htk, d2]; simp
          have HA := hideIt (clT_take (ep := ep) hi64 HNEW.out ht)
          have HB2 := hideIt ((congrArg (bits .or .u64 _) (shl_u64 hi64)).trans (tkN_or (p := inTake (slotsOf m) k) hi64 ht))
          clear htk ht
          go_wp2
          refine ⟨⟨k + 1, by omega, by go_num, by rw [HSUCC.out, HB2.out], ?_, (HCK.out.setCell (.inl rfl) _).setCell (.inl rfl) _⟩, by simp [intOf]; omega⟩
          rw [HSUCC.out]
          exact ((HTK.out.set i _).set (64 + i) _).congr HA.out
        · have d2 : (x == 0) = false := by simpa using c2
          rw [d2] at htk
          by_cases c3 : y < ep
          · have d3 : decide (y < ep) = true := by simpa using c3
            have ht : took f id ep i = true := by rw [htk, d3]; simp
            have HA := hideIt (clT_take (ep := ep) hi64 HNEW.out ht)
            have HB2 := hideIt ((congrArg (bits .or .u64 _) (shl_u64 hi64)).trans (tkN_or (p := inTake (slotsOf m) k) hi64 ht))
            clear htk ht
            go_wp2
            refine ⟨⟨k + 1, by omega, by go_num, by rw [HSUCC.out, HB2.out], ?_, (HCK.out.setCell (.inl rfl) _).setCell (.inl rfl) _⟩, by simp [intOf]; omega⟩
            rw [HSUCC.out]
            exact ((HTK.out.set i _).set (64 + i) _).congr HA.out
          · have d3 : decide (y < ep) = false := by simpa using c3
            have ht : took f id ep i = false := by rw [htk, d3]; simp
            have HA := hideIt (clT_none (ep := ep) hi64 HNEW.out ht (by rw [HXE.out]; exact c1))
            have HB2 := hideIt (tkN_no hi64 HNEW.out ht)
            clear htk ht
            go_wp2
            refine ⟨⟨k + 1, by omega, by go_num, by rw [HSUCC.out, ← HB2.out], ?_, HCK.out⟩, by simp [intOf]; omega⟩
            rw [HSUCC.out]
            exact HTK.out.congr HA.out
    · obtain rfl : k = n := by omega
      have hall := inTake_all m HLEN.out
      have hTn : TabAt wr w.heap.size (clT f id ep m.testBit) := hTk.congr (clT_congr hall)
      have htn := hideIt (tkN_congr (f := f) (id := id) (ep := ep) hall)
      have hzn : TabAt wr (w.heap.size + 1) zeroT := HZ2.out.chg hCk (fun h => by omega)
      obtain ⟨w3, s3, t3, c3, z3⟩ := hzn.store (clT f id ep m.testBit)
      have HCK := hideIt hCk
      clear hall hTk hCk hbase hzn
      go_wp2_with (first | (refine wpList_loadv _ rfl 24 _ rfl rfl hTn.load ?_) | (refine wpList_storev _ rfl 24 _ _ rfl rfl rfl s3 ?_))
      (try simp only [Exit.inBlock, Exit.then])
      refine bodyPost_ret (results_cell3 rfl rfl t3.load) rfl ?_
      refine ⟨?_, ((hC2.out.trans' HCK.out (fun i hi => .inr (by subst hi; exact Nat.le_refl _))).trans' c3 (fun i hi => .inr (by subst hi; omega)))⟩
      simp only []
      rw [← htn.out]
      rfl
end Go.Proofs.YtgmekeeemimnpaaDoor
