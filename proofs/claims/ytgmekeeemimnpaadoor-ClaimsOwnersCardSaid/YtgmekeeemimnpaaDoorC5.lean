/- Has and Claim walked. -/
import Derived.Test.YtgmekeeemimnpaaDoorC4
namespace Go.Proofs.YtgmekeeemimnpaaDoor
open Go Go.Maps Go.MapKept Go.RowKit

theorem TabAt.chg {S : Nat → Prop} {w w' : World} {b : Nat} {f : Nat → Int} (h : TabAt w b f) (hc : Chg S w w') (hS : ¬ S b) : TabAt w' b f := Blk.chg h hc hS
theorem TabAt.lt {w : World} {b : Nat} {f : Nat → Int} (h : TabAt w b f) : b < w.heap.size := Blk.lt h

theorem results_cell3 {P : Program} {fn : Func} {p u v : Tmp} {ty : TypeId} (h : fn.results = #[.cell p ty, .tmp u, .tmp v]) {tmps : Array Value} {w : World} {ad : Addr} {x : Value} (hp : tmps.getD p undef = .pointer (some ad))
    (hl : (loadVar ty ad).run P w = .ok x w) : (results fn tmps).run P w = .ok (.tuple #[x, tmps.getD u undef, tmps.getD v undef]) w := by
  have hp' : tmps[p]?.getD undef = .pointer (some ad) := by simpa using hp
  simp only [results, h]
  simp [Result.andThen, hp', asAddr, hl]

theorem u64_bit {m k : Nat} (hm : m < 2 ^ 64) : bits .and .u64 ((m : Int) / 2 ^ k) 1 = ((m.testBit k).toNat : Int) := by
  have h1 : ((m : Int) / 2 ^ k) = ((m / 2 ^ k : Nat) : Int) := by
    rw [Int.natCast_ediv, Int.natCast_pow]; rfl
  rw [h1]
  have h2 := u64_and_nat (m / 2 ^ k) 1 (Nat.lt_of_le_of_lt (Nat.div_le_self _ _) hm) (by decide)
  refine (show bits .and .u64 ((m / 2 ^ k : Nat) : Int) 1 = bits .and .u64 ((m / 2 ^ k : Nat) : Int) ((1 : Nat) : Int) from rfl).trans (h2.trans ?_)
  rw [Nat.and_one_is_mod, Nat.testBit_eq_decide_div_mod_eq]
  rcases Nat.mod_two_eq_zero_or_one (m / 2 ^ k) with h | h <;> simp [h]

set_option maxHeartbeats 400000 in
theorem has_calls (w : World) (m : Nat) (hm : m < 2 ^ 64) (k : Nat) (hk : k < 64) : Calls Tryd.prog 20 #[.int .u64 (m : Int), .int .i64 (k : Int)] w fun e w' => e = .returned (.bool (m.testBit k)) ∧ w = w' := by
  have b1 : decide ((k : Int) ≥ 0) = true := by simp
  have b2 : decide ((k : Int) < 64) = true := by simp; omega
  have hb := u64_bit (k := k) hm
  go_enter Tryd.func20, Tryd.ntmps20
  go_wp2
  all_goals go_ret
  all_goals exact ⟨ret_bool (by cases m.testBit k <;> simp), rfl⟩

section
variable {P : Program} (w : World) {ops : Array Oper} {rest : List Oper} {o : Oper} {a : Act} {Q : Exit → Act → World → Prop}
theorem wpList_allocagg (hg : o.guard = none) (t : TypeId) (hop : o.op = Op.alloc t) {cs : Array Value} (hz : (zeroValue t).run P w = .ok (.agg cs) w)
    (hK : wpList P ops Q rest (a.put o.dst (.pointer (some ⟨w.heap.size, 0, none⟩))) (w.alloc (.cells cs t))) : wpList P ops Q (o :: rest) a w := wpList_allocv w hg t hop hz hK
end

def took (f : Nat → Int) (id ep : Int) (i : Nat) : Bool := !(f i == id) && (f i == 0 || decide (f (64 + i) < ep))
/-- A table behind a claim of the slots of p. -/
def clT (f : Nat → Int) (id ep : Int) (p : Nat → Bool) : Nat → Int := fun j =>
  if j < 64 then (if p j && took f id ep j then id else f j)
  else if p (j - 64) then (if f (j - 64) == id then max (f j) ep else if took f id ep (j - 64) then ep else f j) else f j
def tkN (f : Nat → Int) (id ep : Int) (p : Nat → Bool) : Nat := mask (fun j => p j && took f id ep j) 64
def okC (f : Nat → Int) (id ep : Int) : Bool := rightT f && (decide (1 ≤ id) && decide (id ≤ 4294967296)) && (decide (0 ≤ ep) && decide (ep ≤ 281474976710656))

def ClaimBad (w : World) (e : Ending) (w' : World) : Prop := e = .returned (.tuple #[.agg (tcs zeroT), .int .u64 0, .int .i64 10]) ∧ Chg (fun _ => False) w w'
def ClaimOk (f : Nat → Int) (id ep : Int) (m : Nat) (w : World) (e : Ending) (w' : World) : Prop :=
  e = .returned (.tuple #[.agg (tcs (clT f id ep m.testBit)), .int .u64 (tkN f id ep m.testBit : Int), .int .i64 0]) ∧ Chg (fun _ => False) w w'

set_option maxRecDepth 100000 in
set_option maxHeartbeats 2000000 in
theorem claim_bad (w : World) (f : Nat → Int) (id ep : Int) (m : Nat) (h : okC f id ep = false) :
    Calls Tryd.prog 16 #[.agg (tcs f), .int .i64 id, .int .i64 ep, .int .u64 (m : Int)] w fun e w' => ClaimBad w e w' := by
  obtain ⟨wB, hwB⟩ : ∃ wB, wB = (w.alloc (.cells (tcs f) 24)).alloc (.cells (tcs zeroT) 24) := ⟨_, rfl⟩
  have hT : TabAt wB w.heap.size f := by rw [hwB]; exact (Blk.new w _ _).alloc _
  have hZ : TabAt wB (w.heap.size + 1) zeroT := by
    rw [hwB]
    have := Blk.new (w.alloc (.cells (tcs f) 24)) 24 (tcs zeroT)
    unfold TabAt
    simpa using this
  have hC : Chg (fun _ => False) w wB := by rw [hwB]; exact ((Chg.refl _ w).alloc _).alloc _
  have HB := hideIt hwB
  have HR := hideIt (right_calls wB f)
  clear hwB
  have HZ := hideIt hZ
  have HC := hideIt hC
  have HH := hideIt h
  clear hZ hC h
  obtain ⟨r, hr⟩ : ∃ r, rightT f = r := ⟨_, rfl⟩
  rw [hr] at HR
  have hok := HH.out
  unfold okC at hok
  rw [hr] at hok
  cases r with
  | false =>
    clear hok hr
    go_enter Tryd.func16, Tryd.ntmps16
    go_wp2_with (first | (refine wpList_allocagg _ rfl 24 rfl (zero_tab _) ?_; rw [← HB.out]) | (refine wpList_loadv _ rfl 24 _ rfl rfl hT.load ?_) | (go_at_call 19; refine HR.out.mono ?_; rintro e w1 ⟨rfl, k1⟩; obtain ⟨w2, s2, t2, c2, z2⟩ := (HZ.out.chg k1 (fun h => h)).store zeroT) | (refine wpList_buildv _ rfl 24 rfl (build_tab _) ?_) | (refine wpList_storev _ rfl 24 _ _ rfl rfl rfl s2 ?_))
    (try simp only [Exit.inBlock, Exit.then])
    refine bodyPost_ret (results_cell3 rfl rfl t2.load) rfl ?_
    exact ⟨rfl, (HC.out.trans k1).trans' c2 (fun i hi => .inr (by subst hi; have := HC.out.size; simp))⟩
  | true =>
    by_cases a1 : id < 1
    · have b1 : decide (id < 1) = true := by simpa using a1
      clear hok hr
      go_enter Tryd.func16, Tryd.ntmps16
      go_wp2_with (first | (refine wpList_allocagg _ rfl 24 rfl (zero_tab _) ?_; rw [← HB.out]) | (refine wpList_loadv _ rfl 24 _ rfl rfl hT.load ?_) | (go_at_call 19; refine HR.out.mono ?_; rintro e w1 ⟨rfl, k1⟩; obtain ⟨w2, s2, t2, c2, z2⟩ := (HZ.out.chg k1 (fun h => h)).store zeroT) | (refine wpList_buildv _ rfl 24 rfl (build_tab _) ?_) | (refine wpList_storev _ rfl 24 _ _ rfl rfl rfl s2 ?_))
      (try simp only [Exit.inBlock, Exit.then])
      refine bodyPost_ret (results_cell3 rfl rfl t2.load) rfl ?_
      exact ⟨rfl, (HC.out.trans k1).trans' c2 (fun i hi => .inr (by subst hi; have := HC.out.size; simp))⟩
    have b1 : decide (id < 1) = false := by simpa using a1
    by_cases a2 : id > 4294967296
    · have b2 : decide (id > 4294967296) = true := by simpa using a2
      clear hok hr
      go_enter Tryd.func16, Tryd.ntmps16
      go_wp2_with (first | (refine wpList_allocagg _ rfl 24 rfl (zero_tab _) ?_; rw [← HB.out]) | (refine wpList_loadv _ rfl 24 _ rfl rfl hT.load ?_) | (go_at_call 19; refine HR.out.mono ?_; rintro e w1 ⟨rfl, k1⟩; obtain ⟨w2, s2, t2, c2, z2⟩ := (HZ.out.chg k1 (fun h => h)).store zeroT) | (refine wpList_buildv _ rfl 24 rfl (build_tab _) ?_) | (refine wpList_storev _ rfl 24 _ _ rfl rfl rfl s2 ?_))
      (try simp only [Exit.inBlock, Exit.then])
      refine bodyPost_ret (results_cell3 rfl rfl t2.load) rfl ?_
      exact ⟨rfl, (HC.out.trans k1).trans' c2 (fun i hi => .inr (by subst hi; have := HC.out.size; simp))⟩
    have b2 : decide (id > 4294967296) = false := by simpa using a2
    by_cases a3 : ep < 0
    · have b3 : decide (ep < 0) = true := by simpa using a3
      clear hok hr
      go_enter Tryd.func16, Tryd.ntmps16
      go_wp2_with (first | (refine wpList_allocagg _ rfl 24 rfl (zero_tab _) ?_; rw [← HB.out]) | (refine wpList_loadv _ rfl 24 _ rfl rfl hT.load ?_) | (go_at_call 19; refine HR.out.mono ?_; rintro e w1 ⟨rfl, k1⟩; obtain ⟨w2, s2, t2, c2, z2⟩ := (HZ.out.chg k1 (fun h => h)).store zeroT) | (refine wpList_buildv _ rfl 24 rfl (build_tab _) ?_) | (refine wpList_storev _ rfl 24 _ _ rfl rfl rfl s2 ?_))
      (try simp only [Exit.inBlock, Exit.then])
      refine bodyPost_ret (results_cell3 rfl rfl t2.load) rfl ?_
      exact ⟨rfl, (HC.out.trans k1).trans' c2 (fun i hi => .inr (by subst hi; have := HC.out.size; simp))⟩
    have b3 : decide (ep < 0) = false := by simpa using a3
    by_cases a4 : ep > 281474976710656
    · have b4 : decide (ep > 281474976710656) = true := by simpa using a4
      clear hok hr
      go_enter Tryd.func16, Tryd.ntmps16
      go_wp2_with (first | (refine wpList_allocagg _ rfl 24 rfl (zero_tab _) ?_; rw [← HB.out]) | (refine wpList_loadv _ rfl 24 _ rfl rfl hT.load ?_) | (go_at_call 19; refine HR.out.mono ?_; rintro e w1 ⟨rfl, k1⟩; obtain ⟨w2, s2, t2, c2, z2⟩ := (HZ.out.chg k1 (fun h => h)).store zeroT) | (refine wpList_buildv _ rfl 24 rfl (build_tab _) ?_) | (refine wpList_storev _ rfl 24 _ _ rfl rfl rfl s2 ?_))
      (try simp only [Exit.inBlock, Exit.then])
      refine bodyPost_ret (results_cell3 rfl rfl t2.load) rfl ?_
      exact ⟨rfl, (HC.out.trans k1).trans' c2 (fun i hi => .inr (by subst hi; have := HC.out.size; simp))⟩
    have b4 : decide (ep > 281474976710656) = false := by simpa using a4
    exfalso
    simp at hok
    omega
end Go.Proofs.YtgmekeeemimnpaaDoor
