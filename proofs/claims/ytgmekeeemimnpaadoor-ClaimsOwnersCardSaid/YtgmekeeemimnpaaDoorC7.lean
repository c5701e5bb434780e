/- The laws' anchor, walked; a law's table and claim as parameters. -/
import Derived.Test.YtgmekeeemimnpaaDoorC6
namespace Go.Proofs.YtgmekeeemimnpaaDoor
open Go Go.Maps Go.MapKept Go.RowKit

section
variable {P : Program} (w : World) {ops : Array Oper} {rest : List Oper} {o : Oper} {a : Act} {Q : Exit → Act → World → Prop}
/-- A load that is guarded, where the guard lets it run. -/
theorem wpList_loadg (hg : Region.wanted o (yielded ops a.tmps) = true) (t : TypeId) (x : Operand) (hop : o.op = Op.load t x) {b : Addr} {v : Value} (hx : a.eval x = .pointer (some b)) (hl : (loadVar t b).run P w = .ok v w)
    (hK : wpList P ops Q rest (a.put o.dst v) w) : wpList P ops Q (o :: rest) a w := by
  refine wpList_step fun K' hK' => ?_
  rw [if_pos hg]
  unfold Oper.wp
  simp [execOp, hop, hx, Instr.loadAt, Instr.sureAddr, hl, Result.andThen]
  exact hK' _ _ hK
end
theorem TabAt.new (w : World) (f : Nat → Int) : TabAt (w.alloc (.cells (tcs f) 24)) w.heap.size f := Blk.new _ _ _

theorem claim_is (w : World) (hTW : TabW w) (f : Nat → Int) (id ep : Int) (m : Nat) (hm : m < 2 ^ 64) (h : okC f id ep = true) (g : Nat → Int) (hg : clT f id ep m.testBit = g) (t : Nat) (ht : tkN f id ep m.testBit = t) :
    Calls Tryd.prog 16 #[.agg (tcs f), .int .i64 id, .int .i64 ep, .int .u64 (m : Int)] w fun e w' => e = .returned (.tuple #[.agg (tcs g), .int .u64 (t : Int), .int .i64 0]) ∧ Chg (fun _ => False) w w' := by
  subst hg ht
  exact claim_ok w hTW f id ep m hm h

def anA : Nat → Int := clT zeroT 1 5 (Nat.testBit 3)
def anB : Nat → Int := clT anA 2 4 (Nat.testBit 6)
def anC : Nat → Int := clT anB 2 6 (Nat.testBit 2)
theorem an1 : okC zeroT 1 5 = true := by decide +kernel
theorem an2 : okC anA 2 4 = true := by decide +kernel
theorem an3 : okC anB 2 6 = true := by decide +kernel
theorem an4 : tkN zeroT 1 5 (Nat.testBit 3) = 3 := by decide +kernel
theorem an5 : tkN anA 2 4 (Nat.testBit 6) = 4 := by decide +kernel
theorem an6 : tkN anB 2 6 (Nat.testBit 2) = 2 := by decide +kernel
theorem an7 : ofN anC 2 = 6 := by decide +kernel
theorem an8 : ofN anC 1 = 1 := by decide +kernel
theorem anClaim1 (w : World) (h : TabW w) : Calls Tryd.prog 16 #[.agg (tcs zeroT), .int .i64 1, .int .i64 5, .int .u64 3] w fun e w' => e = .returned (.tuple #[.agg (tcs anA), .int .u64 3, .int .i64 0]) ∧ Chg (fun _ => False) w w' :=
  claim_is w h zeroT 1 5 3 (by decide) an1 anA rfl 3 an4
theorem anClaim2 (w : World) (h : TabW w) : Calls Tryd.prog 16 #[.agg (tcs anA), .int .i64 2, .int .i64 4, .int .u64 6] w fun e w' => e = .returned (.tuple #[.agg (tcs anB), .int .u64 4, .int .i64 0]) ∧ Chg (fun _ => False) w w' :=
  claim_is w h anA 2 4 6 (by decide) an2 anB rfl 4 an5
theorem anClaim3 (w : World) (h : TabW w) : Calls Tryd.prog 16 #[.agg (tcs anB), .int .i64 2, .int .i64 6, .int .u64 2] w fun e w' => e = .returned (.tuple #[.agg (tcs anC), .int .u64 2, .int .i64 0]) ∧ Chg (fun _ => False) w w' :=
  claim_is w h anB 2 6 2 (by decide) an3 anC rfl 2 an6
theorem anOf (w : World) (f : Nat → Int) (who : Int) (n : Nat) (h : ofN f who = n) : Calls Tryd.prog 17 #[.agg (tcs f), .int .i64 who] w fun e w' => e = .returned (.int .u64 (n : Int)) ∧ Chg (fun _ => False) w w' := by
  subst h; exact of_calls w f who

/-- A table that is laid and stored into. -/
theorem keep_tab (w1 : World) (f : Nat → Int) : ∃ w2, (storeVar 24 ⟨w1.heap.size, 0, none⟩ (.agg (tcs f))).run Tryd.prog (w1.alloc (.cells (tcs zeroT) 24)) = .ok () w2 ∧ TabAt w2 w1.heap.size f ∧ Chg (fun _ => False) w1 w2 := by
  obtain ⟨w2, s2, t2, c2, _⟩ := (TabAt.new w1 zeroT).store f
  exact ⟨w2, s2, t2, ((Chg.refl (fun _ => False) w1).alloc (.cells (tcs zeroT) 24)).trans' c2 (fun i hi => .inr (by subst hi; exact Nat.le_refl _))⟩

set_option maxRecDepth 100000 in
set_option maxHeartbeats 4000000 in
theorem anchor_calls (w : World) (hTW : TabW w) : Calls Tryd.prog 12 #[] w fun e w' => e = .returned (.bool true) ∧ Chg (fun _ => False) w w' := by
  obtain ⟨wA, hwA⟩ : ∃ wA, wA = w.alloc (.cells (tcs zeroT) 24) := ⟨_, rfl⟩
  have hT : TabAt wA w.heap.size zeroT := by rw [hwA]; exact TabAt.new w zeroT
  have hC : Chg (fun _ => False) w wA := by rw [hwA]; exact (Chg.refl _ w).alloc _
  have HTA := hideIt (hTW.chg hC (fun h => h))
  have HC := hideIt hC
  have HA := hideIt hwA
  clear hwA hC hTW
  have tok1 : True := trivial
  have tok2 : True := trivial
  have tok3 : True := trivial
  have tok4 : True := trivial
  have tok5 : True := trivial
  have tok6 : True := trivial
  go_enter Tryd.func12, Tryd.ntmps12
  go_wp2_with (first
    | (have _t := tok1; refine wpList_allocagg _ rfl 24 rfl (zero_tab _) ?_; rw [← HA.out]; clear tok1 _t)
    | (refine wpList_loadv _ rfl 24 _ rfl rfl hT.load ?_)
    | (have _t := tok2; go_at_call 16; refine (anClaim1 wA HTA.out).mono ?_; rintro e w1 ⟨rfl, k1⟩; clear tok2 _t; obtain ⟨w2, s2, t2, c2⟩ := keep_tab w1 anA; have K2 := hideIt ((HC.out.trans k1).trans c2); have T2 := hideIt ((HTA.out.chg k1 (fun h => h)).chg c2 (fun h => h)))
    | (refine wpList_allocagg _ rfl 24 rfl (zero_tab _) ?_)
    | (refine wpList_storev _ rfl 24 _ _ rfl rfl rfl s2 ?_)
    | (refine wpList_loadv _ rfl 24 _ rfl rfl t2.load ?_)
    | (have _t := tok3; go_at_call 16; refine (anClaim2 w2 T2.out).mono ?_; rintro e w3 ⟨rfl, k3⟩; clear tok3 _t; obtain ⟨w4, s4, t4, c4⟩ := keep_tab w3 anB; have K4 := hideIt ((K2.out.trans k3).trans c4); have T4 := hideIt ((T2.out.chg k3 (fun h => h)).chg c4 (fun h => h)))
    | (refine wpList_storev _ rfl 24 _ _ rfl rfl rfl s4 ?_)
    | (refine wpList_loadv _ rfl 24 _ rfl rfl t4.load ?_)
    | (have _t := tok4; go_at_call 16; refine (anClaim3 w4 T4.out).mono ?_; rintro e w5 ⟨rfl, k5⟩; clear tok4 _t; obtain ⟨w6, s6, t6, c6⟩ := keep_tab w5 anC; have K6 := hideIt ((K4.out.trans k5).trans c6))
    | (refine wpList_storev _ rfl 24 _ _ rfl rfl rfl s6 ?_)
    | (refine wpList_loadg _ rfl 24 _ rfl rfl t6.load ?_)
    | (have _t := tok5; go_at_call 17; refine (anOf w6 anC 2 6 an7).mono ?_; rintro e w7 ⟨rfl, k7⟩; clear tok5 _t; have t7 := t6.chg k7 (fun h => h); have K7 := hideIt (K6.out.trans k7))
    | (refine wpList_loadg _ rfl 24 _ rfl rfl t7.load ?_)
    | (have _t := tok6; go_at_call 17; refine (anOf w7 anC 1 1 an8).mono ?_; rintro e w8 ⟨rfl, k8⟩; clear tok6 _t; have K8 := hideIt (K7.out.trans k8)))
  go_ret
  exact ⟨rfl, K8.out⟩
end Go.Proofs.YtgmekeeemimnpaaDoor
