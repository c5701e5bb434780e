/- A whole table's load in a region that draws its order; what a claim that is made again finds. -/
import Derived.Test.YtgmekeeemimnpaaDoorC9
namespace Go.Proofs.YtgmekeeemimnpaaDoor
open Go Go.Maps Go.MapKept Go.RowKit

theorem step_loadv {P : Program} {w : World} {ops : Array Oper} {o : Oper} {a : Act} {K : Act → World → Prop} {Q : Exit → Act → World → Prop} {E : Prop} (hgd : Region.wanted o (yielded ops a.tmps) = true) (t : TypeId) (x : Operand) (hop : o.op = Op.load t x) {b : Addr} {v : Value} (hx : a.eval x = .pointer (some b))
    (hl : (loadVar t b).run P w = .ok v w) (h : K (a.put o.dst v) w) : if Region.wanted o (yielded ops a.tmps) = true then Oper.wp P o a w K Q else E := by
  rw [if_pos hgd]
  unfold Oper.wp
  simp [execOp, hop, hx, Instr.loadAt, Instr.sureAddr, hl, Result.andThen]
  exact h

theorem St.drew {w0 w : World} {B : Nat} {f : Nat → Int} {id ep : Int} {m : Nat} (h : St w0 w B f id ep m) : St w0 w.drew B f id ep m := ⟨h.chg.drew, h.tw, h.tf, h.cl⟩

section
variable {f : Nat → Int} {id ep : Int} {m : Nat}
theorem again_same : sameT (clT (clT f id ep m.testBit) id ep m.testBit) (clT f id ep m.testBit) = true :=
  sameT_true fun j hj => (clT_clT j hj).trans (clT_congr (fun _ _ => Bool.or_self _) j hj)
theorem again_none : tkN (clT f id ep m.testBit) id ep m.testBit = 0 := by
  refine bits_eq tkN_lt (by decide) fun i hi => ?_
  rw [tkN_bit]
  have e1 : clT f id ep m.testBit i = if m.testBit i && took f id ep i then id else f i := by unfold clT; rw [if_pos hi]
  have e2 : clT f id ep m.testBit (64 + i) = if m.testBit i then (if f i == id then max (f (64 + i)) ep else if took f id ep i then ep else f (64 + i)) else f (64 + i) := by
    unfold clT; rw [if_neg (by omega), show 64 + i - 64 = i by omega]
  cases hm : m.testBit i with
  | false => simp
  | true =>
    cases ht : took f id ep i with
    | true =>
      have : took (clT f id ep m.testBit) id ep i = false := by unfold took; rw [e1, hm, ht]; simp
      simp [this]
    | false =>
      have h1 : clT f id ep m.testBit i = f i := by rw [e1, hm, ht]; simp
      by_cases hx : f i = id
      · have : took (clT f id ep m.testBit) id ep i = false := by unfold took; rw [h1, hx]; simp
        simp [this]
      · have h2 : clT f id ep m.testBit (64 + i) = f (64 + i) := by rw [e2, hm, ht]; simp [hx]
        have : took (clT f id ep m.testBit) id ep i = false := by
          unfold took at ht ⊢
          rw [h1, h2]
          exact ht
        simp [this]
/-- The slots that a claim leaves to others. -/
theorem again_left {i : Nat} (hi : i < 64) (hm : m.testBit i = true) (ho : (ofN (clT f id ep m.testBit) id).testBit i = false) :
    clT f id ep m.testBit i ≠ 0 ∧ ep ≤ clT f id ep m.testBit (64 + i) ∧ clT f id ep m.testBit i = f i := by
  have h1 : (clT f id ep m.testBit i == id) = false := by
    unfold ofN at ho
    rw [mask_bit] at ho
    simpa [hi] using ho
  have e1 : clT f id ep m.testBit i = if m.testBit i && took f id ep i then id else f i := by unfold clT; rw [if_pos hi]
  have e2 : clT f id ep m.testBit (64 + i) = if m.testBit i then (if f i == id then max (f (64 + i)) ep else if took f id ep i then ep else f (64 + i)) else f (64 + i) := by
    unfold clT; rw [if_neg (by omega), show 64 + i - 64 = i by omega]
  cases ht : took f id ep i with
  | true =>
    rw [e1, hm, ht] at h1
    simp at h1
  | false =>
    have h2 : clT f id ep m.testBit i = f i := by rw [e1, hm, ht]; simp
    rw [h2] at h1
    have hx : f i ≠ id := by simpa using h1
    have h3 : clT f id ep m.testBit (64 + i) = f (64 + i) := by rw [e2, hm, ht]; simp [hx]
    rw [h2, h3]
    unfold took at ht
    simp [hx] at ht
    exact ⟨ht.1, ht.2, rfl⟩
end
end Go.Proofs.YtgmekeeemimnpaaDoor
