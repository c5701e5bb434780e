/- A whole table read in a region that draws its order; a table that is built. -/
import Derived.Test.YtgmekeeemimnpaaDoorC9
import Derived.Deep.RegionHeld3
namespace Go.Proofs.YtgmekeeemimnpaaDoor
open Go Go.Maps Go.MapKept Go.RowKit

theorem TabAt.loadAt {w : World} {b : Nat} {f : Nat → Int} (h : TabAt w b f) : (Instr.loadAt 24 (.pointer (some ⟨b, 0, none⟩))).run Tryd.prog w = .ok (.agg (tcs f)) w := by
  simp [Instr.loadAt, Instr.sureAddr, h.load]
/-- A load of a table may be taken first. -/
theorem yields_tab {ops : Array Oper} {S : World → Prop} {op : Oper} {a : Act} (hw : Region.wanted op (yielded ops a.tmps) = true) (x : Operand) (ho : op.op = .load 24 x) {b : Nat} (hx : a.eval x = .pointer (some ⟨b, 0, none⟩)) {f : Nat → Int} (hS : ∀ w, S w → TabAt w b f) : YieldsIf Tryd.prog ops S op (.agg (tcs f)) a :=
  Or.inl ⟨hw, fun w hSw => by
    unfold execOp
    simp only [ho, hx, Instr.loadAt, Instr.sureAddr, Sem.run_bind, Sem.run_pure, Result.andThen_ok, (hS w hSw).load]⟩
section
variable {w : World} {ops : Array Oper} {rest : List Oper} {o : Oper} {a : Act} {Q : Exit → Act → World → Prop}
theorem wpList_buildg (hg : Region.wanted o (yielded ops a.tmps) = true) (hop : o.op = Op.build 24 #[]) (hK : wpList Tryd.prog ops Q rest (a.put o.dst (.agg (tcs zeroT))) w) : wpList Tryd.prog ops Q (o :: rest) a w := by
  refine wpList_step fun K' hK' => ?_
  rw [if_pos hg]
  have h1 := build_tab w
  unfold Oper.wp
  simp [execOp, hop, h1, Result.andThen]
  exact hK' _ _ hK
end
theorem St.drw {w0 w : World} {B : Nat} {f : Nat → Int} {id ep : Int} {m : Nat} (h : St w0 w B f id ep m) : St w0 w.drew B f id ep m := ⟨h.chg.drew, h.tw, h.tf, h.cl⟩
theorem St.drwN {w0 w : World} {B : Nat} {f : Nat → Int} {id ep : Int} {m : Nat} (h : St w0 w B f id ep m) (n : Nat) : St w0 (w.drewN n) B f id ep m := ⟨h.chg.drewN n, h.tw, h.tf, h.cl⟩
theorem clT_at {f : Nat → Int} {id ep : Int} {p : Nat → Bool} {k : Nat} (hk : k < 64) {x y : Int} (hx : f k = x) (hy : f (64 + k) = y) {b : Bool} (hb : p k = b) :
    clT f id ep p k = (if b && (!(x == id) && (x == 0 || decide (y < ep))) then id else x) ∧ clT f id ep p (64 + k) = (if b then (if x == id then max y ep else if !(x == id) && (x == 0 || decide (y < ep)) then ep else y) else y) ∧
      (tkN f id ep p).testBit k = (b && (!(x == id) && (x == 0 || decide (y < ep)))) := by
  subst hx hy hb
  refine ⟨?_, ?_, ?_⟩
  · unfold clT; rw [if_pos hk]; rfl
  · unfold clT; rw [if_neg (by omega), show 64 + k - 64 = k by omega]; rfl
  · rw [tkN_bit]; simp [hk, took]
end Go.Proofs.YtgmekeeemimnpaaDoor
