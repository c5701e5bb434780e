/- What a law on claims holds in memory; claims, one behind another. -/
import Derived.Test.YtgmekeeemimnpaaDoorC7
import Derived.Test.YtgmekeeemimnpaaDoorC8
namespace Go.Proofs.YtgmekeeemimnpaaDoor
open Go Go.Maps Go.MapKept Go.RowKit

section
variable {w : World} {ops : Array Oper} {rest : List Oper} {o : Oper} {a : Act} {Q : Exit → Act → World → Prop}
theorem wpList_eqtab (hg : Region.wanted o (yielded ops a.tmps) = true) (x y : Operand) (z : TypeId) (hop : o.op = Op.binOp .eql 24 x y z) {f g : Nat → Int} {b : Bool} (hx : a.eval x = .agg (tcs f)) (hy : a.eval y = .agg (tcs g)) (hs : sameT f g = b)
    (hK : wpList Tryd.prog ops Q rest (a.put o.dst (.bool b)) w) : wpList Tryd.prog ops Q (o :: rest) a w := by
  refine wpList_step fun K' hK' => ?_
  rw [if_pos hg]
  have h1 := run_eqGuard_agg (P := Tryd.prog) w .eql 24 x y (tcs f) (tcs g) (by kernel_rfl)
  have h2 := run_eql_struct (P := Tryd.prog) w 24 (tcs f) (tcs g)
  rw [run_eq_tab, hs] at h2
  unfold Oper.wp
  simp [execOp, hop, hx, hy, h1, h2, Result.andThen]
  exact hK' _ _ hK
theorem wpList_netab (hg : Region.wanted o (yielded ops a.tmps) = true) (x y : Operand) (z : TypeId) (hop : o.op = Op.binOp .neq 24 x y z) {f g : Nat → Int} {b : Bool} (hx : a.eval x = .agg (tcs f)) (hy : a.eval y = .agg (tcs g)) (hs : sameT f g = b)
    (hK : wpList Tryd.prog ops Q rest (a.put o.dst (.bool (!b))) w) : wpList Tryd.prog ops Q (o :: rest) a w := by
  refine wpList_step fun K' hK' => ?_
  rw [if_pos hg]
  have h1 := run_eqGuard_agg (P := Tryd.prog) w .neq 24 x y (tcs f) (tcs g) (by kernel_rfl)
  have h2 := run_neq_struct (P := Tryd.prog) w 24 (tcs f) (tcs g)
  rw [run_eq_tab, hs] at h2
  unfold Oper.wp
  simp [execOp, hop, hx, hy, h1, h2, Result.andThen]
  exact hK' _ _ hK
end

/-- Block b of w is a claim. -/
def ClAt (w : World) (b : Nat) (id ep : Int) (m : Nat) : Prop := Blk w b 28 #[.int .i64 id, .int .i64 ep, .int .u64 (m : Int)]
theorem ClAt.cells {w : World} {b : Nat} {id ep : Int} {m : Nat} (h : ClAt w b id ep m) : w.cell? ⟨b, 0, none⟩ = some (.int .i64 id) ∧ w.cell? ⟨b, 1, none⟩ = some (.int .i64 ep) ∧ w.cell? ⟨b, 2, none⟩ = some (.int .u64 (m : Int)) :=
  ⟨Blk.cell h 0, Blk.cell h 1, Blk.cell h 2⟩
theorem ClAt.chg {S : Nat → Prop} {w w' : World} {b : Nat} {id ep : Int} {m : Nat} (h : ClAt w b id ep m) (hc : Chg S w w') (hS : ¬ S b) : ClAt w' b id ep m := Blk.chg h hc hS

/-- A law's two arguments in their blocks; the library's table; nothing else has turned since w0. -/
structure St (w0 w : World) (B : Nat) (f : Nat → Int) (id ep : Int) (m : Nat) : Prop where
  chg : Chg (fun _ => False) w0 w
  tw : TabW w
  tf : TabAt w B f
  cl : ClAt w (B + 1) id ep m
theorem St.step {w0 w w' : World} {B : Nat} {f : Nat → Int} {id ep : Int} {m : Nat} (h : St w0 w B f id ep m) (hc : Chg (fun _ => False) w w') : St w0 w' B f id ep m :=
  ⟨h.chg.trans hc, h.tw.chg hc (fun h => h), h.tf.chg hc (fun h => h), h.cl.chg hc (fun h => h)⟩
theorem St.cells {w0 w : World} {B : Nat} {f : Nat → Int} {id ep : Int} {m : Nat} (h : St w0 w B f id ep m) : w.cell? ⟨B + 1, 0, none⟩ = some (.int .i64 id) ∧ w.cell? ⟨B + 1, 1, none⟩ = some (.int .i64 ep) ∧ w.cell? ⟨B + 1, 2, none⟩ = some (.int .u64 (m : Int)) := h.cl.cells
theorem St.start (w : World) (hTW : TabW w) (f : Nat → Int) (id ep : Int) (m : Nat) :
    St w ((w.alloc (.cells (tcs f) 24)).alloc (.cells #[.int .i64 id, .int .i64 ep, .int .u64 (m : Int)] 28)) w.heap.size f id ep m := by
  have hc : Chg (fun _ => False) w ((w.alloc (.cells (tcs f) 24)).alloc (.cells #[.int .i64 id, .int .i64 ep, .int .u64 (m : Int)] 28)) := ((Chg.refl _ w).alloc _).alloc _
  refine ⟨hc, hTW.chg hc (fun h => h), (Blk.new w _ _).alloc _, ?_⟩
  have := Blk.new (w.alloc (.cells (tcs f) 24)) 28 #[.int .i64 id, .int .i64 ep, .int .u64 (m : Int)]
  unfold ClAt
  simpa using this

def idB (id : Int) : Bool := decide (1 ≤ id) && decide (id ≤ 4294967296)
def epB (ep : Int) : Bool := decide (0 ≤ ep) && decide (ep ≤ 281474976710656)
theorem okC_eq (f : Nat → Int) (id ep : Int) : okC f id ep = (rightT f && idB id && epB ep) := rfl
theorem lawid (w : World) (n : Int) (b : Bool) (h : idB n = b) : Calls Tryd.prog 14 #[.int .i64 n] w fun e w' => e = .returned (.bool b) ∧ w = w' := by subst h; exact id_calls w n
theorem lawepoch (w : World) (n : Int) (b : Bool) (h : epB n = b) : Calls Tryd.prog 15 #[.int .i64 n] w fun e w' => e = .returned (.bool b) ∧ w = w' := by subst h; exact epoch_calls w n
theorem lawright (w : World) (f : Nat → Int) (b : Bool) (h : rightT f = b) : Calls Tryd.prog 13 #[.agg (tcs f)] w fun e w' => e = .returned (.bool b) ∧ Chg (fun _ => False) w w' := by subst h; exact lawright_calls w f

/-! ### claims of claims -/
theorem rightT_iff {f : Nat → Int} : rightT f = true ↔ ∀ i, i < 64 → ok1 f i = true := by
  unfold rightT
  rw [List.all_eq_true]
  exact ⟨fun h i hi => h i (List.mem_range.2 hi), fun h i hi => h i (List.mem_range.1 hi)⟩
theorem clT_right {f : Nat → Int} {id ep : Int} {p : Nat → Bool} (h : okC f id ep = true) : rightT (clT f id ep p) = true := by
  unfold okC at h
  simp only [Bool.and_eq_true, decide_eq_true_eq] at h
  obtain ⟨⟨hr, hi1, hi2⟩, he1, he2⟩ := h
  rw [rightT_iff] at hr ⊢
  intro i hi
  have h1 := hr i hi
  unfold ok1 at h1 ⊢
  have e1 : clT f id ep p i = if p i && took f id ep i then id else f i := by unfold clT; rw [if_pos hi]
  have e2 : clT f id ep p (64 + i) = if p i then (if f i == id then max (f (64 + i)) ep else if took f id ep i then ep else f (64 + i)) else f (64 + i) := by
    unfold clT; rw [if_neg (by omega), show 64 + i - 64 = i by omega]
  rw [e1, e2]
  simp only [Bool.and_eq_true, decide_eq_true_eq, Bool.not_eq_true', Bool.and_eq_false_iff, decide_eq_false_iff_not] at h1 ⊢
  cases hp : p i with
  | false => simpa using h1
  | true =>
    by_cases hx : f i = id
    · have ht : took f id ep i = false := by unfold took; simp [hx]
      rw [ht]
      simp [hx]
      omega
    · have hx' : (f i == id) = false := by simpa using hx
      rw [hx']
      cases ht : took f id ep i with
      | false => simpa using h1
      | true => simp; omega
theorem clT_okC {f : Nat → Int} {id ep : Int} {p : Nat → Bool} (h : okC f id ep = true) : okC (clT f id ep p) id ep = true := by
  have h1 := clT_right (p := p) h
  rw [okC_eq] at h ⊢
  simp only [Bool.and_eq_true] at h ⊢
  exact ⟨⟨h1, h.1.2⟩, h.2⟩
/-- A claim of one part, then of another, is a claim of both. -/
theorem clT_clT {f : Nat → Int} {id ep : Int} {p q : Nat → Bool} : ∀ j, j < 128 → clT (clT f id ep p) id ep q j = clT f id ep (fun i => p i || q i) j := by
  have key : ∀ i, i < 64 → clT (clT f id ep p) id ep q i = clT f id ep (fun i => p i || q i) i ∧ clT (clT f id ep p) id ep q (64 + i) = clT f id ep (fun i => p i || q i) (64 + i) := by
    intro i hi
    have e1 : ∀ (g : Nat → Int) (r : Nat → Bool), clT g id ep r i = if r i && took g id ep i then id else g i := fun g r => by unfold clT; rw [if_pos hi]
    have e2 : ∀ (g : Nat → Int) (r : Nat → Bool), clT g id ep r (64 + i) = if r i then (if g i == id then max (g (64 + i)) ep else if took g id ep i then ep else g (64 + i)) else g (64 + i) := fun g r => by
      unfold clT; rw [if_neg (by omega), show 64 + i - 64 = i by omega]
    have et : ∀ (g : Nat → Int), took g id ep i = (!(g i == id) && (g i == 0 || decide (g (64 + i) < ep))) := fun g => rfl
    simp only [e1, e2, et]
    cases p i <;> cases q i <;> by_cases h1 : f i = id <;> by_cases h2 : f i = 0 <;> by_cases h3 : f (64 + i) < ep <;> simp [h1, h2, h3] <;> (try omega) <;> simp_all
  intro j hj
  by_cases h : j < 64
  · exact (key j h).1
  · have := (key (j - 64) (by omega)).2
    rwa [show 64 + (j - 64) = j by omega] at this
end Go.Proofs.YtgmekeeemimnpaaDoor
