/- Three slices of ints of the call's own, apart. -/
import Derived.Test.YtgmekeeemimnpaaApp
namespace Go.Proofs.Ytgmekeeemimnpaa
open Go Go.Maps Go.MapKept Go.RowKit

/-- v1, v2, v3 are slices of the call's own that hold x1, x2, x3; no two share a block; none lies in a block of G. -/
def Own3 (G : Nat → Prop) (w : World) (base e : Nat) (v1 : Value) (x1 : List Int) (v2 : Value) (x2 : List Int) (v3 : Value) (x3 : List Int) : Prop :=
  OwnI w base e v1 x1 ∧ OwnI w base e v2 x2 ∧ OwnI w base e v3 x3 ∧ (∀ g, v1.ownBlock = some g → v2.ownBlock ≠ some g ∧ v3.ownBlock ≠ some g ∧ ¬ G g) ∧ (∀ g, v2.ownBlock = some g → v3.ownBlock ≠ some g ∧ ¬ G g) ∧ (∀ g, v3.ownBlock = some g → ¬ G g)
theorem OwnI.lt {w : World} {base e : Nat} {v : Value} {xs : List Int} (h : OwnI w base e v xs) {g : Nat} (hg : v.ownBlock = some g) : g < w.heap.size := by
  rcases h.2 with ⟨rfl, _⟩ | ⟨g', cap, cur, rfl, _, hh, _⟩
  · cases hg
  · cases hg; exact (Array.getElem?_eq_some_iff.1 hh).1
section
variable {G G' : Nat → Prop} {w w' w1 : World} {base e : Nat} {v1 v2 v3 v' : Value} {x1 x2 x3 ys : List Int}
theorem Own3.nil (w : World) (base e : Nat) : Own3 G w base e (.slice none 0 0) [] (.slice none 0 0) [] (.slice none 0 0) [] :=
  ⟨OwnI.nil _ _ _, OwnI.nil _ _ _, OwnI.nil _ _ _, fun g h => (by cases h), fun g h => (by cases h), fun g h => (by cases h)⟩
theorem Own3.new (h : Own3 G w base e v1 x1 v2 x2 v3 x3) (hc : Chg (fun _ => False) w w') : Own3 G w' base e v1 x1 v2 x2 v3 x3 :=
  ⟨h.1.new hc, h.2.1.new hc, h.2.2.1.new hc, h.2.2.2⟩
/-- A block that was laid behind them is guarded. -/
theorem Own3.guard (h : Own3 G w base e v1 x1 v2 x2 v3 x3) (hc : Chg (fun _ => False) w w') : Own3 (fun i => i = w.heap.size) w' base e v1 x1 v2 x2 v3 x3 := by
  obtain ⟨h1, h2, h3, d1, d2, _⟩ := h
  exact ⟨h1.new hc, h2.new hc, h3.new hc, fun g hg => ⟨(d1 g hg).1, (d1 g hg).2.1, fun e => by have := h1.lt hg; omega⟩, fun g hg => ⟨(d2 g hg).1, fun e => by have := h2.lt hg; omega⟩, fun g hg e => by have := h3.lt hg; omega⟩
theorem Own3.free (h : Own3 G w base e v1 x1 v2 x2 v3 x3) : Own3 (fun _ => False) w base e v1 x1 v2 x2 v3 x3 := by
  obtain ⟨h1, h2, h3, d1, d2, _⟩ := h
  exact ⟨h1, h2, h3, fun g hg => ⟨(d1 g hg).1, (d1 g hg).2.1, fun h => h⟩, fun g hg => ⟨(d2 g hg).1, fun h => h⟩, fun _ _ h => h⟩
theorem Own3.rot (h : Own3 G w base e v1 x1 v2 x2 v3 x3) : Own3 G w base e v2 x2 v3 x3 v1 x1 := by
  obtain ⟨h1, h2, h3, d1, d2, d3⟩ := h
  exact ⟨h2, h3, h1, fun g hg => ⟨(d2 g hg).1, fun e => (d1 g e).1 hg, (d2 g hg).2⟩, fun g hg => ⟨fun e => (d1 g e).2.1 hg, d3 g hg⟩, fun g hg => (d1 g hg).2.2⟩
/-- One is appended to. -/
theorem Own3.app (h : Own3 G w base e v1 x1 v2 x2 v3 x3) (hG : ∀ i, G i → i < w.heap.size) (hc : Chg (fun _ => False) w w1) (ho : OwnI w' base e v' ys) (hg : w1.grownBy w' v1.ownBlock) (hl : v'.ownBlock = v1.ownBlock ∨ v'.ownBlock = some w1.heap.size) :
    Own3 G w' base e v' ys v2 x2 v3 x3 ∧ Chg (fun i => ¬ G i) w w' ∧ Chg (fun i => base ≤ i) w w' := by
  obtain ⟨h1, h2, h3, d1, d2, d3⟩ := h
  have k : Chg (fun i => v1.ownBlock = some i) w1 w' := Chg.of_grown hg
  have k' : Chg (fun i => v1.ownBlock = some i) w w' := (hc.mono (fun _ h => h.elim)).trans k
  have s := hc.size
  refine ⟨⟨ho, h2.chg k' (fun g hg' e => (d1 g e).1 hg'), h3.chg k' (fun g hg' e => (d1 g e).2.1 hg'), fun g hg' => ?_, d2, d3⟩, k'.mono (fun i hi => (d1 i hi).2.2), k'.mono (fun i hi => h1.base_le hi)⟩
  rcases hl with hl | hl
  · rw [hl] at hg'; exact d1 g hg'
  · rw [hl] at hg'
    cases hg'
    exact ⟨fun e => by have := h2.lt e; omega, fun e => by have := h3.lt e; omega, fun e => by have := hG _ e; omega⟩
end
theorem Chg.above {w0 w w' : World} (h : Chg (fun _ => False) w0 w) (k : Chg (fun i => w0.heap.size ≤ i) w w') : Chg (fun _ => False) w0 w' := h.trans' k (fun _ hi => .inr hi)
end Go.Proofs.Ytgmekeeemimnpaa
