/- Sort, Compact, DeleteFunc over a slice of ints that one owns. -/
import Derived.Test.YtgmekeeemimnpaaDoorCLay
import Derived.Test.YtgmekeeemimnpaaDoorC11
namespace Go.Proofs.YtgmekeeemimnpaaDoor
open Go Go.Maps Go.MapKept Go.RowKit Go.Lib Go.Sort

theorem put_block' (w : World) {g : Nat} {cur : Array Value} {e : TypeId} (hb : w.heap[g]? = some (.cells cur e (0, 0))) (n : Nat) (d : Array Int) : (putRow (Value.int .i64) (Sort.ahead w n) g 0 d).heap[g]? = some (.cells (putCells (Value.int .i64) 0 d cur) e (0, 0)) := by
  simp [putRow, mapBlock, Sort.ahead, Array.getElem?_modify, hb, onCells]
theorem put_chg' (w : World) (g n : Nat) (d : Array Int) : Chg (fun i => i = g) w (putRow (Value.int .i64) (Sort.ahead w n) g 0 d) := by
  refine ⟨rfl, rfl, rfl, by simp, fun k _ hne => ?_⟩
  have : g ≠ k := fun e => hne e.symm
  simp [putRow, mapBlock, Sort.ahead, Array.getElem?_modify, this]
theorem grow_chg' {S : Nat → Prop} {w w' : World} (h : Chg S w w') (os : Array Obj) : Chg S w (grow w' os) :=
  h.trans' (T := fun _ => False) ⟨rfl, rfl, rfl, by show w'.heap.size ≤ (w'.heap ++ os).size; rw [Array.size_append]; omega, fun _ hj _ => Sort.heap_grow_old w' os hj⟩ (fun _ h => h.elim)
theorem take_put' (cur : Array Value) (d : Array Int) (k : Nat) (h1 : k ≤ d.size) (h2 : d.size ≤ cur.size) : (putCells (Value.int .i64) 0 d cur).toList.take k = (d.toList.take k).map (Value.int .i64) := by
  apply List.ext_getElem?
  intro j
  by_cases hj : j < k
  · rw [List.getElem?_take_of_lt hj, Array.getElem?_toList, List.getElem?_map, List.getElem?_take_of_lt hj]
    have h3 : j < d.size := by omega
    simp [putCells, h3, show j < cur.size by omega]
  · rw [List.getElem?_take_eq_none (by omega), List.getElem?_eq_none (by simp; omega)]
/-- An owned slice that is not nil, laid open. -/
structure OwnB (w : World) (base g cap : Nat) (cur : Array Value) (xs : List Int) : Prop where
  base_ : base ≤ g
  blk : w.heap[g]? = some (.cells cur 3 (0, 0))
  le : xs.length ≤ cap
  max_ : cap ≤ maxLen
  size_ : cur.size = cap
  take_ : cur.toList.take xs.length = xs.map (Value.int .i64)
theorem OwnB.own {w : World} {base g cap : Nat} {cur : Array Value} {xs : List Int} (h : OwnB w base g cap cur xs) : OwnI w base 3 (.slice (some ⟨g, 0, none⟩) xs.length cap) xs :=
  ⟨by simp, .inr ⟨g, cap, cur, rfl, h.base_, h.blk, h.le, h.max_, by simpa using h.size_, by simpa using h.take_⟩⟩
theorem OwnB.holds {w : World} {base g cap : Nat} {cur : Array Value} {xs : List Int} (h : OwnB w base g cap cur xs) : Holds (Value.int .i64) w g 0 xs.toArray := by
  intro j hj
  have hj' : j < xs.length := by simpa using hj
  refine ⟨?_, by simp [World.frozen?, h.blk]⟩
  have h5 := World.ownsRow.cellAt h.own j (by omega)
  rw [Nat.zero_add, h5]
  simp [hj']
theorem OwnB.put {w : World} {base g cap : Nat} {cur : Array Value} {xs : List Int} (h : OwnB w base g cap cur xs) (n : Nat) (ys ts : List Int) (hl : ts.length = xs.length) (hy : ts.take ys.length = ys) (hyl : ys.length ≤ ts.length) :
    OwnB (putRow (Value.int .i64) (Sort.ahead w n) g 0 ts.toArray) base g cap (putCells (Value.int .i64) 0 ts.toArray cur) ys := by
  have hle := h.le
  have hs := h.size_
  refine ⟨h.base_, put_block' w h.blk n _, by omega, h.max_, by simp [putCells, hs], ?_⟩
  rw [take_put' cur _ ys.length (by simpa using hyl) (by simp; omega)]
  rw [List.toList_toArray, hy]
theorem OwnB.grow {w : World} {base g cap : Nat} {cur : Array Value} {xs : List Int} (h : OwnB w base g cap cur xs) (os : Array Obj) : OwnB (grow w os) base g cap cur xs :=
  ⟨h.base_, (Sort.heap_grow_old w os (by
    rcases Nat.lt_or_ge g w.heap.size with h1 | h1
    · exact h1
    · have := h.blk; rw [Array.getElem?_eq_none h1] at this; cases this)).trans h.blk, h.le, h.max_, h.size_, h.take_⟩

section
variable {w : World} {base g cap : Nat} {cur : Array Value} {xs : List Int}
theorem OwnB.lt (h : OwnB w base g cap cur xs) : g < w.heap.size := by
  rcases Nat.lt_or_ge g w.heap.size with h1 | h1
  · exact h1
  · have := h.blk; rw [Array.getElem?_eq_none h1] at this; cases this
def GivesB (w : World) (base g cap : Nat) (ys : List Int) (r : Value) (e : Ending) (w' : World) : Prop := e = .returned r ∧ (∃ cur, OwnB w' base g cap cur ys) ∧ Chg (fun i => i = g) w w'
theorem sortB (h : OwnB w base g cap cur xs) (hx : xs.length < 1000000) :
    Calls Tryd.prog 28 #[.slice (some ⟨g, 0, none⟩) xs.length cap] w (GivesB w base g cap (xs.mergeSort fun x y => decide (x ≤ y)) (.tuple #[])) := by
  refine (Any.slices_Sort_int lays189 g 0 cap xs w h.holds h.lt (by omega)).mono ?_
  rintro e w' ⟨rfl, n, os, rfl⟩
  have hl : (xs.mergeSort fun x y => decide (x ≤ y)).length = xs.length := List.length_mergeSort ..
  exact ⟨rfl, ⟨_, (h.put n _ _ hl (List.take_length ..) (Nat.le_refl _)).grow os⟩, grow_chg' (put_chg' w g n _) os⟩
theorem compactB (h : OwnB w base g cap cur xs) (hx : xs.length < 1000000) (ys : List Int) (hy : Lib.compact xs = ys) (hyl : ys.length ≤ xs.length) :
    Calls Tryd.prog 30 #[.slice (some ⟨g, 0, none⟩) xs.length cap] w (GivesB w base g cap ys (.slice (some ⟨g, 0, none⟩) ys.length cap)) := by
  refine (Any.slices_Compact_int laysNm220 g 0 cap xs w h.holds (by omega) h.le).mono ?_
  rintro e w' ⟨rfl, q, rfl⟩
  rw [hy]
  exact ⟨rfl, ⟨_, h.put q ys _ (by simp; omega) (List.take_left' rfl) (by simp)⟩, put_chg' w g q _⟩
set_option maxHeartbeats 1000000 in
theorem notZero1 (x : Int) (w : World) : Calls Tryd.prog 31 #[.int .i64 x] w fun e w' => e = .returned (.bool (x == 0)) ∧ w = w' := by
  go_enter Tryd.func31, Tryd.ntmps31
  go_wp2
  go_ret
  exact ⟨rfl, rfl⟩
theorem deleteB (h : OwnB w base g cap cur xs) (hx : xs.length < 1000000) :
    Calls Tryd.prog 29 #[.slice (some ⟨g, 0, none⟩) xs.length cap, .func (.func 31) #[] #[]] w (GivesB w base g cap (xs.filter fun x => !(x == 0)) (.slice (some ⟨g, 0, none⟩) (xs.filter fun x => !(x == 0)).length cap)) := by
  have hg : ∀ (W : World) (x : Int), FnGives Tryd.prog 31 #[] #[Value.int .i64 x] (.bool (x == 0)) W := fun W x =>
    (notZero1 x W).mono fun e w' he => ⟨he.1, 0, he.2.symm⟩
  have hc := AnyE.slices_DeleteFunc laysSlH10_f29 (Value.int .i64) (fun _ => rfl) (fun x => x == 0) 31 #[] (enters_of Tryd.func31 (by kernel_rfl) rfl) 0 (fun w => by kernel_rfl) g 0 cap xs.toArray w
    (fun W x _ => hg W x) (fun n os dk x _ => hg _ x) h.holds (by simp; omega) (by simpa using h.le)
  simp only [List.size_toArray] at hc
  refine hc.mono ?_
  rintro e w' ⟨rfl, q, rfl⟩
  have hf : (xs.filter fun x => !(x == 0)).length ≤ xs.length := List.length_filter_le _ _
  exact ⟨rfl, ⟨_, h.put q _ _ (by simp; omega) (List.take_left' rfl) (by simp)⟩, put_chg' w g q _⟩
end
end Go.Proofs.YtgmekeeemimnpaaDoor
