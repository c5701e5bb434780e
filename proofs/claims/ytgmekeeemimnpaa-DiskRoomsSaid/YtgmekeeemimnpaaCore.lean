/- Plain words for a walk's memory: which blocks may have turned between two worlds; a slice of ints that reads as a list; the laws on maps at an operation of the walk. -/
import Derived.Test.YtgmekeeemimnpaaMap
import Derived.Laws.OwnMore
import Derived.Deep.AppendLies
import Derived.Deep.Draws
import Derived.Maps.AppendAt
import Derived.WalkSmall
import Derived.OwnWalk
import Derived.WalkSpells
namespace Go.Proofs.Ytgmekeeemimnpaa
open Go Go.Maps Go.MapKept Go.RowKit
open Go.ChangeMaps (setBlock)

/-- Kept from the walk. -/
theorem hideIt {p : Prop} (h : p) : Hid p := h

/-! ### which blocks have turned -/
/-- Between w and w' only blocks of S, and new ones, have turned. -/
structure Chg (S : Nat → Prop) (w w' : World) : Prop where
  os : w'.os = w.os
  tape : w'.tape = w.tape
  output : w'.output = w.output
  size : w.heap.size ≤ w'.heap.size
  block : ∀ i, i < w.heap.size → ¬ S i → w'.heap[i]? = w.heap[i]?

section
variable {S T : Nat → Prop} {a b c w w' : World}
theorem Chg.refl (S : Nat → Prop) (w : World) : Chg S w w := ⟨rfl, rfl, rfl, Nat.le_refl _, fun _ _ _ => rfl⟩
theorem Chg.trans (h : Chg S a b) (k : Chg S b c) : Chg S a c :=
  ⟨k.os.trans h.os, k.tape.trans h.tape, k.output.trans h.output, Nat.le_trans h.size k.size, fun i hi hs => (k.block i (Nat.lt_of_lt_of_le hi h.size) hs).trans (h.block i hi hs)⟩
/-- What the second step turns lies in S or is new since the first world. -/
theorem Chg.trans' (h : Chg S a b) (k : Chg T b c) (hT : ∀ i, T i → S i ∨ a.heap.size ≤ i) : Chg S a c :=
  ⟨k.os.trans h.os, k.tape.trans h.tape, k.output.trans h.output, Nat.le_trans h.size k.size, fun i hi hs => (k.block i (Nat.lt_of_lt_of_le hi h.size) (fun ht => by
    rcases hT i ht with h1 | h1
    · exact hs h1
    · omega)).trans (h.block i hi hs)⟩
theorem Chg.mono (h : Chg S a b) (hS : ∀ i, S i → T i) : Chg T a b := ⟨h.os, h.tape, h.output, h.size, fun i hi ht => h.block i hi (fun hs => ht (hS i hs))⟩
theorem Chg.drew (h : Chg S a w) : Chg S a w.drew := ⟨h.os, h.tape, h.output, h.size, h.block⟩
theorem Chg.drewN (h : Chg S a w) (n : Nat) : Chg S a (w.drewN n) := ⟨h.os, h.tape, h.output, h.size, h.block⟩
theorem Chg.alloc (h : Chg S a w) (o : Obj) : Chg S a (w.alloc o) :=
  h.trans ⟨rfl, rfl, rfl, by simp, fun i hi _ => Below.heap_alloc _ _ _ hi⟩
theorem Chg.setCell (h : Chg S a w) {p : Addr} (hp : S p.block ∨ a.heap.size ≤ p.block) (u : Value) : Chg S a (w.setCell p u) :=
  h.trans' (T := fun i => i = p.block) ⟨rfl, rfl, rfl, by simp [World.setCell], fun i _ hne => Below.heap_setCell _ _ _ _ hne⟩ (fun i hi => hi ▸ hp)
theorem Chg.of_grown {row : Option Nat} (h : w.grownBy w' row) : Chg (fun i => row = some i) w w' :=
  ⟨h.os, h.tape, h.output, h.size, fun i hi hn => h.block i hi (fun e => hn e.symm)⟩
theorem Chg.grown {row : Option Nat} (h : Chg S a w) (hg : w.grownBy w' row) (hr : ∀ i, row = some i → S i ∨ a.heap.size ≤ i) : Chg S a w' := h.trans' (Chg.of_grown hg) hr
theorem Chg.of_below {B : Nat} (h : Below B w w') : Chg (fun i => B ≤ i) w w' := ⟨h.os, h.tape, h.output, h.size, fun i _ hn => h.block i (by omega)⟩
theorem Chg.below_new (h : Chg S a w) (hb : Below w.heap.size w w') : Chg S a w' := h.trans' (Chg.of_below hb) (fun _ hi => Or.inr (Nat.le_trans h.size hi))
theorem Chg.to_below {B : Nat} (h : Chg S w w') (hB : B ≤ w.heap.size) (hS : ∀ i, S i → B ≤ i) : Below B w w' :=
  ⟨h.os, h.tape, h.output, h.size, fun i hi => h.block i (by omega) (fun hs => by have := hS i hs; omega)⟩
theorem Chg.none_below (h : Chg (fun _ => False) w w') : Below w.heap.size w w' := h.to_below (Nat.le_refl _) (fun _ h => h.elim)
theorem Chg.of_below' (h : Below w.heap.size w w') : Chg (fun _ => False) w w' := ⟨h.os, h.tape, h.output, h.size, fun i hi _ => h.block i hi⟩
theorem Chg.mapTurned {m : Nat} (h : w.mapTurned w' m) : Chg (fun i => i = m) w w' := (Chg.of_grown h.grown).mono (fun _ hi => by simpa using hi.symm)
theorem Chg.map (h : Chg S a w) {m : Nat} (ht : w.mapTurned w' m) (hm : S m ∨ a.heap.size ≤ m) : Chg S a w' := h.trans' (Chg.mapTurned ht) (fun _ hi => hi ▸ hm)
theorem Chg.cell (h : Chg S w w') {p : Addr} (hl : p.block < w.heap.size) (hS : ¬ S p.block) : w'.cell? p = w.cell? p := World.cell?_of_block (h.block p.block hl hS)
theorem Chg.frozen (h : Chg S w w') {p : Addr} (hl : p.block < w.heap.size) (hS : ¬ S p.block) : w'.frozen? p = w.frozen? p := by
  unfold World.frozen?
  rw [h.block p.block hl hS]
end
theorem mapTurned_size {w w' : World} {b : Nat} (h : w.mapTurned w' b) : w'.heap.size = w.heap.size := by
  obtain ⟨es, clock, es', clock', hb, rfl⟩ := h
  simp [setBlock]

/-! ### a block known whole -/
def Blk (w : World) (g : Nat) (t : TypeId) (cs : Array Value) : Prop := w.heap[g]? = some (.cells cs t (0, 0))
section
variable {w w' : World} {g : Nat} {t : TypeId} {cs : Array Value} {S : Nat → Prop}
theorem Blk.lt (h : Blk w g t cs) : g < w.heap.size := by
  rcases Nat.lt_or_ge g w.heap.size with hlt | hge
  · exact hlt
  · unfold Blk at h; rw [Array.getElem?_eq_none hge] at h; cases h
theorem Blk.cell (h : Blk w g t cs) (i : Nat) : w.cell? ⟨g, i, none⟩ = cs[i]? := by
  unfold Blk at h
  simp [World.cell?, h]
theorem Blk.frozen (h : Blk w g t cs) (i : Nat) : w.frozen? ⟨g, i, none⟩ = false := by
  unfold Blk at h
  simp [World.frozen?, h]
theorem Blk.new (w : World) (t : TypeId) (cs : Array Value) : Blk (w.alloc (.cells cs t)) w.heap.size t cs := (heap_alloc w _).1
theorem blk_at {g' : Nat} (he : g = g') (h : Blk w g t cs) : Blk w g' t cs := he ▸ h
theorem Blk.same (h : Blk w g t cs) (hs : w'.heap[g]? = w.heap[g]?) : Blk w' g t cs := hs.trans h
theorem Blk.drew (h : Blk w g t cs) : Blk w.drew g t cs := h
theorem Blk.alloc (h : Blk w g t cs) (o : Obj) : Blk (w.alloc o) g t cs := (Below.heap_alloc w o g h.lt).trans h
theorem Blk.set_ (h : Blk w g t cs) (i : Nat) (u : Value) : Blk (w.setCell ⟨g, i, none⟩ u) g t (cs.setIfInBounds i u) := by
  unfold Blk at h ⊢
  simp [World.setCell, Array.getElem?_modify, h]
theorem Blk.far (h : Blk w g t cs) {p : Addr} (hp : g ≠ p.block) (u : Value) : Blk (w.setCell p u) g t cs := (Below.heap_setCell w p u g hp).trans h
theorem Blk.chg (h : Blk w g t cs) (hc : Chg S w w') (hS : ¬ S g) : Blk w' g t cs := (hc.block g h.lt hS).trans h
theorem Blk.turned (h : Blk w g t cs) {m : Nat} (ht : w.mapTurned w' m) : Blk w' g t cs := by
  refine h.chg (Chg.mapTurned ht) ?_
  rintro rfl
  obtain ⟨es, clock, es', clock', hb, rfl⟩ := ht
  unfold Blk at h
  rw [h] at hb
  cases hb
end
theorem MapIs.chg {κ α : Type} {ek : κ → Value} {ev : α → Value} {good : κ → Prop} {w w' : World} {b : Nat} {L : List (κ × α)} {S : Nat → Prop} (h : MapIs ek ev good w b L) (hc : Chg S w w') (hS : ¬ S b) : MapIs ek ev good w' b L :=
  h.same (hc.block b h.lt hS)
theorem map_ne_blk {κ α : Type} {ek : κ → Value} {ev : α → Value} {good : κ → Prop} {w : World} {b g : Nat} {t : TypeId} {cs : Array Value} {L : List (κ × α)} (h : MapIs ek ev good w b L) (hg : Blk w g t cs) : b ≠ g := by
  rintro rfl
  obtain ⟨es, clock, hb, _⟩ := h
  unfold Blk at hg
  rw [hg] at hb
  cases hb

/-! ### ints -/
def okI (n : Int) : Prop := (Lit.int .i64 n).wf = true
theorem okI_iff {n : Int} : okI n ↔ -9223372036854775808 ≤ n ∧ n ≤ 9223372036854775807 := by
  unfold okI
  simp [Lit.wf, IntKind.min, IntKind.max, IntKind.signed, IntKind.bits]
theorem intEnc {P : Program} {k : TypeId} (hk : P.underlying k = some (.int .i64)) : KeyEnc P k (Value.int .i64) okI :=
  ⟨int_keyed hk, fun _ _ h => by injection h, fun a ha => ⟨_, keyOf_int_mk hk ha⟩⟩

/-- Where 's[k:]' lies: at the capacity's end the address stays. -/
def cutA (A : Option Addr) (c k : Nat) : Option Addr := if c = k then A else A.map (·.add k)
theorem run_cut_from {P : Program} {t e : TypeId} (ht : P.underlying t = some (.slice e)) (he : ∀ w, (sizeOf e).run P w = .ok 1 w) (w : World) (A : Option Addr) (n c k : Nat) (hk : k ≤ n) :
    (Instr.slice t (.slice A n c) (some (.int .i64 (k : Int))) none none).run P w = .ok (.slice (cutA A c k) (n - k) (c - k)) w := by
  simp [Instr.slice, run_underlying ht, Instr.sliceBounds, run_sliceBound, he, cutA, Result.andThen, hk]
theorem run_cut_to {P : Program} {t e : TypeId} (ht : P.underlying t = some (.slice e)) (he : ∀ w, (sizeOf e).run P w = .ok 1 w) (w : World) (A : Option Addr) (n c k : Nat) (hk : k ≤ c) :
    (Instr.slice t (.slice A n c) none (some (.int .i64 (k : Int))) none).run P w = .ok (.slice A k c) w := by
  simp [Instr.slice, run_underlying ht, Instr.sliceBounds, run_sliceBound, he, Result.andThen, hk, Addr.add]
/-- A slice value whose elements are the ints xs, nil let in. -/
structure Ints (w : World) (A : Option Addr) (n : Nat) (xs : List Int) : Prop where
  len : xs.length = n
  ok : ∀ x ∈ xs, okI x
  at_ : 0 < n → ∃ b off, A = some ⟨b, off, none⟩ ∧ b < w.heap.size ∧ ∀ j, j < n → w.cell? ⟨b, off + j, none⟩ = some (.int .i64 (xs.getD j 0))
theorem getD_get (xs : List Int) (k : Nat) (h : k < xs.length) : xs.getD k 0 = xs[k] := by simp [List.getD, h]
theorem getD_mem {xs : List Int} {k : Nat} (h : k < xs.length) : xs.getD k 0 ∈ xs := by
  rw [getD_get xs k h]; exact List.getElem_mem h
theorem take_succ_getD (xs : List Int) (k : Nat) (h : k < xs.length) : xs.take (k + 1) = xs.take k ++ [xs.getD k 0] := by
  rw [List.take_succ_eq_append_getElem h, getD_get xs k h]
section
variable {w w' : World} {A : Option Addr} {n : Nat} {xs : List Int} {S : Nat → Prop}
theorem Ints.nil (w : World) : Ints w none 0 [] := ⟨rfl, by simp, fun h => absurd h (by omega)⟩
theorem Ints.keep (h : Ints w A n xs) (hs : w.heap.size ≤ w'.heap.size) (hk : ∀ b off, A = some ⟨b, off, none⟩ → b < w.heap.size → w'.heap[b]? = w.heap[b]?) : Ints w' A n xs :=
  ⟨h.len, h.ok, fun hn => by
    obtain ⟨b, off, e, hb, hc⟩ := h.at_ hn
    exact ⟨b, off, e, by omega, fun j hj => (World.cell?_of_block (hk b off e hb)).trans (hc j hj)⟩⟩
theorem Ints.chg (h : Ints w A n xs) (hc : Chg S w w') (hS : ∀ b off, A = some ⟨b, off, none⟩ → b < w.heap.size → ¬ S b) : Ints w' A n xs :=
  h.keep hc.size (fun b off e hb => hc.block b hb (hS b off e hb))
theorem Ints.below (h : Ints w A n xs) (hb : Below w.heap.size w w') : Ints w' A n xs := h.keep hb.size (fun b _ _ hl => hb.block b hl)
theorem Ints.new (h : Ints w A n xs) (hc : Chg (fun _ => False) w w') : Ints w' A n xs := h.chg hc (fun _ _ _ _ h => h)
theorem Ints.alloc (h : Ints w A n xs) (o : Obj) : Ints (w.alloc o) A n xs := h.keep (by simp) (fun b _ _ hl => Below.heap_alloc _ _ _ hl)
theorem Ints.drew (h : Ints w A n xs) : Ints w.drew A n xs := ⟨h.len, h.ok, h.at_⟩
theorem Ints.drewN (h : Ints w A n xs) (m : Nat) : Ints (w.drewN m) A n xs := ⟨h.len, h.ok, h.at_⟩
theorem Ints.take (h : Ints w A n xs) {k : Nat} (hk : k ≤ n) : Ints w A k (xs.take k) :=
  ⟨by rw [List.length_take, h.len]; omega, fun x hx => h.ok x (List.mem_of_mem_take hx), fun hp => by
    obtain ⟨b, off, e, hb, hc⟩ := h.at_ (by omega)
    refine ⟨b, off, e, hb, fun j hj => ?_⟩
    rw [hc j (by omega)]
    simp [List.getD, hj]⟩
theorem Ints.drop (h : Ints w A n xs) {k c : Nat} (hk : k ≤ n) (hc : n ≤ c) : Ints w (cutA A c k) (n - k) (xs.drop k) :=
  ⟨by rw [List.length_drop, h.len], fun x hx => h.ok x (List.mem_of_mem_drop hx), fun hp => by
    obtain ⟨b, off, rfl, hb, hcell⟩ := h.at_ (by omega)
    refine ⟨b, off + k, by unfold cutA; rw [if_neg (by omega)]; simp [Addr.add], hb, fun j hj => ?_⟩
    rw [show off + k + j = off + (k + j) from by omega, hcell (k + j) (by omega)]
    simp [List.getD, List.getElem?_drop]⟩
end

/-! ### a map's laws at an operation -/
section
variable {κ α : Type} [DecidableEq κ] {P : Program} {k : TypeId} {ek : κ → Value} {ev : α → Value} {good : κ → Prop} {b : Nat} {L : List (κ × α)}
variable (w : World) {ops : Array Oper} {rest : List Oper} {o : Oper} {a : Act} {Q : Exit → Act → World → Prop}
/-- 'm[x]'. -/
theorem wpList_look (hg : o.guard = none) (m x : Operand) (t : TypeId) (hop : o.op = Op.lookup t m x false) (e : TypeId) (E : KeyEnc P k ek good) (ht : P.underlying t = some (.map k e)) {z : Value} (hz : (zeroValue e).run P w = .ok z w)
    (h : MapIs ek ev good w b L) (hm : a.eval m = .map (some b)) (key : κ) (hx : a.eval x = ek key) (hkey : good key)
    (hK : wpList P ops Q rest (a.put o.dst (((aget L key).map ev).getD z)) w) : wpList P ops Q (o :: rest) a w := by
  refine wpList_plain hg fun K' hK' => ?_
  have hrun := h.look E ht hz hkey false
  unfold Oper.wp
  simp [execOp, hop, hm, hx, hrun, Result.andThen]
  exact hK' _ _ hK
/-- 'v, ok := m[x]'. -/
theorem wpList_look_ok (hg : o.guard = none) (m x : Operand) (t : TypeId) (hop : o.op = Op.lookup t m x true) (e : TypeId) (E : KeyEnc P k ek good) (ht : P.underlying t = some (.map k e)) {z : Value} (hz : (zeroValue e).run P w = .ok z w)
    (h : MapIs ek ev good w b L) (hm : a.eval m = .map (some b)) (key : κ) (hx : a.eval x = ek key) (hkey : good key)
    (hK : wpList P ops Q rest (a.put o.dst (.tuple #[((aget L key).map ev).getD z, .bool (aget L key).isSome])) w) : wpList P ops Q (o :: rest) a w := by
  refine wpList_plain hg fun K' hK' => ?_
  have hrun := h.look E ht hz hkey true
  unfold Oper.wp
  simp [execOp, hop, hm, hx, hrun, Result.andThen]
  exact hK' _ _ hK
/-- 'm[x] = v'. -/
theorem wpList_store (hg : o.guard = none) (m x v : Operand) (t : TypeId) (hop : o.op = Op.mapUpdate t m x v) (e : TypeId) (E : KeyEnc P k ek good) (ht : P.underlying t = some (.map k e))
    (h : MapIs ek ev good w b L) (hm : a.eval m = .map (some b)) (key : κ) (hx : a.eval x = ek key) (hkey : good key) (val : α) (hv : a.eval v = ev val)
    (hK : ∀ w', MapIs ek ev good w' b (aput L key val) → w.mapTurned w' b → wpList P ops Q rest (a.put o.dst undef) w') : wpList P ops Q (o :: rest) a w := by
  refine wpList_plain hg fun K' hK' => ?_
  obtain ⟨w', hrun, r1, r2⟩ := h.store E ht hkey val
  unfold Oper.wp
  simp [execOp, hop, hm, hx, hv, hrun, Result.andThen]
  exact hK' _ _ (hK w' r1 r2)
/-- 'delete(m, x)'. -/
theorem wpList_drop (hg : o.guard = none) (m x : Operand) (t : TypeId) (hop : o.op = Op.call { callee := Callee.builtin Builtin.delete, args := #[m, x], argTypes := #[t, k] }) (e : TypeId) (E : KeyEnc P k ek good) (ht : P.underlying t = some (.map k e))
    (h : MapIs ek ev good w b L) (hm : a.eval m = .map (some b)) (key : κ) (hx : a.eval x = ek key) (hkey : good key)
    (hK : ∀ w', MapIs ek ev good w' b (adel L key) → w.mapTurned w' b → wpList P ops Q rest (a.put o.dst (.tuple #[])) w') : wpList P ops Q (o :: rest) a w := by
  refine wpList_plain hg fun K' hK' => ?_
  obtain ⟨w', hrun, r1, r2⟩ := h.drop E ht hkey o.type
  unfold Oper.wp
  simp [execOp, hop, resolve, invoke, builtin, hm, hx, hrun, Result.andThen]
  exact hK' _ _ (hK w' r1 r2)
end
/-- 'len(m)'. -/
theorem wpList_maplen {κ α : Type} {P : Program} {k : TypeId} {ek : κ → Value} {ev : α → Value} {good : κ → Prop} {b : Nat} {L : List (κ × α)} (w : World) {ops : Array Oper} {rest : List Oper} {o : Oper} {a : Act} {Q : Exit → Act → World → Prop}
    (hg : o.guard = none) (m : Operand) (t : TypeId) (hop : o.op = Op.call { callee := Callee.builtin Builtin.len, args := #[m], argTypes := #[t] }) (e : TypeId) (ht : P.underlying t = some (.map k e))
    (h : MapIs ek ev good w b L) (hm : a.eval m = .map (some b)) (hK : wpList P ops Q rest (a.put o.dst (.int .i64 (L.length : Int))) w) : wpList P ops Q (o :: rest) a w := by
  refine wpList_plain hg fun K' hK' => ?_
  have hrun := h.len ht o.type
  unfold Oper.wp
  simp [execOp, hop, resolve, invoke, builtin, hm, hrun, Result.andThen]
  exact hK' _ _ hK
end Go.Proofs.Ytgmekeeemimnpaa
