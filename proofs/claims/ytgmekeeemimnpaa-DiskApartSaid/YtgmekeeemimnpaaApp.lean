/- append onto a slice of ints that the call itself made; the source a slice of ints, nil let in. -/
import Derived.Test.YtgmekeeemimnpaaCore
import Derived.Laws.OwnMore
namespace Go.Proofs.Ytgmekeeemimnpaa
open Go Go.Maps Go.MapKept Go.RowKit

/-- v is a slice of the call's own (from block 'base' on) that holds the ints xs. -/
def OwnI (w : World) (base e : Nat) (v : Value) (xs : List Int) : Prop := w.ownsRow base e 1 v xs.length (xs.map (Value.int .i64))

section
variable {P : Program} {w w' : World} {base e : Nat} {v : Value} {xs : List Int}
theorem OwnI.nil (w : World) (base e : Nat) : OwnI w base e (.slice none 0 0) [] := ⟨rfl, .inl ⟨rfl, rfl⟩⟩
/-- '[]int{}'. -/
theorem OwnI.empty (w : World) (base e : Nat) (hb : base ≤ w.heap.size) : OwnI (w.alloc (.cells #[] e)) base e (.slice (some ⟨w.heap.size, 0, none⟩) 0 0) [] :=
  ⟨rfl, .inr ⟨w.heap.size, 0, #[], rfl, hb, (heap_alloc w _).1, Nat.le_refl _, Nat.zero_le _, rfl, rfl⟩⟩
theorem OwnI.slice (h : OwnI w base e v xs) : ∃ A c, v = .slice A xs.length c ∧ xs.length ≤ c ∧ c ≤ maxLen ∧ (∀ b off, A = some ⟨b, off, none⟩ → base ≤ b) := by
  rcases h.2 with ⟨rfl, h0⟩ | ⟨g, cap, cur, rfl, hg, _, h1, h2, _⟩
  · exact ⟨none, 0, by rw [h0], by omega, by unfold maxLen; omega, fun b off e => by cases e⟩
  · exact ⟨_, cap, rfl, h1, h2, fun b off e => by cases e; exact hg⟩
theorem OwnI.ints (h : OwnI w base e v xs) (hok : ∀ x ∈ xs, okI x) {A : Option Addr} {n c : Nat} (hv : v = .slice A n c) : Ints w A n xs := by
  rcases h.2 with ⟨rfl, h0⟩ | ⟨g, cap, cur, rfl, hg, hh, h1, h2, h3, h4⟩
  · cases hv
    exact ⟨h0, hok, fun h => absurd h (by omega)⟩
  · cases hv
    refine ⟨rfl, hok, fun _ => ⟨g, 0, rfl, (Array.getElem?_eq_some_iff.1 hh).1, fun j hj => ?_⟩⟩
    have hc : w.cell? ⟨g, 0 + j, none⟩ = cur[j]? := by simp [World.cell?, hh]
    rw [hc, ← Array.getElem?_toList]
    have h5 : (cur.toList.take (xs.length * 1))[j]? = cur.toList[j]? := by rw [List.getElem?_take, if_pos (by omega)]
    rw [← h5, h4]
    simp [List.getD, hj]
theorem OwnI.chg {S : Nat → Prop} (h : OwnI w base e v xs) (hc : Chg S w w') (hS : ∀ g, v.ownBlock = some g → ¬ S g) : OwnI w' base e v xs := by
  refine ⟨h.1, ?_⟩
  rcases h.2 with ⟨rfl, h0⟩ | ⟨g, cap, cur, rfl, hg, hh, rest⟩
  · exact .inl ⟨rfl, h0⟩
  · exact .inr ⟨g, cap, cur, rfl, hg, (hc.block g (Array.getElem?_eq_some_iff.1 hh).1 (hS g rfl)).trans hh, rest⟩
theorem OwnI.low (h : OwnI w base e v xs) {b' : Nat} (hb : b' ≤ base) : OwnI w b' e v xs := by
  refine ⟨h.1, ?_⟩
  rcases h.2 with h0 | ⟨g, cap, cur, h1, hg, rest⟩
  · exact .inl h0
  · exact .inr ⟨g, cap, cur, h1, by omega, rest⟩
theorem OwnI.new (h : OwnI w base e v xs) (hc : Chg (fun _ => False) w w') : OwnI w' base e v xs := h.chg hc (fun _ _ h => h)
theorem OwnI.alloc (h : OwnI w base e v xs) (o : Obj) : OwnI (w.alloc o) base e v xs := h.new ((Chg.refl _ w).alloc o)
theorem OwnI.drew (h : OwnI w base e v xs) : OwnI w.drew base e v xs := h
theorem OwnI.base_le (h : OwnI w base e v xs) {g : Nat} (hg : v.ownBlock = some g) : base ≤ g := by
  rcases h.2 with ⟨rfl, _⟩ | ⟨g', cap, cur, rfl, hb, _⟩
  · cases hg
  · cases hg; exact hb

theorem run_append_nil (t ty : TypeId) (i : TypeInfo) (ht : P.underlying t = some (.slice e)) (hi : P.info? e = some i) (hown : OwnI w base e v xs) (c : Nat) : (Builtin.append_ #[t, t] ty #[v, .slice none 0 c]).run P w = .ok v w := by
  rcases hown.2 with ⟨rfl, h0⟩ | ⟨g, cap, cur, rfl, _, _, hnc, _⟩
  · simp [Builtin.append_, run_underlying ht, sizeOf, typeInfo, hi, Builtin.lenOf, Builtin.firstCells]
  · simp [Builtin.append_, run_underlying ht, sizeOf, typeInfo, hi, Builtin.lenOf, Builtin.firstCells, hnc, storeCells]

theorem run_append_ints (t ty : TypeId) (i : TypeInfo) (z : Value) (ht : P.underlying t = some (.slice e)) (hi : P.info? e = some i) (hz : i.zero = some z) (hsize : i.size = 1) (hby : i.bytes = 8) (hzs : z.cells.size = 1)
    (hown : OwnI w base e v xs) {A : Option Addr} {m c : Nat} {ys : List Int} (hr : Ints w A m ys) (hb : xs.length + m ≤ 17592186043904) (hbase : base ≤ w.heap.size) :
    ∃ v' w', (Builtin.append_ #[t, t] ty #[v, .slice A m c]).run P w = .ok v' w' ∧ OwnI w' base e v' (xs ++ ys) ∧ w.grownBy w' v.ownBlock ∧ (v'.ownBlock = v.ownBlock ∨ v'.ownBlock = some w.heap.size) := by
  rcases A with _ | ad
  · have hm : m = 0 := by
      rcases Nat.eq_zero_or_pos m with h0 | h0
      · exact h0
      · obtain ⟨b, off, e, _⟩ := hr.at_ h0
        cases e
    subst hm
    have hn : ys = [] := List.eq_nil_of_length_eq_zero hr.len
    subst hn
    exact ⟨v, w, run_append_nil t ty i ht hi hown c, by simpa using hown, World.grownBy.refl w _, .inl rfl⟩
  · have hlen := hr.len
    have hcells : ∀ j u, (ys.map (Value.int .i64))[j]? = some u → w.cell? (ad.add j) = some u := by
      intro j u hu
      have hj : j < ys.length := by have := (List.getElem?_eq_some_iff.1 hu).1; simpa using this
      obtain ⟨b, off, e1, _, hc⟩ := hr.at_ (by omega)
      cases e1
      have e2 : (⟨b, off, none⟩ : Addr).add j = ⟨b, off + j, none⟩ := by
        unfold Addr.add
        split
        · rename_i h0; subst h0; rfl
        · rfl
      rw [e2, hc j (by omega)]
      simp only [List.getElem?_map, List.getElem?_eq_getElem hj, Option.map_some, Option.some.injEq] at hu
      rw [← hu, getD_get ys j hj]
    obtain ⟨v', w', hrun, h2, h3, _, h5⟩ := run_append_own_at (P := P) w base t ty e i z 1 8 ht hi hz hsize hby hzs (by decide) v xs.length (xs.map (Value.int .i64)) hown ad m c (ys.map (Value.int .i64)) (by simp [hlen]) hcells (ints_oneCell .i64 ys) (by unfold maxLen; omega) (by omega) hbase
    refine ⟨v', w', hrun, ?_, h3, h5⟩
    unfold OwnI
    rw [List.map_append, List.length_append, hlen]
    exact h2

variable (w)
variable {ops : Array Oper} {rest : List Oper} {o : Oper} {a : Act} {Q : Exit → Act → World → Prop}
/-- 'append(s, x...)' at the operation. -/
theorem wpList_append_ints (hgd : o.guard = none) (s x : Operand) (t : TypeId) (ho : o.op = .call { callee := .builtin .append, args := #[s, x], argTypes := #[t, t] }) (i : TypeInfo) (z : Value)
    (ht : P.underlying t = some (.slice e)) (hi : P.info? e = some i) (hz : i.zero = some z) (hsize : i.size = 1) (hby : i.bytes = 8) (hzs : z.cells.size = 1)
    (hs : a.eval s = v) (hown : OwnI w base e v xs) {A : Option Addr} {m c : Nat} {ys : List Int} (hx : a.eval x = .slice A m c) (hr : Ints w A m ys) (hb : xs.length + m ≤ 17592186043904) (hbase : base ≤ w.heap.size)
    (h : ∀ v' w', OwnI w' base e v' (xs ++ ys) → w.grownBy w' v.ownBlock → (v'.ownBlock = v.ownBlock ∨ v'.ownBlock = some w.heap.size) → wpList P ops Q rest (a.put o.dst v') w') : wpList P ops Q (o :: rest) a w := by
  refine wpList_plain hgd fun K hK => ?_
  obtain ⟨v', w', hrun, h2, h3, h4⟩ := run_append_ints (w := w) t o.type i z ht hi hz hsize hby hzs hown (c := c) hr hb hbase
  unfold Oper.wp execOp
  simp only [ho, resolve, invoke, builtin, Sem.run_bind, Sem.run_pure, Result.andThen_ok, List.map_toArray, List.map_cons, List.map_nil, hs, hx, hrun]
  exact hK _ _ (h v' w' h2 h3 h4)
/-- .. in a region that draws its order. -/
theorem step_append_ints {w : World} {ops : Array Oper} {o : Oper} {a : Act} {K : Act → World → Prop} {Q : Exit → Act → World → Prop} {E : Prop} (hgd : o.guard = none) (s x : Operand) (t : TypeId) (ho : o.op = .call { callee := .builtin .append, args := #[s, x], argTypes := #[t, t] }) (i : TypeInfo) (z : Value)
    (ht : P.underlying t = some (.slice e)) (hi : P.info? e = some i) (hz : i.zero = some z) (hsize : i.size = 1) (hby : i.bytes = 8) (hzs : z.cells.size = 1)
    (hs : a.eval s = v) (hown : OwnI w base e v xs) {A : Option Addr} {m c : Nat} {ys : List Int} (hx : a.eval x = .slice A m c) (hr : Ints w A m ys) (hb : xs.length + m ≤ 17592186043904) (hbase : base ≤ w.heap.size)
    (h : ∀ v' w', OwnI w' base e v' (xs ++ ys) → w.grownBy w' v.ownBlock → (v'.ownBlock = v.ownBlock ∨ v'.ownBlock = some w.heap.size) → K (a.put o.dst v') w') :
    if Region.wanted o (yielded ops a.tmps) = true then Oper.wp P o a w K Q else E := by
  have hw : Region.wanted o (yielded ops a.tmps) = true := by simp [Region.wanted, hgd]
  rw [if_pos hw]
  obtain ⟨v', w', hrun, h2, h3, h4⟩ := run_append_ints (w := w) t o.type i z ht hi hz hsize hby hzs hown (c := c) hr hb hbase
  unfold Oper.wp execOp
  simp only [ho, resolve, invoke, builtin, Sem.run_bind, Sem.run_pure, Result.andThen_ok, List.map_toArray, List.map_cons, List.map_nil, hs, hx, hrun]
  exact h v' w' h2 h3 h4
end
/-- A one-cell block that was just laid, as a slice. -/
theorem Ints.one (w : World) (t : TypeId) (x : Int) (hx : okI x) : Ints (w.alloc (.cells #[.int .i64 x] t)) (some ⟨w.heap.size, 0, none⟩) 1 [x] :=
  ⟨rfl, by simpa using hx, fun _ => ⟨w.heap.size, 0, rfl, by simp, fun j hj => by
    obtain rfl : j = 0 := by omega
    exact (Blk.new w t #[.int .i64 x]).cell 0⟩⟩
end Go.Proofs.Ytgmekeeemimnpaa
