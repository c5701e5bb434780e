/- Slices of records (the main seat's texts, in a namespace of their own); a slice of claims. (Printed by wip/gen_rd.py.) -/
import Derived.Test.YtgmekeeemimnpaaDoorC9
import Derived.Deep.Slices
import Derived.Deep.Fields
import Derived.Deep.Strs
import Derived.Laws.Cells
import Derived.Laws.CopyRow
import Derived.ArgAppend
import Derived.Lib.SmallJoins
namespace Go.Proofs.YtgmekeeemimnpaaDoor.R
open Go
theorem cell_lt {w : World} {b off : Nat} {v : Value} (h : w.cell? ⟨b, off, none⟩ = some v) : b < w.heap.size := by
  rcases Nat.lt_or_ge b w.heap.size with hlt | hge
  · exact hlt
  · simp [World.cell?, Array.getElem?_eq_none hge] at h
section
open Go Go.RowKit Go.ChangeShapes Go.WideShapes Go.Deep

/-- A slice value whose elements are the records xs, each of K cells, nil let in. -/
structure Recs {α : Type} (enc : α → List Value) (K : Nat) (d : α) (w : World) (A : Option Addr) (n : Nat) (xs : List α) : Prop where
  len : xs.length = n
  at_ : 0 < n → ∃ b off, A = some ⟨b, off, none⟩ ∧ b < w.heap.size ∧ ∀ i, i < n → ∀ j v, (enc (xs.getD i d))[j]? = some v → w.cell? ⟨b, off + (i * K + j), none⟩ = some v
section
variable {α : Type} {enc : α → List Value} {K : Nat} {d : α} {w w' : World} {A : Option Addr} {n : Nat} {xs : List α}
theorem Recs.nil (w : World) : Recs enc K d w none 0 [] := ⟨rfl, fun h => absurd h (by omega)⟩
theorem Recs.keep (h : Recs enc K d w A n xs) (hs : w.heap.size ≤ w'.heap.size) (hk : ∀ b off, A = some ⟨b, off, none⟩ → b < w.heap.size → w'.heap[b]? = w.heap[b]?) : Recs enc K d w' A n xs :=
  ⟨h.len, fun hn => by
    obtain ⟨b, off, e, hb, hc⟩ := h.at_ hn
    exact ⟨b, off, e, by omega, fun i hi j v hv => (World.cell?_of_block (hk b off e hb)).trans (hc i hi j v hv)⟩⟩
theorem Recs.chg {S : Nat → Prop} (h : Recs enc K d w A n xs) (hc : Chg S w w') (hS : ∀ b off, A = some ⟨b, off, none⟩ → b < w.heap.size → ¬ S b) : Recs enc K d w' A n xs :=
  h.keep hc.size (fun b off e hb => hc.block b hb (hS b off e hb))
theorem Recs.new (h : Recs enc K d w A n xs) (hc : Chg (fun _ => False) w w') : Recs enc K d w' A n xs := h.chg hc (fun _ _ _ _ h => h)
theorem getD_mem' {xs : List α} {d : α} {k : Nat} (h : k < xs.length) : xs.getD k d ∈ xs := by
  simp only [List.getD, List.getElem?_eq_getElem h, Option.getD_some]
  exact List.getElem_mem h
theorem take_succ_getD' (xs : List α) (d : α) (k : Nat) (h : k < xs.length) : xs.take (k + 1) = xs.take k ++ [xs.getD k d] := by
  rw [List.take_succ_eq_append_getElem h]
  simp only [List.getD, List.getElem?_eq_getElem h, Option.getD_some]
end

theorem list_of {α : Type} (P : Nat → α → Prop) (d : α) : ∀ n, (∀ i, i < n → ∃ a, P i a) → ∃ xs : List α, xs.length = n ∧ ∀ i, i < n → P i (xs.getD i d)
  | 0, _ => ⟨[], rfl, fun _ h => by omega⟩
  | n + 1, h => by
    obtain ⟨xs, hl, hx⟩ := list_of P d n (fun i hi => h i (by omega))
    obtain ⟨a, ha⟩ := h n (by omega)
    refine ⟨xs ++ [a], by simp [hl], fun i hi => ?_⟩
    by_cases he : i < n
    · have := hx i he
      simpa [List.getD, List.getElem?_append, hl, he] using this
    · obtain rfl : i = n := by omega
      simpa [List.getD, List.getElem?_append, hl] using ha

section
variable {H : Type} {encH : TypeId × Value → H} {W : World}
/-- Out of an argument's reading. -/
theorem recs_of_trod {α : Type} {enc : α → List Value} {K : Nat} {d : α} {t e : TypeId} (ht : Tryd.prog.underlying t = some (.slice e)) (hK : Tryd.prog.cellsOf e = K) (hK0 : 0 < K) (good : α → Prop)
    (hread : ∀ n cs' y, DataW.trod encH Tryd.prog W 0 (fun _ => true) true n e cs' = some y → ∃ a, cs' = enc a ∧ good a)
    {a : Option Addr} {len cap : Nat} {dd : DataW H} {p : List MemPlace} (h : DataW.Trod encH Tryd.prog W 0 (fun _ => true) true t (.slice a len cap) dd p) : ∃ xs : List α, Recs enc K d W a len xs ∧ (∀ x ∈ xs, good x) ∧ len ≤ cap ∧ cap ≤ maxLen := by
  obtain ⟨fuel, hf⟩ := h
  rcases open_slice ht hf with ⟨hcs, _⟩ | ⟨x, l, c, m, n, D, Pl, hcs, _, hl, hm, hmm, _, hi⟩
  · simp [Value.cells] at hcs
    obtain ⟨rfl, rfl, rfl⟩ := hcs
    exact ⟨[], Recs.nil W, by simp, Nat.le_refl _, by unfold maxLen; omega⟩
  · simp [Value.cells] at hcs
    obtain ⟨rfl, rfl, rfl⟩ := hcs
    simp only [if_true] at hmm
    subst hmm
    rw [hK] at hi
    have hP : ∀ i, i < len → ∃ a : α, good a ∧ ∀ j v, (enc a)[j]? = some v → W.cell? (x.add (i * K + j)) = some v := by
      intro i hil
      obtain ⟨cs', hc, ht'⟩ := hi i (by omega)
      obtain ⟨a, rfl, hg⟩ := hread n cs' _ ht'
      obtain ⟨_, hcl, hat⟩ := World.cells?_some hc
      refine ⟨a, hg, fun j v hv => ?_⟩
      have hj : j < K := by rw [← hcl]; exact (List.getElem?_eq_some_iff.1 hv).1
      rw [← Go.Deep.add_add, hat j hj, hv]
    obtain ⟨xs, hxl, hxs⟩ := list_of (fun i a => good a ∧ ∀ j v, (enc a)[j]? = some v → W.cell? (x.add (i * K + j)) = some v) d len hP
    refine ⟨xs, ⟨hxl, fun hp => ?_⟩, fun y hy => ?_, hl, hm⟩
    · obtain ⟨cs', hc, ht'⟩ := hi 0 (by omega)
      obtain ⟨_, hcl, hat⟩ := World.cells?_some hc
      obtain ⟨b, off, spot⟩ := x
      have h0 := hat 0 hK0
      have hc0 : ∃ v, cs'[0]? = some v := ⟨cs'[0]'(by omega), List.getElem?_eq_getElem (by omega)⟩
      obtain ⟨v, hv⟩ := hc0
      rw [hv] at h0
      have hspot : spot = none := by
        have := World.cell?_spot h0
        simpa [Addr.add] using this
      subst hspot
      have h0' : W.cell? ⟨b, off, none⟩ = some v := by simpa [Addr.add] using h0
      refine ⟨b, off, rfl, cell_lt h0', fun i hil j v hv => ?_⟩
      have := (hxs i hil).2 j v hv
      rwa [Go.WideShapes.add_plain] at this
    · obtain ⟨i, hi', rfl⟩ := List.getElem_of_mem hy
      have := (hxs i (by omega)).1
      simpa [List.getD, hi'] using this
end
end
section
open Go Go.Maps Go.MapKept Go.RowKit

section
variable {P : Program} {w : World}
theorem load_cells {a : Addr} (t : TypeId) {k : Nat} (hie : (P.info? t).map (·.size) = some k) (hagg : ∀ w, (isAgg t).run P w = .ok true w) (cs : Array Value) (hs : cs.size = k)
    (hc : ∀ j v, cs[j]? = some v → w.cell? (a.add j) = some v) : (loadVar t a).run P w = .ok (.agg cs) w := by
  obtain ⟨ie, hie, hsz⟩ := Option.map_eq_some_iff.1 hie
  have h1 := run_loadCells_list (P := P) w a cs.toList (fun j v hj => hc j v (by simpa using hj))
  have h2 : cs.toList.length = ie.size := by rw [hsz]; simpa using hs
  rw [h2] at h1
  simp [loadVar, hagg, sizeOf, typeInfo, hie, h1, Result.andThen]
theorem Blk.loadAll {g : Nat} {t : TypeId} {k : Nat} {cs : Array Value} (h : Blk w g t cs) (hie : (P.info? t).map (·.size) = some k) (hagg : ∀ w, (isAgg t).run P w = .ok true w) (hs : cs.size = k) : (loadVar t ⟨g, 0, none⟩).run P w = .ok (.agg cs) w :=
  load_cells t hie hagg cs hs (fun j v hj => by
    rw [Addr.add_lit, Nat.zero_add]
    exact (h.cell j).trans hj)
/-- An element of a slice of records. -/
theorem Recs.load {α : Type} {enc : α → List Value} {K : Nat} {d : α} {b off n : Nat} {xs : List α} (h : Recs enc K d w (some ⟨b, off, none⟩) n xs) {i : Nat} (hi : i < n) (t : TypeId) (hie : (P.info? t).map (·.size) = some K) (hagg : ∀ w, (isAgg t).run P w = .ok true w) (hK : ∀ a, (enc a).length = K) :
    (loadVar t ⟨b, off + i * K, none⟩).run P w = .ok (.agg (enc (xs.getD i d)).toArray) w := by
  obtain ⟨b', off', e, _, hc⟩ := h.at_ (by omega)
  cases e
  exact load_cells t hie hagg _ (by simpa using hK _) (fun j v hj => by
    have := hc i hi j v (by simpa using hj)
    rw [← this, Go.WideShapes.add_plain]
    congr 2
    omega)
/-- A struct that is stored whole into its block. -/
theorem Blk.storeAll {g : Nat} {t : TypeId} {k : Nat} {cs cs' : Array Value} (h : Blk w g t cs) (hie : (P.info? t).map (·.size) = some k) (hs : cs.size = k) (hs' : cs'.size = k) (h1 : ∀ v ∈ cs'.toList, v.oneCell' = true) :
    ∃ w', (storeVar t ⟨g, 0, none⟩ (.agg cs')).run P w = .ok () w' ∧ Blk w' g t cs' ∧ Chg (fun i => i = g) w w' ∧ w'.heap.size = w.heap.size := by
  obtain ⟨ie, hie, hsz⟩ := Option.map_eq_some_iff.1 hie
  have hr := run_storeCells_at P g 0 t cs'.toList 0 cs w h (by simp; omega) h1
  have e : (List.take (0 + 0) cs.toList ++ cs'.toList ++ List.drop (0 + 0 + cs'.toList.length) cs.toList).toArray = cs' := by
    rw [List.drop_eq_nil_of_le (by simp; omega)]
    simp
  rw [e] at hr
  refine ⟨w.setRow g cs', ?_, setRow_heap w g cs cs' _ _ h, ⟨rfl, rfl, rfl, by simp, fun i _ hne => setRow_other w g i _ hne⟩, by simp⟩
  simp [storeVar, Value.cells, sizeOf, typeInfo, hie, hsz, hs', hr, Result.andThen]
/-- .. into a block that was just laid. -/
theorem keep_rec (w1 : World) {t : TypeId} {k : Nat} {cs cs' : Array Value} (hie : (P.info? t).map (·.size) = some k) (hs : cs.size = k) (hs' : cs'.size = k) (h1 : ∀ v ∈ cs'.toList, v.oneCell' = true) :
    ∃ w2, (storeVar t ⟨w1.heap.size, 0, none⟩ (.agg cs')).run P (w1.alloc (.cells cs t)) = .ok () w2 ∧ Blk w2 w1.heap.size t cs' ∧ Chg (fun _ => False) w1 w2 ∧ w2.heap.size = w1.heap.size + 1 := by
  obtain ⟨w2, s2, t2, c2, z2⟩ := Blk.storeAll (P := P) (Blk.new w1 t cs) hie hs hs' h1
  exact ⟨w2, s2, t2, ((Chg.refl (fun _ => False) w1).alloc (.cells cs t)).trans' c2 (fun i hi => .inr (by subst hi; exact Nat.le_refl _)), by rw [z2]; simp⟩
variable (w)
variable {ops : Array Oper} {rest : List Oper} {o : Oper} {a : Act} {Q : Exit → Act → World → Prop}
theorem wpList_loadv (hg : o.guard = none) (t : TypeId) (x : Operand) (hop : o.op = Op.load t x) {b : Addr} {v : Value} (hx : a.eval x = .pointer (some b)) (hl : (loadVar t b).run P w = .ok v w)
    (hK : wpList P ops Q rest (a.put o.dst v) w) : wpList P ops Q (o :: rest) a w := by
  refine wpList_plain hg fun K' hK' => ?_
  unfold Oper.wp
  simp [execOp, hop, hx, Instr.loadAt, Instr.sureAddr, hl, Result.andThen]
  exact hK' _ _ hK
theorem wpList_storev (hg : o.guard = none) (t : TypeId) (x y : Operand) (hop : o.op = Op.store t x y) {b : Addr} {v : Value} {w' : World} (hx : a.eval x = .pointer (some b)) (hy : a.eval y = v) (hl : (storeVar t b v).run P w = .ok () w')
    (hK : wpList P ops Q rest (a.put o.dst undef) w') : wpList P ops Q (o :: rest) a w := by
  refine wpList_plain hg fun K' hK' => ?_
  unfold Oper.wp
  simp [execOp, hop, hx, hy, Instr.storeAt, Instr.sureAddr, hl, Result.andThen]
  exact hK' _ _ hK
theorem wpList_allocv (hg : o.guard = none) (t : TypeId) (hop : o.op = Op.alloc t) {v : Value} (hz : (zeroValue t).run P w = .ok v w)
    (hK : wpList P ops Q rest (a.put o.dst (.pointer (some ⟨w.heap.size, 0, none⟩))) (w.alloc (.cells v.cells t))) : wpList P ops Q (o :: rest) a w := by
  refine wpList_plain hg fun K' hK' => ?_
  unfold Oper.wp
  simp [execOp, hop, Instr.alloc, hz, newVar, newRow, Result.andThen]
  exact hK' _ _ hK
end

section
variable {H : Type} {encH : TypeId × Value → H} {W : World}
/-- A struct whose fields are ints, read. -/
theorem ints_struct {t K : Nat} {fs : Array Field} {held : Bool} {sp : Nat → Bool} {n : Nat} {cs : List Value} {y : DataW H × List MemPlace} (ht : Tryd.prog.underlying t = some (.struct fs)) (hK : Tryd.prog.cellsOf t = K)
    (hfs : ∀ i, i < K → ∃ f, fs[i]? = some f ∧ f.offset = i ∧ f.type = 3) (h : DataW.trod encH Tryd.prog W 0 sp held n t cs = some y) : ∃ zs : List Int, zs.length = K ∧ cs = zs.map (Value.int .i64) ∧ ∀ z ∈ zs, okI z := by
  obtain ⟨xs, m, _, _, hl, hlen, hf⟩ := DataW.trod_struct ht h
  rw [hK] at hl
  have hi : ∀ i, i < K → ∃ z, cs[i]? = some (.int .i64 z) ∧ okI z := by
    intro i hi
    obtain ⟨f, hfi, ho, hty⟩ := hfs i hi
    have h1 := hf i f hfi
    have hil : i < xs.length := by rw [hlen]; exact (Array.getElem?_eq_some_iff.1 hfi).1
    rw [hty, ho, List.getElem?_eq_getElem hil] at h1
    obtain ⟨z, hz, _, wz⟩ := DataW.trod_int Tryd.underlying3 h1
    refine ⟨z, ?_, wz⟩
    have hc : Tryd.prog.cellsOf 3 = 1 := by kernel_rfl
    rw [hc] at hz
    have h2 := congrArg (·[0]?) hz
    simpa [List.getElem?_take, List.getElem?_drop] using h2
  obtain ⟨zs, hzl, hzs⟩ := list_of (fun i z => cs[i]? = some (.int .i64 z) ∧ okI z) 0 K hi
  refine ⟨zs, hzl, ?_, fun z hz => ?_⟩
  · apply List.ext_getElem?
    intro i
    by_cases h3 : i < K
    · rw [(hzs i h3).1]
      simp [List.getD, show i < zs.length by omega]
    · rw [List.getElem?_eq_none (by omega), List.getElem?_eq_none (by simp; omega)]
  · obtain ⟨i, hi', rfl⟩ := List.getElem_of_mem hz
    have := (hzs i (by omega)).2
    simpa [List.getD, hi'] using this
end
end
section
open Go Go.Maps Go.MapKept Go.RowKit

section
variable {α : Type} {enc : α → List Value} {K : Nat} {d : α}
theorem flat_len (hK : ∀ a, (enc a).length = K) : ∀ xs : List α, (xs.flatMap enc).length = xs.length * K
  | [] => by simp
  | a :: xs => by rw [List.flatMap_cons, List.length_append, hK, flat_len hK xs, List.length_cons, Nat.add_mul, Nat.one_mul, Nat.add_comm]
theorem flat_get (hK : ∀ a, (enc a).length = K) : ∀ (xs : List α) (i j : Nat), i < xs.length → j < K → (xs.flatMap enc)[i * K + j]? = (enc (xs.getD i d))[j]?
  | [], i, j, h, _ => absurd h (by simp)
  | a :: xs, 0, j, _, hj => by
    rw [List.flatMap_cons, Nat.zero_mul, Nat.zero_add, List.getElem?_append_left (by rw [hK]; exact hj)]
    rfl
  | a :: xs, i + 1, j, h, hj => by
    rw [List.flatMap_cons, List.getElem?_append_right (by rw [hK, Nat.add_mul]; omega), hK, show (i + 1) * K + j - K = i * K + j by rw [Nat.add_mul]; omega, flat_get hK xs i j (by simpa using h) hj]
    rfl
theorem flat_set (hK : ∀ a, (enc a).length = K) : ∀ (xs : List α) (i j : Nat) (u : Value) (a' : α), i < xs.length → j < K → enc a' = (enc (xs.getD i d)).set j u → (xs.flatMap enc).set (i * K + j) u = (xs.set i a').flatMap enc
  | [], i, j, u, a', h, _, _ => absurd h (by simp)
  | a :: xs, 0, j, u, a', _, hj, he => by
    rw [List.flatMap_cons, Nat.zero_mul, Nat.zero_add, List.set_append_left _ _ (by rw [hK]; exact hj), List.set_cons_zero, List.flatMap_cons, he]
    rfl
  | a :: xs, i + 1, j, u, a', h, hj, he => by
    rw [List.flatMap_cons, List.set_append_right _ _ (by rw [hK, Nat.add_mul]; omega), hK, show (i + 1) * K + j - K = i * K + j by rw [Nat.add_mul]; omega, flat_set hK xs i j u a' (by simpa using h) hj (by rw [he]; rfl), List.set_cons_succ, List.flatMap_cons]
theorem flat_take (hK : ∀ a, (enc a).length = K) (xs : List α) (k : Nat) : (xs.take k).flatMap enc = (xs.flatMap enc).take (k * K) := by
  rcases Nat.lt_or_ge xs.length k with h | h
  · have h1 : xs.take k = xs := List.take_of_length_le (by omega)
    rw [h1]
    exact (List.take_of_length_le (by rw [flat_len hK]; exact Nat.mul_le_mul_right _ (by omega))).symm
  · have h2 : xs.flatMap enc = (xs.take k).flatMap enc ++ (xs.drop k).flatMap enc := by rw [← List.flatMap_append, List.take_append_drop]
    rw [h2, List.take_left' (by rw [flat_len hK, List.length_take, Nat.min_eq_left h])]
end

/-- v is a slice of the call's own (from block 'base' on) that holds the records xs. -/
def OwnR {α : Type} (enc : α → List Value) (K : Nat) (w : World) (base e : Nat) (v : Value) (xs : List α) : Prop := w.ownsRow base e K v xs.length (xs.flatMap enc)
section
variable {α : Type} {enc : α → List Value} {K : Nat} {d : α} {w w' : World} {base e : Nat} {v : Value} {xs : List α}
theorem OwnR.nil (w : World) (base e : Nat) : OwnR enc K w base e (.slice none 0 0) [] := ⟨by simp, .inl ⟨rfl, rfl⟩⟩
theorem OwnR.empty (w : World) (base e : Nat) (hb : base ≤ w.heap.size) : OwnR enc K (w.alloc (.cells #[] e)) base e (.slice (some ⟨w.heap.size, 0, none⟩) 0 0) [] :=
  ⟨by simp, .inr ⟨w.heap.size, 0, #[], rfl, hb, (heap_alloc w _).1, Nat.le_refl _, Nat.zero_le _, by simp, by simp⟩⟩
theorem OwnR.slice (h : OwnR enc K w base e v xs) : ∃ A c, v = .slice A xs.length c ∧ xs.length ≤ c ∧ c ≤ maxLen ∧ (∀ b off, A = some ⟨b, off, none⟩ → base ≤ b) ∧ (A = none → xs.length = 0 ∧ c = 0) := by
  rcases h.2 with ⟨rfl, h0⟩ | ⟨g, cap, cur, rfl, hg, _, h1, h2, _⟩
  · exact ⟨none, 0, by rw [h0], by omega, by unfold maxLen; omega, fun b off e => (by cases e), fun _ => ⟨h0, rfl⟩⟩
  · exact ⟨_, cap, rfl, h1, h2, fun b off e => (by cases e; exact hg), fun e => by cases e⟩
theorem OwnR.recs (hK : ∀ a, (enc a).length = K) (h : OwnR enc K w base e v xs) {A : Option Addr} {n c : Nat} (hv : v = .slice A n c) : Recs enc K d w A n xs := by
  rcases h.2 with ⟨rfl, h0⟩ | ⟨g, cap, cur, rfl, hg, hh, h1, h2, h3, h4⟩
  · cases hv
    exact ⟨h0, fun h => absurd h (by omega)⟩
  · cases hv
    refine ⟨rfl, fun _ => ⟨g, 0, rfl, (Array.getElem?_eq_some_iff.1 hh).1, fun i hi j u hu => ?_⟩⟩
    have hj : j < K := by rw [← hK (xs.getD i d)]; exact (List.getElem?_eq_some_iff.1 hu).1
    have hlt : i * K + j < xs.length * K := by
      have : (i + 1) * K ≤ xs.length * K := Nat.mul_le_mul_right _ hi
      rw [Nat.add_mul] at this; omega
    rw [Nat.zero_add, World.ownsRow.cellAt h _ hlt, flat_get (d := d) hK xs i j hi hj, hu]
theorem OwnR.chg {S : Nat → Prop} (h : OwnR enc K w base e v xs) (hc : Chg S w w') (hS : ∀ g, v.ownBlock = some g → ¬ S g) : OwnR enc K w' base e v xs := by
  refine ⟨h.1, ?_⟩
  rcases h.2 with ⟨rfl, h0⟩ | ⟨g, cap, cur, rfl, hg, hh, rest⟩
  · exact .inl ⟨rfl, h0⟩
  · exact .inr ⟨g, cap, cur, rfl, hg, (hc.block g (Array.getElem?_eq_some_iff.1 hh).1 (hS g rfl)).trans hh, rest⟩
theorem OwnR.new (h : OwnR enc K w base e v xs) (hc : Chg (fun _ => False) w w') : OwnR enc K w' base e v xs := h.chg hc (fun _ _ h => h)
theorem OwnR.alloc (h : OwnR enc K w base e v xs) (o : Obj) : OwnR enc K (w.alloc o) base e v xs := h.new ((Chg.refl _ w).alloc o)
theorem OwnR.drew (h : OwnR enc K w base e v xs) : OwnR enc K w.drew base e v xs := h
theorem OwnR.low (h : OwnR enc K w base e v xs) {b' : Nat} (hb : b' ≤ base) : OwnR enc K w b' e v xs := by
  refine ⟨h.1, ?_⟩
  rcases h.2 with h0 | ⟨g, cap, cur, h1, hg, rest⟩
  · exact .inl h0
  · exact .inr ⟨g, cap, cur, h1, by omega, rest⟩
theorem OwnR.base_le (h : OwnR enc K w base e v xs) {g : Nat} (hg : v.ownBlock = some g) : base ≤ g := by
  rcases h.2 with ⟨rfl, _⟩ | ⟨g', cap, cur, rfl, hb, _⟩
  · cases hg
  · cases hg; exact hb
theorem OwnR.lt (h : OwnR enc K w base e v xs) {g : Nat} (hg : v.ownBlock = some g) : g < w.heap.size := by
  rcases h.2 with ⟨rfl, _⟩ | ⟨g', cap, cur, rfl, _, hh, _⟩
  · cases hg
  · cases hg; exact (Array.getElem?_eq_some_iff.1 hh).1
/-- One cell of one record is stored. -/
theorem OwnR.set_ (hK : ∀ a, (enc a).length = K) {g n c : Nat} (h : OwnR enc K w base e (.slice (some ⟨g, 0, none⟩) n c) xs) (hn : n = xs.length) {i j : Nat} (hi : i < xs.length) (hj : j < K) (u : Value) (a' : α) (he : enc a' = (enc (xs.getD i d)).set j u) :
    OwnR enc K (w.setCell ⟨g, i * K + j, none⟩ u) base e (.slice (some ⟨g, 0, none⟩) n c) (xs.set i a') := by
  subst hn
  have := (World.ownsRow.stored h (i * K + j) u).1
  rw [flat_set (d := d) hK xs i j u a' hi hj he] at this
  unfold OwnR
  rw [List.length_set]
  exact this
theorem flat_seg (hK : ∀ a, (enc a).length = K) : ∀ (xs : List α) (i : Nat) (a' : α), i < xs.length → (xs.set i a').flatMap enc = (xs.flatMap enc).take (i * K) ++ enc a' ++ (xs.flatMap enc).drop (i * K + K)
  | [], i, a', h => absurd h (by simp)
  | a :: xs, 0, a', _ => by
    rw [List.set_cons_zero, List.flatMap_cons, List.flatMap_cons, Nat.zero_mul, Nat.zero_add, List.take_zero, List.nil_append, List.drop_append, hK, Nat.sub_self, List.drop_of_length_le (by rw [hK]; exact Nat.le_refl _)]
    rfl
  | a :: xs, i + 1, a', h => by
    have e0 : (enc a).length = K := hK a
    have e1 : (enc a ++ xs.flatMap enc).take ((i + 1) * K) = enc a ++ (xs.flatMap enc).take (i * K) := by
      rw [List.take_append, List.take_of_length_le (l := enc a) (by rw [e0, Nat.add_mul]; omega), e0, show (i + 1) * K - K = i * K by rw [Nat.add_mul]; omega]
    have e2 : (enc a ++ xs.flatMap enc).drop ((i + 1) * K + K) = (xs.flatMap enc).drop (i * K + K) := by
      rw [List.drop_append, List.drop_of_length_le (l := enc a) (by rw [e0, Nat.add_mul]; omega), e0, List.nil_append, show (i + 1) * K + K - K = i * K + K by rw [Nat.add_mul]; omega]
    rw [List.set_cons_succ, List.flatMap_cons, List.flatMap_cons, flat_seg hK xs i a' (by simpa using h), e1, e2]
    simp [List.append_assoc]
/-- One record is stored whole. -/
theorem OwnR.storeAll {P : Program} (hK : ∀ a, (enc a).length = K) (h1 : ∀ a, ∀ u ∈ enc a, u.oneCell' = true) (hie : (P.info? e).map (·.size) = some K) {g n c : Nat} (h : OwnR enc K w base e (.slice (some ⟨g, 0, none⟩) n c) xs) (hn : n = xs.length) {i : Nat} (hi : i < xs.length) (a' : α) :
    ∃ w', (storeVar e ⟨g, i * K, none⟩ (.agg (enc a').toArray)).run P w = .ok () w' ∧ OwnR enc K w' base e (.slice (some ⟨g, 0, none⟩) n c) (xs.set i a') ∧ Chg (fun i => i = g) w w' := by
  subst hn
  obtain ⟨ie, hie, hsz⟩ := Option.map_eq_some_iff.1 hie
  rcases h.2 with ⟨h', _⟩ | ⟨g', cap, cur, h', hb, hg, hnc, hcm, hcs, htake⟩
  · cases h'
  · simp only [Value.slice.injEq, Option.some.injEq, Addr.mk.injEq, and_true, true_and] at h'
    obtain ⟨rfl, rfl⟩ := h'
    have hle : (i + 1) * K ≤ xs.length * K := Nat.mul_le_mul_right _ hi
    have hle2 : xs.length * K ≤ c * K := Nat.mul_le_mul_right _ hnc
    rw [Nat.add_mul, Nat.one_mul] at hle
    have hr := run_storeCells_at P g (i * K) e (enc a') 0 cur w hg (by rw [hK, hcs]; omega) (h1 a')
    obtain ⟨cur', hcur'⟩ : ∃ cur', (cur.toList.take (i * K + 0) ++ enc a' ++ cur.toList.drop (i * K + 0 + (enc a').length)).toArray = cur' := ⟨_, rfl⟩
    rw [hcur'] at hr
    refine ⟨w.setRow g cur', ?_, ⟨by rw [flat_len hK, List.length_set], .inr ⟨g, c, cur', by rw [List.length_set], hb, setRow_heap w g cur cur' _ _ hg, by rw [List.length_set]; exact hnc, hcm, ?_, ?_⟩⟩, ⟨rfl, rfl, rfl, by simp, fun j _ hne => setRow_other w g j _ hne⟩⟩
    · simp [storeVar, Value.cells, sizeOf, typeInfo, hie, hsz, hK, hr, Result.andThen]
    · rw [← hcur']; simp [hK]; omega
    · rw [flat_seg hK xs i a' hi, ← htake, List.length_set, ← hcur']
      have hcl : cur.toList.length = c * K := by simpa using hcs
      simp only [Nat.add_zero]
      rw [hK, List.take_take, Nat.min_eq_left (by omega), List.drop_take, List.append_assoc, List.append_assoc]
      rw [List.take_append, List.take_of_length_le (by rw [List.length_take]; omega), List.length_take, Nat.min_eq_left (by omega)]
      congr 1
      rw [List.take_append, List.take_of_length_le (by rw [hK]; omega), hK]
      congr 1
      congr 1
      omega
theorem OwnR.free {g n c : Nat} (h : OwnR enc K w base e (.slice (some ⟨g, 0, none⟩) n c) xs) (hn : n = xs.length) (j : Nat) : w.frozen? ⟨g, j, none⟩ = false := by
  subst hn
  exact World.ownsRow.frozenAt h j
end

section
variable {α : Type} {enc : α → List Value} {K : Nat} {d : α} {w w' : World} {A : Option Addr} {n : Nat} {xs : List α}
theorem Recs.cells_at (hK : ∀ a, (enc a).length = K) (h : Recs enc K d w A n xs) {ad : Addr} (hA : A = some ad) : ∀ (j : Nat) (u : Value), (xs.flatMap enc)[j]? = some u → w.cell? (ad.add j) = some u := by
  intro j u hu
  have hjl : j < xs.length * K := by rw [← flat_len hK]; exact (List.getElem?_eq_some_iff.1 hu).1
  have hK0 : 0 < K := by rcases Nat.eq_zero_or_pos K with h0 | h0; subst h0; simp at hjl; exact h0
  have hi : j / K < xs.length := (Nat.div_lt_iff_lt_mul hK0).2 hjl
  have hj : j % K < K := Nat.mod_lt _ hK0
  have hd : j / K * K + j % K = j := by rw [Nat.mul_comm]; exact Nat.div_add_mod j K
  obtain ⟨b, off, e, hb, hc⟩ := h.at_ (by rw [← h.len]; exact Nat.lt_of_le_of_lt (Nat.zero_le _) hi)
  rw [hA] at e
  cases e
  have h1 := flat_get (d := d) hK xs (j / K) (j % K) hi hj
  rw [hd, hu] at h1
  have h2 := hc (j / K) (by rw [← h.len]; exact hi) (j % K) u h1.symm
  rw [hd] at h2
  rw [Go.WideShapes.add_plain]
  exact h2
theorem Recs.take (h : Recs enc K d w A n xs) {k : Nat} (hk : k ≤ n) : Recs enc K d w A k (xs.take k) :=
  ⟨by rw [List.length_take, h.len]; omega, fun hp => by
    obtain ⟨b, off, e, hb, hc⟩ := h.at_ (by omega)
    refine ⟨b, off, e, hb, fun i hi j v hv => hc i (by omega) j v ?_⟩
    have : (xs.take k).getD i d = xs.getD i d := by simp [List.getD, hi]
    rw [this] at hv
    exact hv⟩
/-- Where 's[k:]' lies, of elements of K cells. -/
def cutK (A : Option Addr) (c k K : Nat) : Option Addr := if c = k then A else A.map (·.add (k * K))
theorem Recs.drop (h : Recs enc K d w A n xs) {k c : Nat} (hk : k ≤ n) (hc : n ≤ c) : Recs enc K d w (cutK A c k K) (n - k) (xs.drop k) :=
  ⟨by rw [List.length_drop, h.len], fun hp => by
    obtain ⟨b, off, rfl, hb, hcell⟩ := h.at_ (by omega)
    refine ⟨b, off + k * K, by unfold cutK; rw [if_neg (by omega)]; simp [Addr.add], hb, fun i hi j v hv => ?_⟩
    have e1 : (xs.drop k).getD i d = xs.getD (k + i) d := by simp [List.getD, List.getElem?_drop]
    rw [e1] at hv
    have := hcell (k + i) (by omega) j v hv
    rw [← this]
    congr 2
    rw [Nat.add_mul]
    omega⟩
theorem run_cutK_from {P : Program} {t e : TypeId} (ht : P.underlying t = some (.slice e)) (he : ∀ w, (sizeOf e).run P w = .ok K w) (w : World) (A : Option Addr) (n c k : Nat) (hk : k ≤ n) :
    (Instr.slice t (.slice A n c) (some (.int .i64 (k : Int))) none none).run P w = .ok (.slice (cutK A c k K) (n - k) (c - k)) w := by
  simp [Instr.slice, run_underlying ht, Instr.sliceBounds, run_sliceBound, he, cutK, Result.andThen, hk]
theorem run_cutK_to {P : Program} {t e : TypeId} (ht : P.underlying t = some (.slice e)) (he : ∀ w, (sizeOf e).run P w = .ok K w) (w : World) (A : Option Addr) (n c k : Nat) (hk : k ≤ c) :
    (Instr.slice t (.slice A n c) none (some (.int .i64 (k : Int))) none).run P w = .ok (.slice A k c) w := by
  simp [Instr.slice, run_underlying ht, Instr.sliceBounds, run_sliceBound, he, Result.andThen, hk, Addr.add]
theorem run_cutK_to3 {P : Program} {t e : TypeId} (ht : P.underlying t = some (.slice e)) (he : ∀ w, (sizeOf e).run P w = .ok K w) (w : World) (A : Option Addr) (n c k : Nat) (hk : k ≤ c) :
    (Instr.slice t (.slice A n c) none (some (.int .i64 (k : Int))) (some (.int .i64 (k : Int)))).run P w = .ok (.slice A k k) w := by
  simp [Instr.slice, run_underlying ht, Instr.sliceBounds, run_sliceBound, he, Result.andThen, hk, Addr.add]
end

section
variable {α : Type} {enc : α → List Value} {K : Nat} {d : α} {P : Program} {w : World} {base e : Nat} {v : Value} {xs ys : List α}
theorem run_append_nilK (t ty : TypeId) (i : TypeInfo) (ht : P.underlying t = some (.slice e)) (hi : P.info? e = some i) (hown : OwnR enc K w base e v xs) (c : Nat) : (Builtin.append_ #[t, t] ty #[v, .slice none 0 c]).run P w = .ok v w := by
  rcases hown.2 with ⟨rfl, h0⟩ | ⟨g, cap, cur, rfl, _, _, hnc, _⟩
  · simp [Builtin.append_, run_underlying ht, sizeOf, typeInfo, hi, Builtin.lenOf, Builtin.firstCells]
  · simp [Builtin.append_, run_underlying ht, sizeOf, typeInfo, hi, Builtin.lenOf, Builtin.firstCells, hnc, storeCells]
/-- What a type's row says of its records. -/
structure RecT (P : Program) (t e : TypeId) (K bytes : Nat) : Prop where
  ht : P.underlying t = some (.slice e)
  info : ∃ i z, P.info? e = some i ∧ i.zero = some z ∧ i.size = K ∧ i.bytes = bytes ∧ z.cells.size = K
  pos : 0 < K
theorem RecT.of {t e : TypeId} {K bytes : Nat} (ht : P.underlying t = some (.slice e)) (h : (P.info? e).map (fun i => (i.size, i.bytes, (i.zero.map (fun z => z.cells.size)))) = some (K, bytes, some K)) (hp : 0 < K) : RecT P t e K bytes := by
  refine ⟨ht, ?_, hp⟩
  cases he : P.info? e with
  | none => rw [he] at h; cases h
  | some i =>
    rw [he] at h
    simp only [Option.map_some, Option.some.injEq, Prod.mk.injEq] at h
    obtain ⟨h1, h2, h3⟩ := h
    cases hz : i.zero with
    | none => rw [hz] at h3; cases h3
    | some z =>
      rw [hz] at h3
      simp only [Option.map_some, Option.some.injEq] at h3
      exact ⟨i, z, rfl, hz, h1, h2, h3⟩
theorem run_append_recs {bytes : Nat} (t ty : TypeId) (T : RecT P t e K bytes) (hK : ∀ a, (enc a).length = K) (h1 : ∀ a, ∀ u ∈ enc a, u.oneCell' = true)
    (hown : OwnR enc K w base e v xs) {A : Option Addr} {m c : Nat} (hr : Recs enc K d w A m ys) (hb : xs.length + m ≤ 1000000000) (hby : bytes ≤ 1000) (hbase : base ≤ w.heap.size) :
    ∃ v' w', (Builtin.append_ #[t, t] ty #[v, .slice A m c]).run P w = .ok v' w' ∧ OwnR enc K w' base e v' (xs ++ ys) ∧ w.grownBy w' v.ownBlock ∧ (v'.ownBlock = v.ownBlock ∨ v'.ownBlock = some w.heap.size) := by
  obtain ⟨i, z, hi, hz, hsize, hbytes, hzs⟩ := T.info
  rcases A with _ | ad
  · have hm : m = 0 := by
      rcases Nat.eq_zero_or_pos m with h0 | h0
      · exact h0
      · obtain ⟨b, off, e, _⟩ := hr.at_ h0
        cases e
    subst hm
    have hn : ys = [] := List.eq_nil_of_length_eq_zero hr.len
    subst hn
    exact ⟨v, w, run_append_nilK t ty i T.ht hi hown c, by simpa using hown, World.grownBy.refl w _, .inl rfl⟩
  · have hlen := hr.len
    have hmul : (xs.length + m) * bytes ≤ 1000000000 * 1000 := Nat.mul_le_mul hb hby
    obtain ⟨v', w', hrun, h2, h3, _, h5⟩ := run_append_own_at (P := P) w base t ty e i z K bytes T.ht hi hz hsize hbytes hzs T.pos v xs.length (xs.flatMap enc) hown ad m c (ys.flatMap enc) (by rw [flat_len hK, hlen]) (hr.cells_at hK rfl)
      (fun u hu => by obtain ⟨a, _, ha⟩ := List.mem_flatMap.1 hu; exact h1 a u ha) (by unfold maxLen; omega) (by omega) hbase
    refine ⟨v', w', hrun, ?_, h3, h5⟩
    unfold OwnR
    rw [List.flatMap_append, List.length_append, hlen]
    exact h2
/-- .. onto a slice that is full. -/
theorem run_append_full {bytes : Nat} (t ty : TypeId) (T : RecT P t e K bytes) (hK : ∀ a, (enc a).length = K) {B A : Option Addr} {n m c : Nat} (hs : Recs enc K d w B n xs) (hB : ∃ b, B = some b) (hr : Recs enc K d w A m ys) (hm : 0 < m) (hb : n + m ≤ 1000000000) (hby : bytes ≤ 1000) :
    ∃ v' w', (Builtin.append_ #[t, t] ty #[.slice B n n, .slice A m c]).run P w = .ok v' w' ∧ OwnR enc K w' w.heap.size e v' (xs ++ ys) ∧ w.grownBy w' none := by
  obtain ⟨i, z, hi, hz, hsize, hbytes, hzs⟩ := T.info
  obtain ⟨ba, rfl⟩ := hB
  obtain ⟨b, off, rfl, _⟩ := hr.at_ hm
  have hmul : (n + m) * bytes ≤ 1000000000 * 1000 := Nat.mul_le_mul hb hby
  obtain ⟨v', w', hrun, h2, h3⟩ := run_append_arg_grows (P := P) w t ty e i z K bytes T.ht hi hz hsize hbytes hzs T.pos ba n n (xs.flatMap enc) (by rw [flat_len hK, hs.len]) (hs.cells_at hK rfl) ⟨b, off, none⟩ m c (ys.flatMap enc) (by rw [flat_len hK, hr.len]) (hr.cells_at hK rfl) (by omega) (by unfold maxLen; omega) (by omega)
  refine ⟨v', w', hrun, ?_, h3⟩
  unfold OwnR
  rw [List.flatMap_append, List.length_append, hs.len, hr.len]
  exact h2
variable {ops : Array Oper} {rest : List Oper} {o : Oper} {a : Act} {Q : Exit → Act → World → Prop}
theorem wpList_append_recs {bytes : Nat} (w : World) (hgd : o.guard = none) (s x : Operand) (t : TypeId) (ho : o.op = .call { callee := .builtin .append, args := #[s, x], argTypes := #[t, t] }) (T : RecT P t e K bytes) (hK : ∀ a, (enc a).length = K) (h1 : ∀ a, ∀ u ∈ enc a, u.oneCell' = true)
    (hs : a.eval s = v) (hown : OwnR enc K w base e v xs) {A : Option Addr} {m c : Nat} (hx : a.eval x = .slice A m c) (hr : Recs enc K d w A m ys) (hb : xs.length + m ≤ 1000000000) (hby : bytes ≤ 1000) (hbase : base ≤ w.heap.size)
    (h : ∀ v' w', OwnR enc K w' base e v' (xs ++ ys) → w.grownBy w' v.ownBlock → (v'.ownBlock = v.ownBlock ∨ v'.ownBlock = some w.heap.size) → wpList P ops Q rest (a.put o.dst v') w') : wpList P ops Q (o :: rest) a w := by
  refine wpList_plain hgd fun K' hK' => ?_
  obtain ⟨v', w', hrun, h2, h3, h4⟩ := run_append_recs (w := w) t o.type T hK h1 hown (c := c) hr hb hby hbase
  unfold Oper.wp execOp
  simp only [ho, resolve, invoke, builtin, Sem.run_bind, Sem.run_pure, Result.andThen_ok, List.map_toArray, List.map_cons, List.map_nil, hs, hx, hrun]
  exact hK' _ _ (h v' w' h2 h3 h4)
theorem step_append_recs {bytes : Nat} {w : World} {Kc : Act → World → Prop} {E : Prop} (hgd : o.guard = none) (s x : Operand) (t : TypeId) (ho : o.op = .call { callee := .builtin .append, args := #[s, x], argTypes := #[t, t] }) (T : RecT P t e K bytes) (hK : ∀ a, (enc a).length = K) (h1 : ∀ a, ∀ u ∈ enc a, u.oneCell' = true)
    (hs : a.eval s = v) (hown : OwnR enc K w base e v xs) {A : Option Addr} {m c : Nat} (hx : a.eval x = .slice A m c) (hr : Recs enc K d w A m ys) (hb : xs.length + m ≤ 1000000000) (hby : bytes ≤ 1000) (hbase : base ≤ w.heap.size)
    (h : ∀ v' w', OwnR enc K w' base e v' (xs ++ ys) → w.grownBy w' v.ownBlock → (v'.ownBlock = v.ownBlock ∨ v'.ownBlock = some w.heap.size) → Kc (a.put o.dst v') w') :
    if Region.wanted o (yielded ops a.tmps) = true then Oper.wp P o a w Kc Q else E := by
  have hw : Region.wanted o (yielded ops a.tmps) = true := by simp [Region.wanted, hgd]
  rw [if_pos hw]
  obtain ⟨v', w', hrun, h2, h3, h4⟩ := run_append_recs (w := w) t o.type T hK h1 hown (c := c) hr hb hby hbase
  unfold Oper.wp execOp
  simp only [ho, resolve, invoke, builtin, Sem.run_bind, Sem.run_pure, Result.andThen_ok, List.map_toArray, List.map_cons, List.map_nil, hs, hx, hrun]
  exact h v' w' h2 h3 h4
theorem step_append_full {bytes : Nat} {w : World} {Kc : Act → World → Prop} {E : Prop} (hgd : o.guard = none) (s x : Operand) (t : TypeId) (ho : o.op = .call { callee := .builtin .append, args := #[s, x], argTypes := #[t, t] }) (T : RecT P t e K bytes) (hK : ∀ a, (enc a).length = K)
    {B A : Option Addr} {n m c : Nat} (hs : a.eval s = .slice B n n) (hB : ∃ b, B = some b) (hs' : Recs enc K d w B n xs) (hx : a.eval x = .slice A m c) (hr : Recs enc K d w A m ys) (hm : 0 < m) (hb : n + m ≤ 1000000000) (hby : bytes ≤ 1000)
    (h : ∀ v' w', OwnR enc K w' w.heap.size e v' (xs ++ ys) → w.grownBy w' none → Kc (a.put o.dst v') w') :
    if Region.wanted o (yielded ops a.tmps) = true then Oper.wp P o a w Kc Q else E := by
  have hw : Region.wanted o (yielded ops a.tmps) = true := by simp [Region.wanted, hgd]
  rw [if_pos hw]
  obtain ⟨v', w', hrun, h2, h3⟩ := run_append_full (w := w) t o.type T hK hs' hB (c := c) hr hm hb hby
  unfold Oper.wp execOp
  simp only [ho, resolve, invoke, builtin, Sem.run_bind, Sem.run_pure, Result.andThen_ok, List.map_toArray, List.map_cons, List.map_nil, hs, hx, hrun]
  exact h v' w' h2 h3
end
end
section
open Go Go.RowKit Go.ChangeShapes Go.WideShapes Go.Deep
/-- A claim: id, epoch, set. -/
abbrev CR := Int × Int × Nat
def encC (c : CR) : List Value := [.int .i64 c.1, .int .i64 c.2.1, .int .u64 (c.2.2 : Int)]
def d0C : CR := (0, 0, 0)
def okCR (c : CR) : Prop := okI c.1 ∧ okI c.2.1 ∧ c.2.2 < 2 ^ 64
theorem encC_len (c : CR) : (encC c).length = 3 := rfl
theorem encC_one (c : CR) : ∀ u ∈ encC c, u.oneCell' = true := by
  intro u hu
  simp [encC] at hu
  rcases hu with rfl | rfl | rfl <;> rfl
theorem infoC : (Tryd.prog.info? 28).map (·.size) = some 3 := by kernel_rfl
theorem aggC (w : World) : (isAgg 28).run Tryd.prog w = .ok true w := by kernel_rfl
theorem zeroC (w : World) : (zeroValue 28).run Tryd.prog w = .ok (.agg #[.int .i64 0, .int .i64 0, .int .u64 0]) w := by kernel_rfl
theorem recC : RecT Tryd.prog 40 28 3 24 := RecT.of Tryd.underlying40 (by kernel_rfl) (by decide)
theorem cellsC : Tryd.prog.cellsOf 28 = 3 := by kernel_rfl
theorem sizeC (w : World) : (sizeOf 28).run Tryd.prog w = .ok 3 w := by kernel_rfl
/-- A slice of claims that came in. -/
def ClaimsIn (w : World) (A : Option Addr) (n c : Nat) (l : List CR) : Prop := Recs encC 3 d0C w A n l ∧ (∀ x ∈ l, okCR x) ∧ n ≤ c ∧ c ≤ maxLen
theorem u64_nat' {n : Int} (h : (Lit.int .u64 n).wf = true) : ∃ m : Nat, n = (m : Int) ∧ m < 2 ^ 64 := by
  simp [Lit.wf, IntKind.min, IntKind.max, IntKind.signed, IntKind.bits] at h
  exact ⟨n.toNat, by omega, by omega⟩
variable {H : Type} {encH : TypeId × Value → H} {W : World}
theorem claims_of_trod {a : Option Addr} {len cap : Nat} {d : DataW H} {p : List MemPlace} (h : DataW.Trod encH Tryd.prog W 0 (fun _ => true) true 40 (.slice a len cap) d p) : ∃ l, ClaimsIn W a len cap l :=
  recs_of_trod Tryd.underlying40 cellsC (by decide) okCR (fun n cs' y hy => by
    obtain ⟨y0, y1, y2, n', _, hl, h0, h1, h2⟩ := trod_struct3 Tryd.underlying28 hy
    obtain ⟨z0, e0, _, w0⟩ := DataW.trod_int Tryd.underlying3 h0
    obtain ⟨z1, e1, _, w1⟩ := DataW.trod_int Tryd.underlying3 h1
    obtain ⟨z2, e2, _, w2⟩ := DataW.trod_int Tryd.underlying26 h2
    rw [cellsC] at hl
    have ci : Tryd.prog.cellsOf 3 = 1 := by kernel_rfl
    have cu : Tryd.prog.cellsOf 26 = 1 := by kernel_rfl
    match cs', hl with
    | [a, b, c], _ =>
      simp [ci] at e0 e1
      simp [cu] at e2
      subst e0 e1 e2
      obtain ⟨m, rfl, hm⟩ := u64_nat' w2
      exact ⟨(z0, z1, m), rfl, w0, w1, hm⟩) h
end
end Go.Proofs.YtgmekeeemimnpaaDoor.R
