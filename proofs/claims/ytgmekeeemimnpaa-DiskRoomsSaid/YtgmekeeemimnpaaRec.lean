/- Records: whole loads and stores of small structs; a range over a slice of records. -/
import Derived.Test.YtgmekeeemimnpaaApp
import Derived.Test.YtgmekeeemimnpaaSl
import Derived.Laws.Cells
import Derived.Laws.CopyRow
namespace Go.Proofs.Ytgmekeeemimnpaa
open Go Go.Maps Go.MapKept Go.RowKit

section
variable {P : Program} {w : World}
theorem load_cells {a : Addr} (t : TypeId) {k : Nat} (hie : (P.info? t).map (·.size) = some k) (hagg : ∀ w, (isAgg t).run P w = .ok true w) (cs : Array Value) (hs : cs.size = k)
    (hc : ∀ j v, cs[j]? = some v → w.cell? (a.add j) = some v) : (loadVar t a).run P w = .ok (.agg cs) w := by
  obtain ⟨ie, hie, hsz⟩ := Option.map_eq_some_iff.1 hie
  have h1 := run_loadCells_list (P := P) w a cs.toList (fun j v hj => hc j v (by simpa using hj))
  have h2 : cs.toList.length = ie.size := by rw [hsz]; simpa using hs
  rw [h2] at h1
  simp [loadVar, hagg, sizeOf, typeInfo, hie, h1, Result.andThen]
theorem Blk.loadAll {g : Nat} {t : TypeId} {k : Nat} {cs : Array Value} (h : Blk w g t cs) (hie : (P.info? t).map (·.size) = some k) (hagg : ∀ w, (isAgg t).run P w = .ok true w) (hs : cs.size = k) : (loadVar t ⟨g, 0, none⟩).run P w = .ok (.agg cs) w :=
  load_cells t hie hagg cs hs (fun j v hj => by
    rw [Addr.add_lit, Nat.zero_add]
    exact (h.cell j).trans hj)
/-- An element of a slice of records. -/
theorem Recs.load {α : Type} {enc : α → List Value} {K : Nat} {d : α} {b off n : Nat} {xs : List α} (h : Recs enc K d w (some ⟨b, off, none⟩) n xs) {i : Nat} (hi : i < n) (t : TypeId) (hie : (P.info? t).map (·.size) = some K) (hagg : ∀ w, (isAgg t).run P w = .ok true w) (hK : ∀ a, (enc a).length = K) :
    (loadVar t ⟨b, off + i * K, none⟩).run P w = .ok (.agg (enc (xs.getD i d)).toArray) w := by
  obtain ⟨b', off', e, _, hc⟩ := h.at_ (by omega)
  cases e
  exact load_cells t hie hagg _ (by simpa using hK _) (fun j v hj => by
    have := hc i hi j v (by simpa using hj)
    rw [← this, Go.WideShapes.add_plain]
    congr 2
    omega)
/-- A struct that is stored whole into its block. -/
theorem Blk.storeAll {g : Nat} {t : TypeId} {k : Nat} {cs cs' : Array Value} (h : Blk w g t cs) (hie : (P.info? t).map (·.size) = some k) (hs : cs.size = k) (hs' : cs'.size = k) (h1 : ∀ v ∈ cs'.toList, v.oneCell' = true) :
    ∃ w', (storeVar t ⟨g, 0, none⟩ (.agg cs')).run P w = .ok () w' ∧ Blk w' g t cs' ∧ Chg (fun i => i = g) w w' ∧ w'.heap.size = w.heap.size := by
  obtain ⟨ie, hie, hsz⟩ := Option.map_eq_some_iff.1 hie
  have hr := run_storeCells_at P g 0 t cs'.toList 0 cs w h (by simp; omega) h1
  have e : (List.take (0 + 0) cs.toList ++ cs'.toList ++ List.drop (0 + 0 + cs'.toList.length) cs.toList).toArray = cs' := by
    rw [List.drop_eq_nil_of_le (by simp; omega)]
    simp
  rw [e] at hr
  refine ⟨w.setRow g cs', ?_, setRow_heap w g cs cs' _ _ h, ⟨rfl, rfl, rfl, by simp, fun i _ hne => setRow_other w g i _ hne⟩, by simp⟩
  simp [storeVar, Value.cells, sizeOf, typeInfo, hie, hsz, hs', hr, Result.andThen]
/-- .. into a block that was just laid. -/
theorem keep_rec (w1 : World) {t : TypeId} {k : Nat} {cs cs' : Array Value} (hie : (P.info? t).map (·.size) = some k) (hs : cs.size = k) (hs' : cs'.size = k) (h1 : ∀ v ∈ cs'.toList, v.oneCell' = true) :
    ∃ w2, (storeVar t ⟨w1.heap.size, 0, none⟩ (.agg cs')).run P (w1.alloc (.cells cs t)) = .ok () w2 ∧ Blk w2 w1.heap.size t cs' ∧ Chg (fun _ => False) w1 w2 ∧ w2.heap.size = w1.heap.size + 1 := by
  obtain ⟨w2, s2, t2, c2, z2⟩ := (Blk.new w1 t cs).storeAll (P := P) hie hs hs' h1
  exact ⟨w2, s2, t2, ((Chg.refl (fun _ => False) w1).alloc (.cells cs t)).trans' c2 (fun i hi => .inr (by subst hi; exact Nat.le_refl _)), by rw [z2]; simp⟩
variable (w)
variable {ops : Array Oper} {rest : List Oper} {o : Oper} {a : Act} {Q : Exit → Act → World → Prop}
theorem wpList_loadv (hg : o.guard = none) (t : TypeId) (x : Operand) (hop : o.op = Op.load t x) {b : Addr} {v : Value} (hx : a.eval x = .pointer (some b)) (hl : (loadVar t b).run P w = .ok v w)
    (hK : wpList P ops Q rest (a.put o.dst v) w) : wpList P ops Q (o :: rest) a w := by
  refine wpList_plain hg fun K' hK' => ?_
  unfold Oper.wp
  simp [execOp, hop, hx, Instr.loadAt, Instr.sureAddr, hl, Result.andThen]
  exact hK' _ _ hK
theorem wpList_storev (hg : o.guard = none) (t : TypeId) (x y : Operand) (hop : o.op = Op.store t x y) {b : Addr} {v : Value} {w' : World} (hx : a.eval x = .pointer (some b)) (hy : a.eval y = v) (hl : (storeVar t b v).run P w = .ok () w')
    (hK : wpList P ops Q rest (a.put o.dst undef) w') : wpList P ops Q (o :: rest) a w := by
  refine wpList_plain hg fun K' hK' => ?_
  unfold Oper.wp
  simp [execOp, hop, hx, hy, Instr.storeAt, Instr.sureAddr, hl, Result.andThen]
  exact hK' _ _ hK
theorem wpList_allocv (hg : o.guard = none) (t : TypeId) (hop : o.op = Op.alloc t) {v : Value} (hz : (zeroValue t).run P w = .ok v w)
    (hK : wpList P ops Q rest (a.put o.dst (.pointer (some ⟨w.heap.size, 0, none⟩))) (w.alloc (.cells v.cells t))) : wpList P ops Q (o :: rest) a w := by
  refine wpList_plain hg fun K' hK' => ?_
  unfold Oper.wp
  simp [execOp, hop, Instr.alloc, hz, newVar, newRow, Result.andThen]
  exact hK' _ _ hK
end

section
variable {H : Type} {encH : TypeId × Value → H} {W : World}
/-- A struct whose fields are ints, read. -/
theorem ints_struct {t K : Nat} {fs : Array Field} {held : Bool} {sp : Nat → Bool} {n : Nat} {cs : List Value} {y : DataW H × List MemPlace} (ht : Try.prog.underlying t = some (.struct fs)) (hK : Try.prog.cellsOf t = K)
    (hfs : ∀ i, i < K → ∃ f, fs[i]? = some f ∧ f.offset = i ∧ f.type = 3) (h : DataW.trod encH Try.prog W 0 sp held n t cs = some y) : ∃ zs : List Int, zs.length = K ∧ cs = zs.map (Value.int .i64) ∧ ∀ z ∈ zs, okI z := by
  obtain ⟨xs, m, _, _, hl, hlen, hf⟩ := DataW.trod_struct ht h
  rw [hK] at hl
  have hi : ∀ i, i < K → ∃ z, cs[i]? = some (.int .i64 z) ∧ okI z := by
    intro i hi
    obtain ⟨f, hfi, ho, hty⟩ := hfs i hi
    have h1 := hf i f hfi
    have hil : i < xs.length := by rw [hlen]; exact (Array.getElem?_eq_some_iff.1 hfi).1
    rw [hty, ho, List.getElem?_eq_getElem hil] at h1
    obtain ⟨z, hz, _, wz⟩ := DataW.trod_int Try.underlying3 h1
    refine ⟨z, ?_, wz⟩
    have hc : Try.prog.cellsOf 3 = 1 := by kernel_rfl
    rw [hc] at hz
    have h2 := congrArg (·[0]?) hz
    simpa [List.getElem?_take, List.getElem?_drop] using h2
  obtain ⟨zs, hzl, hzs⟩ := list_of (fun i z => cs[i]? = some (.int .i64 z) ∧ okI z) 0 K hi
  refine ⟨zs, hzl, ?_, fun z hz => ?_⟩
  · apply List.ext_getElem?
    intro i
    by_cases h3 : i < K
    · rw [(hzs i h3).1]
      simp [List.getD, show i < zs.length by omega]
    · rw [List.getElem?_eq_none (by omega), List.getElem?_eq_none (by simp; omega)]
  · obtain ⟨i, hi', rfl⟩ := List.getElem_of_mem hz
    have := (hzs i (by omega)).2
    simpa [List.getD, hi'] using this
end
end Go.Proofs.Ytgmekeeemimnpaa
