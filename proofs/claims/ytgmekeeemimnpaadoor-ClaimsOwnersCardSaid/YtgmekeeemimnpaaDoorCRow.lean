/- What a row of the claims laws gives a walk: a table, a claim, a set; the library's table in its block. -/
import Derived.Test.YtgmekeeemimnpaaDoorC9
import Derived.Test.YtgmekeeemimnpaaDoorCards
import Derived.Test.YtgmekeeemimnpaaDoorTie
import Derived.WalkKit
import Derived.ProofKit
import Derived.OpenShut
import Derived.Below
import Derived.Lib.SmallJoins
import Derived.Deep.DeepHandedRow
import Derived.Lib.LaidTab
namespace Go.Proofs.YtgmekeeemimnpaaDoor
open Go.ChangeShapes Go.WideShapes Go.ChangeAt Go.RowKit

theorem rowOwn : ownKnob Tryd.prog.godebug = none := by kernel_rfl
theorem rowLaidOut : laidOutB Tryd.prog = true := by as_aux_lemma => kernel_rfl
theorem gTab : Tryd.prog.globalNamed "math/bits.deBruijn64tab" = some 0 := by kernel_rfl
theorem gTabType : (Tryd.prog.globals[0]?).map (·.type) = some 52 := by kernel_rfl
theorem cellsU8 : Tryd.prog.cellsOf 5 = 1 := by kernel_rfl
theorem cellsTab : Tryd.prog.cellsOf 52 = 64 := by kernel_rfl
theorem cellsInt : Tryd.prog.cellsOf 3 = 1 := by kernel_rfl
theorem cellsArr : Tryd.prog.cellsOf 22 = 64 := by kernel_rfl
theorem cellsT : Tryd.prog.cellsOf 24 = 128 := by kernel_rfl

def bruijnI : List Int := [0, 1, 56, 2, 57, 49, 28, 3, 61, 58, 42, 50, 38, 29, 17, 4, 62, 47, 59, 36, 45, 43, 51, 22, 53, 39, 33, 30, 24, 18, 12, 5, 63, 55, 48, 27, 60, 41, 37, 16, 46, 35, 44, 21, 52, 32, 23, 11, 54, 26, 40, 15, 34, 20, 31, 10, 25, 14, 19, 9, 13, 8, 7, 6]
theorem bruijnI_at : ∀ k, k < 64 → bruijnI[k]? = some ((bruijn.getD k 0 : Nat) : Int) := by
  have h : ∀ k : Fin 64, bruijnI[k.1]? = some ((bruijn.getD k.1 0 : Nat) : Int) := by decide +kernel
  exact fun k hk => h ⟨k, hk⟩
theorem tabW {W : World} (h : laidMetH Tryd.prog [("math/bits.deBruijn64tab", Rows.laid_math_bits_deBruijn64tab)] W) : TabW W := by
  have hT : Lib.TabIs Tryd.prog W "math/bits.deBruijn64tab" .u8 bruijnI := Lib.tabIs_of_head (rest := []) gTab gTabType Tryd.underlying52 Tryd.underlying5 cellsU8 cellsTab h
  have hc : ∀ k, k < 64 → W.cell? ⟨0, k, none⟩ = some (.int .u8 ((bruijn.getD k 0 : Nat) : Int)) := fun k hk => by
    have h1 := hT.cell gTab k (show k < bruijnI.length from hk)
    rw [h1]
    have h2 := bruijnI_at k hk
    have h3 : bruijnI.getD k 0 = ((bruijn.getD k 0 : Nat) : Int) := by rw [List.getD_eq_getElem?_getD, h2]; rfl
    rw [← h3]
  refine ⟨?_, hc⟩
  rcases Nat.lt_or_ge 0 W.heap.size with h1 | h1
  · exact h1
  · have := hc 0 (by decide)
    simp [World.cell?, Array.getElem?_eq_none h1] at this

section
variable {H : Type} {enc : TypeId × Value → H} {W : World}
theorem arr_of_trod {held : Bool} {sp : Nat → Bool} {n : Nat} {cs : List Value} {x : DataW H × List MemPlace} (h : DataW.trod enc Tryd.prog W 0 sp held n 22 cs = some x) : ∀ i, i < 64 → ∃ z, cs[i]? = some (.int .i64 z) := by
  obtain ⟨xs, m, _, _, hl, hxl, hf⟩ := DataW.trod_array Tryd.underlying22 h
  intro i hi
  have h1 := hf i hi
  rw [List.getElem?_eq_getElem (by rw [hxl]; exact hi), cellsInt, Nat.mul_one] at h1
  obtain ⟨z, hz, _⟩ := DataW.trod_int Tryd.underlying3 h1
  refine ⟨z, ?_⟩
  have h2 := congrArg (·[0]?) hz
  simpa [List.getElem?_take, List.getElem?_drop] using h2
theorem open_tab {r : Reach} {b0 : Nat} {held : Bool} {sp : Nat → Bool} {v : Value} {d : DataW H} {p : List MemPlace} (hv : Value.okWide Tryd.prog W r b0 24 v) (h : DataW.Trod enc Tryd.prog W 0 sp held 24 v d p) : ∃ f, v = .agg (tcs f) := by
  obtain ⟨cs, rfl, hsz⟩ := okWide_struct Tryd.underlying24 hv
  rw [cellsT] at hsz
  obtain ⟨fuel, hf⟩ := h
  obtain ⟨y0, y1, n, _, _, h0, h1⟩ := trod_struct2 Tryd.underlying24 hf
  have a0 := arr_of_trod h0
  have a1 := arr_of_trod h1
  have hz : ∀ i, i < 128 → ∃ z, cs[i]? = some (.int .i64 z) := by
    intro i hi
    by_cases h : i < 64
    · obtain ⟨z, hz⟩ := a0 i h
      refine ⟨z, ?_⟩
      simpa [Value.cells, List.getElem?_take, cellsArr, h] using hz
    · obtain ⟨z, hz⟩ := a1 (i - 64) (by omega)
      refine ⟨z, ?_⟩
      have e : 64 + (i - 64) = i := by omega
      simpa [Value.cells, List.getElem?_take, List.getElem?_drop, cellsArr, e, show i - 64 < 64 by omega] using hz
  refine ⟨fun i => match cs[i]? with | some (.int _ z) => z | _ => 0, ?_⟩
  congr 1
  apply Array.ext_getElem?
  intro i
  by_cases h : i < 128
  · obtain ⟨z, e⟩ := hz i h
    rw [tcs_get _ h, e]
  · rw [Array.getElem?_eq_none (by omega), Array.getElem?_eq_none (by rw [tcs_size]; omega)]
theorem u64_nat {n : Int} (h : (Lit.int .u64 n).wf = true) : ∃ m : Nat, n = (m : Int) ∧ m < 2 ^ 64 := by
  simp [Lit.wf, IntKind.min, IntKind.max, IntKind.signed, IntKind.bits] at h
  exact ⟨n.toNat, by omega, by omega⟩
theorem open_claim {r : Reach} {b0 : Nat} {held : Bool} {sp : Nat → Bool} {v : Value} {d : DataW H} {p : List MemPlace} (hv : Value.okWide Tryd.prog W r b0 28 v) (h : DataW.Trod enc Tryd.prog W 0 sp held 28 v d p) :
    ∃ (id ep : Int) (m : Nat), v = .agg #[.int .i64 id, .int .i64 ep, .int .u64 (m : Int)] ∧ m < 2 ^ 64 ∧ okI id ∧ okI ep := by
  obtain ⟨v0, v1, v2, y0, y1, y2, n, rfl, _, _, h0, h1, h2⟩ := Go.Joins.open_agg3 Tryd.underlying28 (by kernel_rfl) (by kernel_rfl) hv h
  obtain ⟨a, ha, _, wa⟩ := DataW.trod_int Tryd.underlying3 h0
  obtain ⟨b, hb, _, wb⟩ := DataW.trod_int Tryd.underlying3 h1
  obtain ⟨c, hc, _, wc⟩ := DataW.trod_int Tryd.underlying26 h2
  obtain ⟨m, rfl, hm⟩ := u64_nat wc
  cases ha; cases hb; cases hc
  exact ⟨a, b, m, rfl, hm, wa, wb⟩
end

/-- A world for the witness: the settled one, the library's table as its initialiser lays it. -/
noncomputable def laidWorld (os : Os) : World :=
  { World.holding Tryd.prog os ⟨#[], #[], []⟩ with heap := (World.holding Tryd.prog os ⟨#[], #[], []⟩).heap.modify 0 fun
      | .cells _ t frozen => .cells ((bruijnI.map (Value.int .u8)).toArray) t frozen
      | o => o }
def vTab : Value := .agg (tcs zeroT)
def dTab {H : Type} : DataW H := .agg [.agg (List.replicate 64 (.lit (.int .i64 0))), .agg (List.replicate 64 (.lit (.int .i64 0)))]
def dCl {H : Type} : DataW H := .agg [.lit (.int .i64 0), .lit (.int .i64 0), .lit (.int .u64 0)]
def vCl : Value := .agg #[.int .i64 0, .int .i64 0, .int .u64 0]
end Go.Proofs.YtgmekeeemimnpaaDoor
