/- Package report's keys: pairs of ints as a map's key. -/
import Derived.Test.YtgmekeeemimnpaaRec
import Derived.DeepKeys4
namespace Go.Proofs.Ytgmekeeemimnpaa
open Go Go.Maps Go.MapKept Go.RowKit

abbrev Pr := Int × Int
def ekPr (p : Pr) : Value := .agg #[.int .i64 p.1, .int .i64 p.2]
def okPr (p : Pr) : Prop := okI p.1 ∧ okI p.2
theorem ekPr_inj : ∀ a b, ekPr a = ekPr b → a = b := by
  rintro ⟨a1, a2⟩ ⟨b1, b2⟩ h
  simp [ekPr] at h
  simp [h.1, h.2]
theorem pairKey (p : Pr) (hp : okPr p) : ∃ l, keyOf Try.prog 141 (ekPr p) = some l := by
  obtain ⟨a, b⟩ := p
  obtain ⟨h1, h2⟩ := hp
  have hf : (ekPr (a, b)).formed Try.prog 141 = true := by
    have c1 : Try.prog.cellsOf 141 = 2 := by kernel_rfl
    simp [Value.formed, ekPr, Try.underlying141, c1]
  have ht : Try.prog.keyType 141 = true := by kernel_rfl
  have hl : Try.prog.keyLits (Try.prog.types.size + 1) 141 (ekPr (a, b)).cells.toList = some [.int .i64 a, .int .i64 b] := by
    obtain ⟨n, hn⟩ : ∃ n, Try.prog.types.size = n + 1 := ⟨Try.prog.types.size - 1, by have : 0 < Try.prog.types.size := of_decide_eq_true (by kernel_rfl); omega⟩
    have c1 : Try.prog.cellsOf 141 = 2 := by kernel_rfl
    have c2 : Try.prog.cellsOf 3 = 1 := by kernel_rfl
    rw [hn]
    simp [Program.keyLits, Try.underlying141, Try.underlying3, c1, c2, ekPr, Value.cells, show (Lit.int .i64 a).wf = true from h1, show (Lit.int .i64 b).wf = true from h2]
  unfold keyOf
  simp only [Try.underlying141]
  rw [ht, hf, hl]
  exact ⟨_, rfl⟩
theorem pairEnc : KeyEnc Try.prog 141 ekPr okPr :=
  ⟨Keyed.of_law (deep_law_laid (m := 2) (by kernel_rfl) (by decide) (of_decide_eq_true (by kernel_rfl)) (by kernel_rfl) (by kernel_rfl)), ekPr_inj, pairKey⟩
end Go.Proofs.Ytgmekeeemimnpaa
