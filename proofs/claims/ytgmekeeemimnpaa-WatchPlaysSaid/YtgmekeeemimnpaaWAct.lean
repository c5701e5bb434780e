/- The steps of layer 9's statements: a slice of Acts that came in; the peers' ids, plain. -/
import Derived.Test.YtgmekeeemimnpaaW4
import Derived.Test.YtgmekeeemimnpaaRec
namespace Go.Proofs.Ytgmekeeemimnpaa
open Go Go.Maps Go.MapKept Go.RowKit

/-- A step: how, whom, when. -/
abbrev ActW := Int × Int × Int
def encAW (a : ActW) : List Value := [.int .i64 a.1, .int .i64 a.2.1, .int .i64 a.2.2]
def d0AW : ActW := (0, 0, 0)
def okAW (a : ActW) : Prop := okI a.1 ∧ okI a.2.1 ∧ okI a.2.2
theorem infoAW : (Try.prog.info? 54).map (·.size) = some 3 := by kernel_rfl
theorem aggAW (w : World) : (isAgg 54).run Try.prog w = .ok true w := by kernel_rfl
theorem zeroAW (w : World) : (zeroValue 54).run Try.prog w = .ok (.agg #[.int .i64 0, .int .i64 0, .int .i64 0]) w := by kernel_rfl
theorem cellsAW : Try.prog.cellsOf 54 = 3 := by kernel_rfl
section
variable {H : Type} {encH : TypeId × Value → H} {W : World}
theorem actsW_of_trod {a : Option Addr} {len cap : Nat} {d : DataW H} {p : List MemPlace} (h : DataW.Trod encH Try.prog W 0 (fun _ => true) true 52 (.slice a len cap) d p) : ∃ xs, Recs encAW 3 d0AW W a len xs ∧ (∀ x ∈ xs, okAW x) ∧ len ≤ cap ∧ cap ≤ maxLen :=
  recs_of_trod Try.underlying52 cellsAW (by decide) okAW (fun n cs' y hy => by
    obtain ⟨zs, hl, rfl, hz⟩ := ints_struct Try.underlying54 cellsAW (fun i hi => by
      rcases i with _ | _ | _ | i
      · exact ⟨_, rfl, rfl, rfl⟩
      · exact ⟨_, rfl, rfl, rfl⟩
      · exact ⟨_, rfl, rfl, rfl⟩
      · omega) hy
    match zs, hl with
    | [x, y, z], _ => exact ⟨(x, y, z), rfl, hz x (by simp), hz y (by simp), hz z (by simp)⟩) h
end
end Go.Proofs.Ytgmekeeemimnpaa
