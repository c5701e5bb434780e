/- Layer 12's arguments, read: bytes, texts. -/
import Derived.Test.YtgmekeeemimnpaaD10
namespace Go.Proofs.Ytgmekeeemimnpaa
open Go Go.Maps Go.MapKept Go.RowKit Go.Sort Go.ChangeShapes Go.WideShapes

section
variable {H : Type} {encH : TypeId × Value → H} {W : World}
theorem cellsU : Try.prog.cellsOf 5 = 1 := by kernel_rfl
theorem cellsS : Try.prog.cellsOf 9 = 1 := by kernel_rfl
theorem bytes_of_trod {a : Option Addr} {len cap : Nat} {d : DataW H} {p : List MemPlace} (h : DataW.Trod encH Try.prog W 0 (fun _ => true) true 95 (.slice a len cap) d p) : ∃ xs, Bytes W a len xs ∧ len ≤ cap ∧ cap ≤ maxLen := by
  obtain ⟨xs, h1, _, h2, h3⟩ := recs_of_trod (enc := encU) (K := 1) (d := (0 : Int)) Try.underlying95 cellsU (by decide) (fun _ => True) (fun n cs' y hy => by
    obtain ⟨z, hz, _, _⟩ := DataW.trod_int Try.underlying5 hy
    exact ⟨z, hz, trivial⟩) h
  exact ⟨xs, h1, h2, h3⟩
theorem texts_of_trod {a : Option Addr} {len cap : Nat} {d : DataW H} {p : List MemPlace} (h : DataW.Trod encH Try.prog W 0 (fun _ => true) true 111 (.slice a len cap) d p) : ∃ xs, Recs encL 1 ([] : Str) W a len xs ∧ (∀ x ∈ xs, okS x) ∧ len ≤ cap ∧ cap ≤ maxLen :=
  recs_of_trod (enc := encL) (K := 1) (d := ([] : Str)) Try.underlying111 cellsS (by decide) okS (fun n cs' y hy => by
    obtain ⟨s, hs, _, hsz⟩ := DataW.trod_string Try.underlying9 hy
    exact ⟨s.data.toList, hs, by unfold okS; rw [Array.length_toList]; exact hsz⟩) h
end
end Go.Proofs.Ytgmekeeemimnpaa
