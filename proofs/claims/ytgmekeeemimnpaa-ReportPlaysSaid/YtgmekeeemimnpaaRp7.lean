/- Layer 8's acts: a slice of them that came in; By with its slice apart from the book's map. -/
import Derived.Test.YtgmekeeemimnpaaRp6
namespace Go.Proofs.Ytgmekeeemimnpaa
open Go Go.Maps Go.MapKept Go.RowKit

/-- A step: how, about, by, at. -/
abbrev ActR := Int × Int × Int × Int
def encAR (a : ActR) : List Value := [.int .i64 a.1, .int .i64 a.2.1, .int .i64 a.2.2.1, .int .i64 a.2.2.2]
def d0AR : ActR := (0, 0, 0, 0)
def okAR (a : ActR) : Prop := okI a.1 ∧ okI a.2.1 ∧ okI a.2.2.1 ∧ okI a.2.2.2
theorem infoAR : (Try.prog.info? 62).map (·.size) = some 4 := by kernel_rfl
theorem aggAR (w : World) : (isAgg 62).run Try.prog w = .ok true w := by kernel_rfl
theorem zeroAR (w : World) : (zeroValue 62).run Try.prog w = .ok (.agg #[.int .i64 0, .int .i64 0, .int .i64 0, .int .i64 0]) w := by kernel_rfl
theorem cellsAR : Try.prog.cellsOf 62 = 4 := by kernel_rfl
section
variable {H : Type} {encH : TypeId × Value → H} {W : World}
theorem actsR_of_trod {a : Option Addr} {len cap : Nat} {d : DataW H} {p : List MemPlace} (h : DataW.Trod encH Try.prog W 0 (fun _ => true) true 56 (.slice a len cap) d p) : ∃ xs, Recs encAR 4 d0AR W a len xs ∧ (∀ x ∈ xs, okAR x) ∧ len ≤ cap ∧ cap ≤ maxLen :=
  recs_of_trod Try.underlying56 cellsAR (by decide) okAR (fun n cs' y hy => by
    obtain ⟨zs, hl, rfl, hz⟩ := ints_struct Try.underlying62 cellsAR (fun i hi => by
      rcases i with _ | _ | _ | _ | i
      · exact ⟨_, rfl, rfl, rfl⟩
      · exact ⟨_, rfl, rfl, rfl⟩
      · exact ⟨_, rfl, rfl, rfl⟩
      · exact ⟨_, rfl, rfl, rfl⟩
      · omega) hy
    match zs, hl with
    | [x, y, z, u], _ => exact ⟨(x, y, z, u), rfl, hz x (by simp), hz y (by simp), hz z (by simp), hz u (by simp)⟩) h
end
section
variable {w0 w w' : World} {b m : Nat} {win : Int} {L : List (Pr × Int)}
theorem BookB.by2 (h : BookB w0 w b m win L) (about now : Int) (hn : -9223372036854775808 ≤ now ∧ now ≤ 9223372036854775807) (hL : L.length ≤ 1000000) (xs : List Int) (hx : sortI (byL win L about now) = xs) (n : Nat) (hn' : xs.length = n) :
    Calls Try.prog 63 #[.pointer (some ⟨b, 0, none⟩), .int .i64 about, .int .i64 now] w fun e w' => ∃ A c, e = .returned (.slice A n c) ∧ Ints w' A n xs ∧ BookB w0 w' b m win L ∧ Chg (fun _ => False) w w' ∧ ∀ W, Chg (fun i => i = m) w' W → Ints W A n xs := by
  subst hx
  have hok : ∀ x ∈ sortI (byL win L about now), okI x := by
    intro x hx
    rw [mem_sortI] at hx
    obtain ⟨p, hp, rfl⟩ := List.mem_map.1 hx
    have := (h.1.2.2.2 p (List.mem_filter.1 hp).1).2.1
    exact okI_iff.2 (by omega)
  have hml := h.1.2.1.lt
  refine (by_calls about now hn hL h.1).mono ?_
  rintro e w' ⟨A, n', c, rfl, ho, hc⟩
  have hi2 : ∀ W, Chg (fun i => i = m) w' W → Ints W A n' (sortI (byL win L about now)) := fun W hW =>
    (ho.chg hW (fun g hg e => by have := ho.base_le hg; omega)).ints hok rfl
  obtain ⟨A0, c0, hv, h1, h2, _⟩ := ho.slice
  cases hv
  rw [hn'] at hi2 h1 ⊢
  have hi := hi2 w' (Chg.refl _ _)
  exact ⟨A, c, rfl, hi, h.new hc, hc, hi2⟩
end
end Go.Proofs.Ytgmekeeemimnpaa
