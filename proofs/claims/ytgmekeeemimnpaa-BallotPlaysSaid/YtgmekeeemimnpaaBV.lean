/- The ballot's Voters; Ack for another epoch. (Printed by wip/gen/bagain.py.) -/
import Derived.Test.YtgmekeeemimnpaaB3
import Derived.Test.YtgmekeeemimnpaaTally
namespace Go.Proofs.Ytgmekeeemimnpaa
open Go Go.Maps Go.MapKept Go.RowKit

/-- With whom it stands. -/
def standers : Option StandSt → List Int
  | none => []
  | some (_, _, L) => L.map (·.1)
section
variable {F : Nat → Prop} {b : Nat} {to : Int} {now : Option StandSt} {G : List (Int × Int)} (w : World)
set_option maxHeartbeats 1000000 in
theorem bvoters_calls (h : Ball w F b to now G) : Calls Try.prog 74 #[.pointer (some ⟨b, 0, none⟩)] w (KeysIs w (standers now)) := by
  obtain ⟨v, g, hb, hs, _⟩ := h
  have c1 : w.cell? ⟨b, 1, none⟩ = some v := hb.cell 1
  cases now with
  | none =>
    obtain rfl : v = .pointer none := hs
    clear hb
    go_enter Try.func74, Try.ntmps74
    go_wp2
    go_ret
    exact ⟨none, 0, 0, rfl, (by rw [show sortI (standers none) = [] from List.eq_nil_of_length_eq_zero (by rw [sortI_len]; rfl)]; exact OwnI.nil _ _ _), Chg.refl _ w⟩
  | some x =>
    obtain ⟨e0, u, L⟩ := x
    obtain ⟨s, p, m, rfl, h1, ht, _⟩ := hs
    have c0 : w.cell? ⟨s, 0, none⟩ = some (.pointer (some ⟨p, 0, none⟩)) := h1.cell 0
    have HV := hideIt (voters_calls w ht)
    clear hb h1 ht
    go_enter Try.func74, Try.ntmps74
    go_wp2_with (go_at_call 107; refine HV.out.mono ?_; rintro e w1 ⟨A, n, c, rfl, ho, hc⟩)
    go_ret
    exact ⟨A, n, c, rfl, ho, hc⟩
set_option maxHeartbeats 1000000 in
theorem ack_other {e0 u : Int} {L : List (Int × Bool)} (from_ epoch t : Int) (h : Ball w F b to (some (e0, u, L)) G) (hu : ¬ u < t) (he : e0 ≠ epoch) :
    Calls Try.prog 45 #[.pointer (some ⟨b, 0, none⟩), .int .i64 from_, .int .i64 epoch, .int .i64 t] w fun e w' => e = .returned (.bool false) ∧ w = w' := by
  obtain ⟨v, g, hb, ⟨s, p, m, rfl, h1, _⟩, _⟩ := h
  have HA := hideIt (at_on b s to e0 u _ _ t w hb h1 hu)
  have c1 : w.cell? ⟨s, 1, none⟩ = some (.int .i64 e0) := h1.cell 1
  have hne : (e0 != epoch) = true := by simpa using he
  clear hb h1 he hu
  go_enter Try.func45, Try.ntmps45
  go_wp2_with (go_at_call 96; refine HA.out.mono ?_; rintro e w2 ⟨rfl, rfl⟩)
  go_ret
  exact ⟨rfl, rfl⟩
end
section
variable {w0 w : World} {b : Nat} {to : Int} {now : Option StandSt} {G : List (Int × Int)}
theorem BallB.voters (h : BallB w0 w b to now G) : Calls Try.prog 74 #[.pointer (some ⟨b, 0, none⟩)] w fun e w' => ∃ A n c, e = .returned (.slice A n c) ∧ n = (standers now).length ∧ Ints w' A n (sortI (standers now)) ∧ BallB w0 w' b to now G ∧ (A = none ∨ ∃ i, A = some ⟨i, 0, none⟩ ∧ w.heap.size ≤ i) := by
  have h0 := h
  obtain ⟨⟨F, hb, hF⟩, hc⟩ := h
  have hok : ∀ x ∈ sortI (standers now), okI x := by
    obtain ⟨v, g, _, hs, _⟩ := hb
    cases now with
    | none => intro x hx; rw [show sortI (standers none) = [] from List.eq_nil_of_length_eq_zero (by rw [sortI_len]; rfl)] at hx; cases hx
    | some y =>
      obtain ⟨e, u, L⟩ := y
      obtain ⟨s, p, m, rfl, _, ht, _⟩ := hs
      exact keys_ok ht.map
  refine (bvoters_calls w hb).mono ?_
  rintro e w' ⟨A, n, c, rfl, ho, hc'⟩
  obtain ⟨A0, k0, e0, -, -, h4⟩ := ho.slice
  cases e0
  refine ⟨_, _, _, rfl, by rw [sortI_len], ho.ints hok rfl, h0.chg hc', ?_⟩
  rcases ho.2 with ⟨e1, _⟩ | ⟨g, cap, cur, e1, hg, _⟩
  · injection e1 with e1; exact .inl e1
  · injection e1 with e1; exact .inr ⟨g, e1, hg⟩
theorem BallB.other {e0 u : Int} {L : List (Int × Bool)} (h : BallB w0 w b to (some (e0, u, L)) G) (from_ epoch t : Int) (hu : ¬ u < t) (he : e0 ≠ epoch) :
    Calls Try.prog 45 #[.pointer (some ⟨b, 0, none⟩), .int .i64 from_, .int .i64 epoch, .int .i64 t] w fun e w' => e = .returned (.bool false) ∧ w = w' := by
  obtain ⟨⟨F, hb, hF⟩, hc⟩ := h
  exact ack_other w from_ epoch t hb hu he
end
end Go.Proofs.Ytgmekeeemimnpaa
