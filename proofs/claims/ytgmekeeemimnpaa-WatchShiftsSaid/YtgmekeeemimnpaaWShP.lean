/- WatchShifts: all times later by as much. Plain. -/
import Derived.Test.YtgmekeeemimnpaaWGrows
namespace Go.Proofs.Ytgmekeeemimnpaa

/-- A peer whose times are later. -/
def shP (by_ : Int) (p : Peer) : Peer := (if p.2.1 then p.1 + by_ else p.1, p.2.1, p.2.2 + by_)
def shL (by_ : Int) (L : List (Int × Peer)) : List (Int × Peer) := L.map fun q => (q.1, shP by_ q.2)
section
variable {by_ : Int} {L : List (Int × Peer)} {id at_ : Int}
theorem shL_len : (shL by_ L).length = L.length := by simp [shL]
theorem shL_ids : (shL by_ L).map (·.1) = L.map (·.1) := by simp [shL, List.map_map, Function.comp_def]
theorem shL_get : aget (shL by_ L) id = (aget L id).map (shP by_) := aget_map2 L (shP by_) id
theorem shL_put {p : Peer} : aput (shL by_ L) id (shP by_ p) = shL by_ (aput L id p) := by
  unfold aput
  rw [shL_get, Option.isSome_map]
  split
  · unfold shL
    rw [List.map_map, List.map_map]
    apply List.map_congr_left
    intro q _
    simp only [Function.comp]
    by_cases h : q.1 = id <;> simp [h]
  · unfold shL
    rw [List.map_append]
    rfl
theorem shL_del : adel (shL by_ L) id = shL by_ (adel L id) := by
  unfold adel shL
  rw [List.filter_map]
  rfl
variable (h1 : 0 ≤ at_) (h2 : at_ ≤ 274877906944) (b1 : 0 ≤ by_) (b2 : by_ ≤ 274877906944)
include h1 h2 b1 b2
theorem sh_right : rightW id (at_ + by_) = rightW id at_ := by
  unfold rightW
  rw [show decide (0 ≤ at_ + by_) = decide (0 ≤ at_) from by rw [decide_eq_decide]; omega, show decide (at_ + by_ ≤ 1099511627776) = decide (at_ ≤ 1099511627776) from by rw [decide_eq_decide]; omega]
theorem sh_add : addW (shL by_ L) id (at_ + by_) = ((addW L id at_).1, shL by_ (addW L id at_).2) := by
  unfold addW
  rw [sh_right h1 h2 b1 b2, shL_get, Option.isSome_map, shL_len]
  split
  · rfl
  split
  · rfl
  split
  · rfl
  · simp [shL, shP]
theorem sh_ping : pingW (shL by_ L) id (at_ + by_) = ((pingW L id at_).1, shL by_ (pingW L id at_).2) := by
  unfold pingW
  rw [sh_right h1 h2 b1 b2, shL_get]
  split
  · rfl
  · cases aget L id with
    | none => rfl
    | some p =>
      simp only [Option.map_some]
      rw [← shL_put]
      congr 2
      obtain ⟨s, wt, l⟩ := p
      cases wt <;> simp [pinged, shP] <;> omega
theorem sh_pong : pongW (shL by_ L) id (at_ + by_) = ((pongW L id at_).1, shL by_ (pongW L id at_).2) := by
  unfold pongW
  rw [sh_right h1 h2 b1 b2, shL_get]
  split
  · rfl
  · cases aget L id with
    | none => rfl
    | some p =>
      simp only [Option.map_some]
      rw [← shL_put]
      congr 2
      obtain ⟨s, wt, l⟩ := p
      simp [ponged, shP]
      try omega
end
theorem sh_which {h1 h2 : Peer → Bool} {by_ : Int} {L : List (Int × Peer)} (h : ∀ p, h2 (shP by_ p) = h1 p) : whichW h2 (shL by_ L) = whichW h1 L := by
  unfold whichW shL
  rw [List.filter_map, List.map_map]
  have e1 : ((fun q : Int × Peer => h2 q.2) ∘ fun q : Int × Peer => (q.1, shP by_ q.2)) = fun q => h1 q.2 := by funext q; exact h q.2
  rw [e1]
  rfl
theorem sh_due {to now by_ : Int} {L : List (Int × Peer)} : whichW (dueB to (now + by_)) (shL by_ L) = whichW (dueB to now) L :=
  sh_which fun p => by
    unfold dueB shP
    rw [show decide (p.2.2 + by_ ≤ now + by_) = decide (p.2.2 ≤ now) from by rw [decide_eq_decide]; omega, show now + by_ - (p.2.2 + by_) = now - p.2.2 from by omega]
theorem sh_late {to now by_ : Int} {L : List (Int × Peer)} : whichW (lateB to (now + by_)) (shL by_ L) = whichW (lateB to now) L :=
  sh_which fun p => by
    unfold lateB shP
    cases h : p.2.1 with
    | false => simp
    | true => simp only [if_true, Bool.true_and]; rw [show decide (p.1 + by_ < now + by_) = decide (p.1 < now) from by rw [decide_eq_decide]; omega, show now + by_ - (p.1 + by_) = now - p.1 from by omega]
theorem sh_peers {by_ : Int} {L : List (Int × Peer)} : sortI ((shL by_ L).map (·.1)) = sortI (L.map (·.1)) := by rw [shL_ids]
end Go.Proofs.Ytgmekeeemimnpaa
