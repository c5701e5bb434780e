/- The quorum's tally, walked: Need, Won, Count, Grant. -/
import Derived.Test.YtgmekeeemimnpaaCore
import Derived.Test.YtgmekeeemimnpaaChecked
import Derived.Deep.QuietTactic
import Derived.BigQuiet
namespace Go.Proofs.Ytgmekeeemimnpaa
open Go Go.Maps Go.MapKept Go.RowKit

theorem ret_int {k : IntKind} {a b : Int} (h : a = b) : Ending.returned (.int k a) = .returned (.int k b) := by rw [h]
theorem ret_bool {a b : Bool} (h : a = b) : Ending.returned (.bool a) = .returned (.bool b) := by rw [h]

theorem zeroBool (w : World) : (zeroValue 4).run Try.prog w = .ok (.bool false) w := by kernel_rfl
theorem encInt : KeyEnc Try.prog 3 (Value.int .i64) okI := intEnc Try.underlying3

def need (n : Int) : Int := max n 0 / 2 + 1

set_option maxHeartbeats 400000 in
theorem need_calls (n : Int) (w : World) (h : okI n) : Calls Try.prog 32 #[.int .i64 n] w fun e w' => e = .returned (.int .i64 (need n)) ∧ w = w' := by
  have hb := okI_iff.1 h
  clear h
  obtain ⟨h1, h2⟩ := hb
  go_enter Try.func32, Try.ntmps32
  go_wp2
  all_goals
    go_ret
    exact ⟨ret_int (by unfold need; omega), rfl⟩

/-- How many are marked. -/
def yes (L : List (Int × Bool)) : Nat := (L.filter (·.2)).length
/-- A tally at block p, its map at block m: L says who has granted. -/
structure TallyAt (w : World) (p m : Nat) (L : List (Int × Bool)) : Prop where
  blk : Blk w p 118 #[.map (some m), .int .i64 (yes L : Int)]
  map : MapIs (Value.int .i64) Value.bool okI w m L
  small : L.length ≤ 16

theorem TallyAt.chg {S : Nat → Prop} {w w' : World} {p m : Nat} {L : List (Int × Bool)} (h : TallyAt w p m L) (hc : Chg S w w') (h1 : ¬ S p) (h2 : ¬ S m) : TallyAt w' p m L :=
  ⟨h.blk.chg hc h1, h.map.chg hc h2, h.small⟩
theorem TallyAt.nodup {w : World} {p m : Nat} {L : List (Int × Bool)} (h : TallyAt w p m L) : keysNodup L := h.map.nodup
theorem yes_le (L : List (Int × Bool)) : yes L ≤ L.length := List.length_filter_le _ _

def wonB (L : List (Int × Bool)) : Bool := decide (L.length < 2 * yes L)

set_option maxHeartbeats 400000 in
theorem count_calls (p m : Nat) (L : List (Int × Bool)) (w : World) (h : TallyAt w p m L) : Calls Try.prog 36 #[.pointer (some ⟨p, 0, none⟩)] w fun e w' => e = .returned (.int .i64 (yes L : Int)) ∧ w = w' := by
  have c1 : w.cell? ⟨p, 1, none⟩ = some (.int .i64 (yes L : Int)) := h.blk.cell 1
  go_enter Try.func36, Try.ntmps36
  go_wp2
  go_ret
  exact ⟨rfl, rfl⟩

set_option maxHeartbeats 400000 in
theorem won_calls (p m : Nat) (L : List (Int × Bool)) (w : World) (h : TallyAt w p m L) : Calls Try.prog 35 #[.pointer (some ⟨p, 0, none⟩)] w fun e w' => e = .returned (.bool (wonB L)) ∧ ∃ n, w' = w.drewN n := by
  have c0 : w.cell? ⟨p, 0, none⟩ = some (.map (some m)) := h.blk.cell 0
  have c1 : w.cell? ⟨p, 1, none⟩ = some (.int .i64 (yes L : Int)) := h.blk.cell 1
  have hlen := fun (n : Nat) ty => MapIs.len (P := Try.prog) (w := w.drewN n) h.map Try.underlying116 ty
  have hL := h.small
  have hy := yes_le L
  have hok : okI (L.length : Int) := okI_iff.2 (by omega)
  go_enter Try.func35, Try.ntmps35
  go_wp2_with fail
  go_quiet ((go_at_call 32; exact Calls.quiet_of_same ((need_calls _ _ hok).mono fun _ _ h => ⟨h.1, h.2.symm⟩)))
  go_wp2
  go_ret
  exact ⟨ret_bool (by unfold wonB need; rw [decide_eq_decide]; omega), nq, rfl⟩

/-- Does a grant count? -/
def grantB (L : List (Int × Bool)) (id : Int) : Bool := decide (aget L id = some false)
/-- Who has granted behind a grant. -/
def grantL (L : List (Int × Bool)) (id : Int) : List (Int × Bool) := if aget L id = some false then aput L id true else L

theorem yes_aput {L : List (Int × Bool)} (hn : keysNodup L) {id : Int} (h : aget L id = some false) : yes (aput L id true) = yes L + 1 := by
  unfold yes aput
  rw [h]
  simp only [Option.isSome_some, if_true]
  induction L with
  | nil => cases h
  | cons p r ih =>
    have hn' : keysNodup r := by unfold keysNodup at hn ⊢; exact (List.nodup_cons.1 (by simpa using hn)).2
    have hp : p.1 ∉ r.map (·.1) := by unfold keysNodup at hn; exact (List.nodup_cons.1 (by simpa using hn)).1
    by_cases he : p.1 = id
    · have hp2 : p.2 = false := by
        have : aget (p :: r) id = some p.2 := by simp [aget, he]
        rw [this] at h
        injection h
      have hr : r.map (fun q => if q.1 = id then (id, true) else q) = r := by
        have : r.map (fun q => if q.1 = id then (id, true) else q) = r.map (fun q => q) := List.map_congr_left (fun q hq => by
          have : q.1 ≠ id := fun e => hp (List.mem_map.2 ⟨q, hq, e.trans he.symm⟩)
          simp [this])
        simpa using this
      rw [List.map_cons, if_pos he, hr]
      simp [hp2]
    · have h' : aget r id = some false := by
        have : aget (p :: r) id = aget r id := by simp [aget, he]
        rw [← this]; exact h
      have := ih hn' h'
      rw [List.map_cons, if_neg he]
      cases hb : p.2 <;> simp [hb, this]

set_option maxHeartbeats 400000 in
theorem grant_calls (p m : Nat) (L : List (Int × Bool)) (id : Int) (w : World) (h : TallyAt w p m L) (hid : okI id) : Calls Try.prog 34 #[.pointer (some ⟨p, 0, none⟩), .int .i64 id] w fun e w' =>
    e = .returned (.bool (grantB L id)) ∧ TallyAt w' p m (grantL L id) ∧ Chg (fun i => i = p ∨ i = m) w w' ∧ w.heap.size = w'.heap.size := by
  have c0 : w.cell? ⟨p, 0, none⟩ = some (.map (some m)) := h.blk.cell 0
  have hl := h.map.look encInt Try.underlying116 (zeroBool w) hid true
  rcases ha : aget L id with _ | _ | _
  · have H := hideIt ha
    rw [ha] at hl
    simp only [Option.map_none, Option.getD_none, Option.isSome_none, if_true] at hl
    clear ha
    go_enter Try.func34, Try.ntmps34
    go_wp2
    go_ret
    exact ⟨ret_bool (by unfold grantB; rw [H.out]; rfl), by unfold grantL; rw [H.out]; exact h, Chg.refl _ _, rfl⟩
  · have H := hideIt ha
    rw [ha] at hl
    simp only [Option.map_some, Option.getD_some, Option.isSome_some, if_true] at hl
    clear ha
    have hne := map_ne_blk h.map h.blk
    have hy1 := yes_le L
    have hy2 := h.small
    go_enter Try.func34, Try.ntmps34
    go_wp2_with (at_mapUpdate; refine wpList_store _ rfl _ _ _ 116 rfl 4 encInt Try.underlying116 h.map rfl id rfl hid true rfl ?_; intro w1 hm1 ht1; have hb1 := h.blk.turned ht1; have c1 : w1.cell? ⟨p, 1, none⟩ = some (.int .i64 (yes L : Int)) := hb1.cell 1; have f1 : w1.frozen? ⟨p, 1, none⟩ = false := hb1.frozen 1)
    go_ret
    have hs := mapTurned_size ht1
    have hy : yes (aput L id true) = yes L + 1 := yes_aput h.nodup H.out
    refine ⟨ret_bool (by unfold grantB; rw [H.out]; rfl), ?_, Chg.setCell (S := fun i => i = p ∨ i = m) (p := ⟨p, 1, none⟩) ((Chg.mapTurned ht1).mono (fun _ h => Or.inr h)) (.inl (.inl rfl)) _, by simpa [World.setCell] using hs.symm⟩
    unfold grantL
    rw [H.out, if_pos rfl]
    refine ⟨?_, hm1.setCell hne _, ?_⟩
    · have := hb1.set_ 1 (.int .i64 (yes L + 1))
      rw [hy]
      simpa using this
    · rw [length_aput, H.out]
      exact h.small
  · have H := hideIt ha
    rw [ha] at hl
    simp only [Option.map_some, Option.getD_some, Option.isSome_some, if_true] at hl
    clear ha
    go_enter Try.func34, Try.ntmps34
    go_wp2
    go_ret
    exact ⟨ret_bool (by unfold grantB; rw [H.out]; rfl), by unfold grantL; rw [H.out]; exact h, Chg.refl _ _, rfl⟩
end Go.Proofs.Ytgmekeeemimnpaa
