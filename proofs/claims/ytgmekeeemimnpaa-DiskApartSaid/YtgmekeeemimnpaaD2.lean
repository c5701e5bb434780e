/- Package disk's named, step, others, walked. -/
import Derived.Test.YtgmekeeemimnpaaD1
namespace Go.Proofs.Ytgmekeeemimnpaa
open Go Go.Maps Go.MapKept Go.RowKit Go.Sort

/-- Which runes no name has. -/
def noName (r : Nat) : Bool := decide ((r : Int) < 97) || decide (122 < (r : Int))
/-- Is it a name? -/
def namedB (l : Str) : Bool := !l.isEmpty && decide (l.length ≤ 16) && !decide (0 ≤ Lib.idxFunc noName true ⟨l.toArray⟩)
set_option maxHeartbeats 400000 in
theorem named1_calls (r : Nat) (w : World) : Calls Try.prog 129 #[.int .i32 (r : Int)] w fun e w' => e = .returned (.bool (noName r)) ∧ w' = w := by
  by_cases h1 : (r : Int) < 97
  · have H := hideIt (show noName r = true by unfold noName; simp; omega)
    go_enter Try.func129, Try.ntmps129
    go_wp2
    go_ret
    exact ⟨ret_bool H.out.symm, rfl⟩
  · by_cases h2 : 122 < (r : Int)
    · have H := hideIt (show noName r = true by unfold noName; simp; omega)
      go_enter Try.func129, Try.ntmps129
      go_wp2
      go_ret
      exact ⟨ret_bool H.out.symm, rfl⟩
    · have H := hideIt (show noName r = false by unfold noName; simp; omega)
      go_enter Try.func129, Try.ntmps129
      go_wp2
      go_ret
      exact ⟨ret_bool H.out.symm, rfl⟩
theorem contains_calls (l : Str) (w : World) : Calls Try.prog 128 #[encStr l, .func (.func 129) #[] #[]] w fun e w' => e = .returned (.bool (decide (0 ≤ Lib.idxFunc noName true ⟨l.toArray⟩))) ∧ Chg (fun _ => False) w w' := by
  refine (Any.strings_ContainsFunc lay_containsD 129 #[] (enters_of Try.func129 (by kernel_rfl) rfl) noName ⟨l.toArray⟩ w ?_).mono ?_
  · intro W x _
    exact (named1_calls x W).mono fun _ _ h => ⟨h.1, 0, h.2⟩
  · rintro e w' ⟨rfl, hb⟩
    exact ⟨rfl, Chg.of_below' hb⟩
set_option maxHeartbeats 1000000 in
theorem named_calls (l : Str) (w : World) (hl : okS l) : Calls Try.prog 113 #[encStr l] w fun e w' => e = .returned (.bool (namedB l)) ∧ Chg (fun _ => False) w w' := by
  have HC := hideIt (contains_calls l w)
  obtain ⟨cb, hcb⟩ : ∃ cb, decide (0 ≤ Lib.idxFunc noName true ⟨l.toArray⟩) = cb := ⟨_, rfl⟩
  rw [hcb] at HC
  by_cases h0 : l = []
  · subst h0
    clear HC hcb
    go_enter Try.func113, Try.ntmps113
    go_wp2
    go_ret
    exact ⟨rfl, Chg.refl _ _⟩
  · have he : l.isEmpty = false := by simpa using h0
    by_cases h1 : l.length ≤ 16
    · have H := hideIt (show namedB l = !cb by unfold namedB; rw [he, hcb, show decide (l.length ≤ 16) = true from by simpa using h1]; simp)
      have hd : decide ((l.length : Int) ≤ 16) = true := by simp; omega
      clear h0 h1 hcb
      cases cb with
      | true =>
        go_enter Try.func113, Try.ntmps113
        go_wp2_with (go_at_call 128; refine HC.out.mono ?_; rintro e w1 ⟨rfl, c1⟩)
        go_ret
        exact ⟨ret_bool H.out.symm, c1⟩
      | false =>
        go_enter Try.func113, Try.ntmps113
        go_wp2_with (go_at_call 128; refine HC.out.mono ?_; rintro e w1 ⟨rfl, c1⟩)
        go_ret
        exact ⟨ret_bool H.out.symm, c1⟩
    · have H := hideIt (show namedB l = false by unfold namedB; rw [show decide (l.length ≤ 16) = false from by simpa using h1]; simp)
      have hd : decide ((l.length : Int) ≤ 16) = false := by simp; omega
      clear h0 h1 hcb HC
      go_enter Try.func113, Try.ntmps113
      go_wp2
      go_ret
      exact ⟨ret_bool H.out.symm, Chg.refl _ _⟩

/-- A call that is left is done; with none left it goes down. -/
def stepS (s : DSt) : DSt := if 0 < s.left then { s with left := s.left - 1 } else if s.left = 0 then { s with down := true } else s
section
variable {w : World} {d m : Nat} {s : DSt}
/-- What a disk's calls leave: only its two blocks turn. -/
def DiskR (w : World) (d m : Nat) (s : DSt) (r : Value) (e : Ending) (w' : World) : Prop := e = .returned r ∧ DiskAt w' d m s ∧ Chg (fun i => i = d ∨ i = m) w w'
theorem DiskAt.left_ (h : DiskAt w d m s) (v : Int) : DiskAt (w.setCell ⟨d, 2, none⟩ (.int .i64 v)) d m { s with left := v } ∧ Chg (fun i => i = d ∨ i = m) w (w.setCell ⟨d, 2, none⟩ (.int .i64 v)) := by
  have c1 : Chg (fun i => i = d ∨ i = m) w (w.setCell ⟨d, 2, none⟩ (.int .i64 v)) := Chg.setCell (S := fun i => i = d ∨ i = m) (Chg.refl _ w) (p := ⟨d, 2, none⟩) (.inl (.inl rfl)) _
  refine ⟨⟨?_, h.map.setCell (a := ⟨d, 2, none⟩) h.ne _, fun p hp => (h.files p hp).own h c1⟩, c1⟩
  have := h.blk.set_ 2 (.int .i64 v)
  simpa using this
theorem DiskAt.down_ (h : DiskAt w d m s) (v : Bool) : DiskAt (w.setCell ⟨d, 3, none⟩ (.bool v)) d m { s with down := v } ∧ Chg (fun i => i = d ∨ i = m) w (w.setCell ⟨d, 3, none⟩ (.bool v)) := by
  have c1 : Chg (fun i => i = d ∨ i = m) w (w.setCell ⟨d, 3, none⟩ (.bool v)) := Chg.setCell (S := fun i => i = d ∨ i = m) (Chg.refl _ w) (p := ⟨d, 3, none⟩) (.inl (.inl rfl)) _
  refine ⟨⟨?_, h.map.setCell (a := ⟨d, 3, none⟩) h.ne _, fun p hp => (h.files p hp).own h c1⟩, c1⟩
  have := h.blk.set_ 3 (.bool v)
  simpa using this
set_option maxHeartbeats 1000000 in
theorem step_calls (w : World) (h : DiskAt w d m s) (hok : DOk s) : Calls Try.prog 116 #[.pointer (some ⟨d, 0, none⟩)] w (DiskR w d m (stepS s) (.bool (!(stepS s).down))) := by
  obtain ⟨L, room, left, down⟩ := s
  have c2 : w.cell? ⟨d, 2, none⟩ = some (.int .i64 left) := h.blk.cell 2
  have c3 : w.cell? ⟨d, 3, none⟩ = some (.bool down) := h.blk.cell 3
  have f2 : w.frozen? ⟨d, 2, none⟩ = false := h.blk.frozen 2
  have f3 : w.frozen? ⟨d, 3, none⟩ = false := h.blk.frozen 3
  have l0 : -1 ≤ left := hok.left0
  have l1 : left ≤ 9223372036854775807 := hok.left1
  have H0 := hideIt h
  clear h hok
  by_cases h1 : 0 < left
  · have HS := hideIt (show stepS ⟨L, room, left, down⟩ = ⟨L, room, left - 1, down⟩ by unfold stepS; simp only; rw [if_pos h1])
    cases down with
    | true =>
      go_enter Try.func116, Try.ntmps116
      go_wp2
      go_ret
      rw [HS.out]
      exact ⟨rfl, H0.out.left_ _⟩
    | false =>
      go_enter Try.func116, Try.ntmps116
      go_wp2
      go_ret
      rw [HS.out]
      exact ⟨rfl, H0.out.left_ _⟩
  · by_cases h2 : left = 0
    · have HS := hideIt (show stepS ⟨L, room, left, down⟩ = ⟨L, room, left, true⟩ by unfold stepS; simp only; rw [if_neg h1, if_pos h2])
      have d2 : (left == 0) = true := by simpa using h2
      clear h2
      go_enter Try.func116, Try.ntmps116
      go_wp2
      go_ret
      rw [HS.out]
      exact ⟨rfl, H0.out.down_ _⟩
    · have HS := hideIt (show stepS ⟨L, room, left, down⟩ = ⟨L, room, left, down⟩ by unfold stepS; simp only; rw [if_neg h1, if_neg h2])
      have d2 : (left == 0) = false := by simpa using h2
      clear h2
      cases down with
      | true =>
        go_enter Try.func116, Try.ntmps116
        go_wp2
        go_ret
        rw [HS.out]
        exact ⟨rfl, H0.out, Chg.refl _ _⟩
      | false =>
        go_enter Try.func116, Try.ntmps116
        go_wp2
        go_ret
        rw [HS.out]
        exact ⟨rfl, H0.out, Chg.refl _ _⟩
end
end Go.Proofs.Ytgmekeeemimnpaa
