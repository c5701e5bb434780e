/- Layer 15's twin, walked: stand. -/
import Derived.Test.YtgmekeeemimnpaaBP4
namespace Go.Proofs.Ytgmekeeemimnpaa
open Go Go.Maps Go.MapKept Go.RowKit

section
variable {base t : Nat} {F : Nat → Prop} {s : TwSt} {A : Option Addr} {n c : Nat} {vs : List Int} {how ep id now to : Int}
set_option maxRecDepth 100000 in
set_option maxHeartbeats 8000000 in
theorem tstand_no (w : World) (hv : Ints w A n vs) (hn : n ≤ 100) (hs : standB vs ep now = false) :
    Calls Try.prog 77 #[.pointer (some ⟨t, 0, none⟩), .agg #[.int .i64 how, .int .i64 ep, .int .i64 id, .int .i64 now, .slice A n c], .int .i64 to] w fun e w' => e = .returned (.int .i64 10) ∧ Chg (fun _ => False) w w' := by
  obtain ⟨wB, hwB⟩ : ∃ wB, wB = w.alloc (.cells #[.int .i64 how, .int .i64 ep, .int .i64 id, .int .i64 now, .slice A n c] 90) := ⟨_, rfl⟩
  have tB : Hid (Blk wB w.heap.size 90 #[.int .i64 how, .int .i64 ep, .int .i64 id, .int .i64 now, .slice A n c]) := hideIt (by rw [hwB]; exact Blk.new w _ _)
  have CB : Hid (Chg (fun _ => False) w wB) := hideIt (by rw [hwB]; exact (Chg.refl _ w).alloc _)
  have HB := hideIt hwB
  have HR := right_calls A n c vs wB (hv.new CB.out) (by omega)
  unfold standB timeB at hs
  have hways : rightB vs = false ∨ rightB vs = true ∧ (ep < 1 ∨ 281474976710656 < ep ∨ now < 0 ∨ 1099511627776 < now) := by
    cases hr : rightB vs with
    | false => exact .inl rfl
    | true =>
      rw [hr] at hs
      simp only [Bool.true_and, Bool.and_eq_false_iff, decide_eq_false_iff_not] at hs
      exact .inr ⟨rfl, by omega⟩
  clear hs hwB hv
  rcases hways with hr | ⟨hr, q | q | q | q⟩
  · rw [hr] at HR
    have HR := hideIt HR
    clear hr
    go_enter Try.func77, Try.ntmps77
    go_wp2_with (go_at_call 41; rw [← HB.out]; refine HR.out.mono ?_; rintro e w1 ⟨rfl, k1⟩)
    go_ret
    exact ⟨rfl, CB.out.trans k1⟩
  all_goals
    rw [hr] at HR
    have HR := hideIt HR
    clear hr
    go_enter Try.func77, Try.ntmps77
    go_wp2_with (go_at_call 41; rw [← HB.out]; refine HR.out.mono ?_; rintro e w1 ⟨rfl, k1⟩; have t1 := tB.out.chg k1 (fun h => h); have e1 : w1.cell? ⟨w.heap.size, 1, none⟩ = some (.int .i64 ep) := t1.cell 1; have e3 : w1.cell? ⟨w.heap.size, 3, none⟩ = some (.int .i64 now) := t1.cell 3; clear t1)
    all_goals
      go_ret
      exact ⟨rfl, CB.out.trans k1⟩

set_option maxRecDepth 100000 in
set_option maxHeartbeats 8000000 in
theorem tstand_busy (w : World) (h : Twin w base F t s) (hv : Ints w A n vs) (hn : n ≤ 100) (hs : standB vs ep now = true) (hon : s.on = true) (hu : now ≤ s.un) :
    Calls Try.prog 77 #[.pointer (some ⟨t, 0, none⟩), .agg #[.int .i64 how, .int .i64 ep, .int .i64 id, .int .i64 now, .slice A n c], .int .i64 to] w fun e w' => e = .returned (.int .i64 21) ∧ Chg (fun _ => False) w w' := by
  obtain ⟨wB, hwB⟩ : ∃ wB, wB = w.alloc (.cells #[.int .i64 how, .int .i64 ep, .int .i64 id, .int .i64 now, .slice A n c] 90) := ⟨_, rfl⟩
  have tB : Hid (Blk wB w.heap.size 90 #[.int .i64 how, .int .i64 ep, .int .i64 id, .int .i64 now, .slice A n c]) := hideIt (by rw [hwB]; exact Blk.new w _ _)
  have CB : Hid (Chg (fun _ => False) w wB) := hideIt (by rw [hwB]; exact (Chg.refl _ w).alloc _)
  have HB := hideIt hwB
  have HR := right_calls A n c vs wB (hv.new CB.out) (by omega)
  unfold standB at hs
  rw [Bool.and_eq_true, Bool.and_eq_true, decide_eq_true_eq] at hs
  obtain ⟨hr, ⟨h1, h2⟩, h3⟩ := hs
  obtain ⟨n1, n2⟩ := timeB_true h3
  rw [hr] at HR
  have HR := hideIt HR
  obtain ⟨⟨v1, v2, v3, v4, hb, -⟩, -, -, -⟩ := h
  rw [hon] at hb
  have HBk := hideIt hb
  obtain ⟨un, hun⟩ : ∃ un, s.un = un := ⟨_, rfl⟩
  rw [hun] at hu HBk
  have hd : decide (now ≤ un) = true := by simpa using hu
  clear hwB hv hr h3 hb hon hun
  go_enter Try.func77, Try.ntmps77
  go_wp2_with (go_at_call 41; rw [← HB.out]; refine HR.out.mono ?_; rintro e w1 ⟨rfl, k1⟩; have t1 := tB.out.chg k1 (fun h => h); have e1 : w1.cell? ⟨w.heap.size, 1, none⟩ = some (.int .i64 ep) := t1.cell 1; have e3 : w1.cell? ⟨w.heap.size, 3, none⟩ = some (.int .i64 now) := t1.cell 3; have T1 := HBk.out.chg (CB.out.trans k1) (fun h => h); have c0 : w1.cell? ⟨t, 0, none⟩ = some (.bool true) := T1.cell 0; have c2 : w1.cell? ⟨t, 2, none⟩ = some (.int .i64 un) := T1.cell 2; clear t1 T1)
  go_quiet (fail)
  go_wp2
  go_ret
  exact ⟨rfl, (CB.out.trans k1).drewN _⟩

/-- What a stand that is taken leaves. -/
def TStand (w : World) (base : Nat) (F : Nat → Prop) (t : Nat) (s : TwSt) (e : Ending) (w' : World) : Prop :=
  e = .returned (.int .i64 0) ∧ Twin w' base F t s ∧ Chg (fun i => ¬ F i ∧ base ≤ i) w w'

theorem tstand_fin {w w' : World} {v1 v2 v3 v4 u1 : Value} {un : Int} (hbt : base ≤ t) (hFt : ¬ F t) (hFl : ∀ i, F i → i < w.heap.size)
    (hb : Blk w t 88 #[.bool s.on, .int .i64 s.ep, .int .i64 s.un, v1, v2, v3, v4]) (H : Own4 (fun i => F i ∨ i = t) w base 3 v1 s.vs v2 s.ys v3 s.ws v4 s.ts) (C : Chg (fun _ => False) w w') (ho : OwnI w' w.heap.size 3 u1 vs) :
    TStand w base F t { s with on := true, ep := ep, un := un, vs := vs, ys := [] } (.returned (.int .i64 0)) (((((w'.setCell ⟨t, 0, none⟩ (.bool true)).setCell ⟨t, 1, none⟩ (.int .i64 ep)).setCell ⟨t, 2, none⟩ (.int .i64 un)).setCell ⟨t, 3, none⟩ u1).setCell ⟨t, 4, none⟩ (.slice none 0 0)) := by
  have hb' := hb.chg C (fun h => h)
  have c1 : Chg (fun i => i = t) w' (((((w'.setCell ⟨t, 0, none⟩ (.bool true)).setCell ⟨t, 1, none⟩ (.int .i64 ep)).setCell ⟨t, 2, none⟩ (.int .i64 un)).setCell ⟨t, 3, none⟩ u1).setCell ⟨t, 4, none⟩ (.slice none 0 0)) :=
    Chg.setCell (S := fun i => i = t) (Chg.setCell (S := fun i => i = t) (Chg.setCell (S := fun i => i = t) (Chg.setCell (S := fun i => i = t) (Chg.setCell (S := fun i => i = t) (Chg.refl _ w') (p := ⟨t, 0, none⟩) (.inl rfl) _) (p := ⟨t, 1, none⟩) (.inl rfl) _) (p := ⟨t, 2, none⟩) (.inl rfl) _) (p := ⟨t, 3, none⟩) (.inl rfl) _) (p := ⟨t, 4, none⟩) (.inl rfl) _
  have hGl : ∀ i, (F i ∨ i = t) → i < w.heap.size := fun i hi => hi.elim (hFl i) (fun e => e ▸ hb.lt)
  have hbw : base ≤ w.heap.size := Nat.le_of_lt (Nat.lt_of_le_of_lt hbt hb.lt)
  have H1 := H.put hGl (C.mono (fun _ h => h.elim)) (OwnI.low ho hbw) (fun g hg => .inr (ho.base_le hg))
  have H2 := H1.rot.put (ys := []) (v' := .slice none 0 0) (fun i hi => Nat.lt_of_lt_of_le (hGl i hi) C.size) (Chg.refl _ _) (OwnI.nil _ _ _) (fun g hg => by cases hg)
  refine ⟨rfl, ⟨⟨u1, .slice none 0 0, v3, v4, ?_, H2.rot.rot.rot.far (c1.mono (fun _ => .inr))⟩, hbt, hFt, fun i hi => Nat.lt_of_lt_of_le (hFl i hi) (Nat.le_trans C.size c1.size)⟩, ?_⟩
  · have := ((((hb'.set_ 0 (.bool true)).set_ 1 (.int .i64 ep)).set_ 2 (.int .i64 un)).set_ 3 u1).set_ 4 (.slice none 0 0)
    simpa using this
  · exact (C.mono (fun _ h => h.elim)).trans (c1.mono (fun i hi => by subst hi; exact ⟨hFt, hbt⟩))
end
end Go.Proofs.Ytgmekeeemimnpaa
