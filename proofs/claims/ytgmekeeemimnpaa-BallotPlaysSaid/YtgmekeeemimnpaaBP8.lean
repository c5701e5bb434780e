/- Layer 15's twin, walked: a vote that counts. -/
import Derived.Test.YtgmekeeemimnpaaBP6
import Derived.Deep.RegionHeld3
namespace Go.Proofs.Ytgmekeeemimnpaa
open Go Go.Maps Go.MapKept Go.RowKit

/-- What a vote that counts leaves. -/
def TAck (w : World) (base : Nat) (F : Nat → Prop) (t : Nat) (s : TwSt) (won : Bool) (e : Ending) (w' : World) : Prop :=
  e = .returned (.bool won) ∧ Twin w' base F t s ∧ Chg (fun i => ¬ F i ∧ base ≤ i) w w'
section
variable {base t : Nat} {F : Nat → Prop} {s : TwSt} {m : Nat} {A : Option Addr} {n c : Nat} {how ep id now : Int}
theorem Own4.app2 {G : Nat → Prop} {w w' wc : World} {base e : Nat} {v1 v2 v3 v4 v' : Value} {x1 x2 x3 x4 ys : List Int} (h : Own4 G w base e v1 x1 v2 x2 v3 x3 v4 x4) (hG : ∀ i, G i → i < w.heap.size) (hc : Chg (fun _ => False) w wc) (ho : OwnI w' base e v' ys) (hg : wc.grownBy w' v2.ownBlock) (hl : v'.ownBlock = v2.ownBlock ∨ v'.ownBlock = some wc.heap.size) :
    Own4 G w' base e v1 x1 v' ys v3 x3 v4 x4 ∧ Chg (fun i => ¬ G i ∧ base ≤ i) w w' := by
  obtain ⟨a, b⟩ := h.rot.app1 hG hc ho hg hl
  exact ⟨a.rot.rot.rot, b⟩
theorem tack_fin {w w' : World} {v1 v2 v3 v4 u2 : Value} (hbt : base ≤ t) (hFt : ¬ F t) (hFl : ∀ i, F i → i < w.heap.size)
    (hb : Blk w t 88 #[.bool s.on, .int .i64 s.ep, .int .i64 s.un, v1, v2, v3, v4]) (C : Chg (fun i => ¬ (F i ∨ i = t) ∧ base ≤ i) w w') (H : Own4 (fun i => F i ∨ i = t) w' base 3 v1 s.vs u2 (s.ys ++ [id]) v3 s.ws v4 s.ts) {W : World} (hW : Chg (fun _ => False) (w'.setCell ⟨t, 4, none⟩ u2) W) :
    Twin W base F t { s with ys := s.ys ++ [id] } ∧ Chg (fun i => ¬ F i ∧ base ≤ i) w W := by
  have hb' := hb.chg C (fun h => h.1 (.inr rfl))
  have c1 : Chg (fun i => i = t) w' (w'.setCell ⟨t, 4, none⟩ u2) := Chg.setCell (S := fun i => i = t) (Chg.refl _ w') (p := ⟨t, 4, none⟩) (.inl rfl) _
  refine ⟨Twin.new ⟨⟨v1, u2, v3, v4, ?_, H.far (c1.mono (fun _ => .inr))⟩, hbt, hFt, fun i hi => Nat.lt_of_lt_of_le (hFl i hi) (Nat.le_trans C.size c1.size)⟩ hW, ?_⟩
  · have := hb'.set_ 4 u2
    simpa using this
  · exact ((C.mono (fun i hi => ⟨fun h => hi.1 (.inl h), hi.2⟩)).trans (c1.mono (fun i hi => by subst hi; exact ⟨hFt, hbt⟩))).trans (hW.mono (fun _ h => h.elim))
theorem tack_off {w W : World} (h : Twin W base F t s ∧ Chg (fun i => ¬ F i ∧ base ≤ i) w W) : Twin (W.setCell ⟨t, 0, none⟩ (.bool false)) base F t { s with on := false } ∧ Chg (fun i => ¬ F i ∧ base ≤ i) w (W.setCell ⟨t, 0, none⟩ (.bool false)) := by
  obtain ⟨⟨⟨v1, v2, v3, v4, hb, ho⟩, h1, h2, h3⟩, hc⟩ := h
  have c1 : Chg (fun i => i = t) W (W.setCell ⟨t, 0, none⟩ (.bool false)) := Chg.setCell (S := fun i => i = t) (Chg.refl _ W) (p := ⟨t, 0, none⟩) (.inl rfl) _
  refine ⟨⟨⟨v1, v2, v3, v4, ?_, ho.far (c1.mono (fun _ => .inr))⟩, h1, h2, fun i hi => Nat.lt_of_lt_of_le (h3 i hi) c1.size⟩, hc.trans (c1.mono (fun i hi => by subst hi; exact ⟨h2, h1⟩))⟩
  have := hb.set_ 0 (.bool false)
  simpa using this

set_option maxRecDepth 100000 in
set_option maxHeartbeats 8000000 in
theorem tack_yes (w : World) (h : Twin w base F t s) (hs : TwOk s m) (hm : m ≤ 1000) (ha : ackT s ep id now = true) (hid : okI id) (won : Bool) (hwon : decide (s.vs.length < 2 * (s.ys.length + 1)) = won) :
    Calls Try.prog 78 #[.pointer (some ⟨t, 0, none⟩), .agg #[.int .i64 how, .int .i64 ep, .int .i64 id, .int .i64 now, .slice A n c]] w (TAck w base F t { s with ys := s.ys ++ [id], on := !won } won) := by
  obtain ⟨i0, hi, hz0, hz1', hz2'⟩ := info_parts infoIntB
  obtain ⟨wB, hwB⟩ : ∃ wB, wB = w.alloc (.cells #[.int .i64 how, .int .i64 ep, .int .i64 id, .int .i64 now, .slice A n c] 90) := ⟨_, rfl⟩
  have tB : Blk wB w.heap.size 90 #[.int .i64 how, .int .i64 ep, .int .i64 id, .int .i64 now, .slice A n c] := by rw [hwB]; exact Blk.new w _ _
  have CB : Hid (Chg (fun _ => False) w wB) := hideIt (by rw [hwB]; exact (Chg.refl _ w).alloc _)
  obtain ⟨⟨v1, v2, v3, v4, hb, ho⟩, hbt, hFt, hFl⟩ := h
  obtain ⟨A1, k1, rfl, -, -, -⟩ := ho.o1.slice
  obtain ⟨A2, k2, rfl, -, -, -⟩ := ho.o2.slice
  have I1 := (ho.o1.ints hs.vs_ok rfl).new CB.out
  have I2 := (ho.o2.ints hs.ys_ok rfl).new CB.out
  have vl := hs.vl
  have yl := hs.yl
  obtain ⟨n1, hn1⟩ : ∃ n, s.vs.length = n := ⟨_, rfl⟩
  obtain ⟨n2, hn2⟩ : ∃ n, s.ys.length = n := ⟨_, rfl⟩
  obtain ⟨un, hun⟩ : ∃ un, s.un = un := ⟨_, rfl⟩
  obtain ⟨sep, hsep⟩ : ∃ sep, s.ep = sep := ⟨_, rfl⟩
  unfold ackT at ha
  simp only [Bool.and_eq_true, decide_eq_true_eq, Bool.not_eq_true', decide_eq_false_iff_not] at ha
  obtain ⟨hon, q1, q2, q3, q4⟩ := ha
  rw [hn1] at hb ho I1 vl hwon
  rw [hn2] at hb ho I2 yl hwon
  have hbB := hb.chg CB.out (fun h => h)
  rw [hon, hun, hsep] at hbB
  rw [hun] at q1
  rw [hsep] at q2
  have e0 : wB.cell? ⟨t, 0, none⟩ = some (.bool true) := hbB.cell 0
  have e1 : wB.cell? ⟨t, 1, none⟩ = some (.int .i64 sep) := hbB.cell 1
  have e2 : wB.cell? ⟨t, 2, none⟩ = some (.int .i64 un) := hbB.cell 2
  have e3 : wB.cell? ⟨t, 3, none⟩ = some (.slice A1 n1 k1) := hbB.cell 3
  have e4 : wB.cell? ⟨t, 4, none⟩ = some (.slice A2 n2 k2) := hbB.cell 4
  have f1 : wB.cell? ⟨w.heap.size, 1, none⟩ = some (.int .i64 ep) := tB.cell 1
  have f2 : wB.cell? ⟨w.heap.size, 2, none⟩ = some (.int .i64 id) := tB.cell 2
  have f3 : wB.cell? ⟨w.heap.size, 3, none⟩ = some (.int .i64 now) := tB.cell 3
  have HI1 := hideIt I1
  have HI2 := hideIt I2
  have HB := hideIt hwB
  have HBk := hideIt hb
  have HO := hideIt ho
  have HF := hideIt hFt
  have HFL := hideIt hFl
  have HBT := hideIt hbt
  have HTB := hideIt tB
  have HON := hideIt hon
  have HN2 := hideIt hn2
  have HWON := hideIt hwon
  have HGl := hideIt (show ∀ i, (F i ∨ i = t) → i < w.heap.size from fun i hi => hi.elim (hFl i) (fun e => e ▸ hb.lt))
  have d1 : decide (un < now) = false := by simp; omega
  have d2 : (ep != sep) = false := by simpa using q2
  have d3 : decide (id ∈ s.vs) = true := by simpa using q3
  have d4 : decide (id ∈ s.ys) = false := by simpa using q4
  have HT := hb.lt
  clear hb ho hs I1 I2 hn1 hn2 hun hsep hon hbB tB hwB q1 q2 q3 q4 hwon hbt hFt hFl
  go_enter Try.func78, Try.ntmps78
  go_wp2_with fail
  rw [← HB.out]
  go_quiet ((go_at_call 82; exact Calls.quiet_of_same ((has15_calls _ _ (by first | exact HI1.out.drewN _ | exact HI2.out.drewN _) (by omega)).mono fun _ _ h => ⟨h.1, h.2.symm⟩)))
  go_wp2
  have KB : Hid (Chg (fun _ => False) wB (wB.drewN nq)) := hideIt ((Chg.refl _ wB).drewN nq)
  generalize wB.drewN nq = W at *
  clear e0 e1 e2 e3 e4 f1 f2 f3 d1 d2 d3 d4
  have C1 : Hid (Chg (fun _ => False) w W) := hideIt (CB.out.trans KB.out)
  have tW := HTB.out.chg KB.out (fun h => h)
  have f2 : W.cell? ⟨w.heap.size, 2, none⟩ = some (.int .i64 id) := tW.cell 2
  have T2 := HBk.out.chg C1.out (fun h => h)
  have e4 : W.cell? ⟨t, 4, none⟩ = some (.slice A2 n2 k2) := T2.cell 4
  have hz1 : w.heap.size < W.heap.size := tW.lt
  have hz2 : t < W.heap.size := by omega
  have N1 : s.ys.length + 1 ≤ 17592186043904 := by rw [HN2.out]; omega
  have HL := HO.out.new C1.out
  have La : Ints (W.drew.alloc (.cells #[.int .i64 id] 3)) (some ⟨W.heap.size, 0, none⟩) 1 [id] := Ints.one W.drew 3 id hid
  have HO2 := hideIt HL
  have C0 := hideIt (((Chg.refl (fun _ => False) W).drew).alloc (.cells #[.int .i64 id] 3))
  have O2 := (HL.new C0.out).o2
  have B0 : base ≤ (W.drew.alloc (.cells #[.int .i64 id] 3)).heap.size := by have := HBT.out; simp; omega
  clear tW T2 HL
  go_region_law (first
    | (refine step_append_ints (v := .slice A2 n2 k2) (xs := s.ys) rfl _ _ 25 rfl i0 _ Try.underlying25 hi hz0 hz1' hz2' rfl rfl O2 rfl La N1 B0 ?_; intro v5 w5 o5 g5 q5; obtain ⟨A5, k5, e5, -, -, -⟩ := o5.slice; obtain ⟨n5, hn5⟩ : ∃ n, (s.ys ++ [id]).length = n := ⟨_, rfl⟩; rw [hn5] at e5; subst e5; have HN6 : Hid (n5 = n2 + 1) := hideIt (by rw [← hn5, ← HN2.out]; simp); clear hn5; have HD5 : Hid (decide ((n1 : Int) < 2 * (n5 : Int)) = won) := hideIt (by rw [← HWON.out, decide_eq_decide]; have := HN6.out; omega); have A5' := hideIt (HO2.out.app2 (fun i hi => Nat.lt_of_lt_of_le (HGl.out i hi) C1.out.size) C0.out o5 g5 q5); have C5 := hideIt ((C1.out.mono (fun _ h => h.elim)).trans A5'.out.2); have T5 := HBk.out.chg C5.out (fun h => h.1 (.inr rfl)); have y0 : w5.cell? ⟨t, 0, none⟩ = some (.bool s.on) := T5.cell 0; have y3 : w5.cell? ⟨t, 3, none⟩ = some (.slice A1 n1 k1) := T5.cell 3; have y4 : w5.cell? ⟨t, 4, none⟩ = some (.slice A2 n2 k2) := T5.cell 4; have x0 := T5.frozen 0; have x4 := T5.frozen 4; clear T5 o5 g5 q5))
  all_goals
    go_wp2_with fail
    have hm2 : IntKind.i64.wrap (2 * (n5 : Int)) = 2 * n5 := IntWalk.i64_in _ (by have := HN6.out; omega)
    cases won with
    | true =>
      have hd : decide ((n1 : Int) < 2 * (n5 : Int)) = true := HD5.out
      go_quiet (fail)
      go_wp2
      go_ret
      have R := tack_fin HBT.out HF.out HFL.out HBk.out C5.out A5'.out.1 ((Chg.refl (fun _ => False) (w5.setCell ⟨t, 4, none⟩ (.slice A5 n5 k5))).drewN nq)
      exact ⟨rfl, tack_off R⟩
    | false =>
      have hd : decide ((n1 : Int) < 2 * (n5 : Int)) = false := HD5.out
      go_quiet (fail)
      go_wp2
      go_ret
      have R := tack_fin HBT.out HF.out HFL.out HBk.out C5.out A5'.out.1 ((Chg.refl (fun _ => False) (w5.setCell ⟨t, 4, none⟩ (.slice A5 n5 k5))).drewN nq)
      have e : ({ s with ys := s.ys ++ [id], on := !false } : TwSt) = { s with ys := s.ys ++ [id] } := by rw [Bool.not_false, ← HON.out]
      rw [e]
      exact ⟨rfl, R⟩
end
end Go.Proofs.Ytgmekeeemimnpaa
