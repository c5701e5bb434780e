/- The statements' own step (layer 9), walked. (Printed by wip/gen/wstep.py.) -/
import Derived.Test.YtgmekeeemimnpaaWPl1
namespace Go.Proofs.Ytgmekeeemimnpaa
open Go Go.Maps Go.MapKept Go.RowKit

/-- What a step answers: the list behind it, in the old slice or in a new one; an error's number. -/
def StepIs (w : World) (l : List DPeer) (a : ActW) (A : Option Addr) (e : Ending) (w' : World) : Prop :=
  ∃ A' n' c', e = .returned (.tuple #[.slice A' n' c', .int .i64 (stepD l a).2]) ∧ RecsD w' A' n' (stepD l a).1 ∧ n' ≤ c' ∧ Chg (fun _ => False) w w' ∧ (A' = A ∨ ∀ b off, A' = some ⟨b, off, none⟩ → w.heap.size ≤ b ∧ b < w'.heap.size)
theorem stepIs_same {w w' : World} {l : List DPeer} {a : ActW} {A : Option Addr} {n c : Nat} {r : Int} (hs : stepD l a = (l, r)) (hl : RecsD w A n l) (hnc : n ≤ c) (hc : Chg (fun _ => False) w w') : StepIs w l a A (.returned (.tuple #[.slice A n c, .int .i64 r])) w' :=
  ⟨A, n, c, by rw [hs], by rw [hs]; exact hl.new hc, hnc, hc, .inl rfl⟩
theorem stepIs_new {w w' : World} {l l' : List DPeer} {a : ActW} {A : Option Addr} {base : Nat} {v : Value} {r : Int} (hs : stepD l a = (l', r)) (hb : w.heap.size ≤ base) (ho : OwnR encD 4 w' base 153 v l') (hc : Chg (fun _ => False) w w') : StepIs w l a A (.returned (.tuple #[v, .int .i64 r])) w' := by
  have hlt := fun g h => ho.lt (g := g) h
  obtain ⟨A', c', rfl, h1, h2, h3, _⟩ := ho.slice
  exact ⟨A', _, c', by rw [hs], by rw [hs]; exact ho.recs encD_len rfl, h1, hc, .inr fun b off e => ⟨Nat.le_trans hb (h3 b off e), hlt b (by rw [e]; rfl)⟩⟩
theorem pos_lt_of_in {l : List DPeer} {id : Int} (h : inD l id = true) : pos l id < l.length := by
  rw [inD_eq (d := d0P)] at h
  simp only [Bool.and_eq_true, decide_eq_true_eq] at h
  exact h.1
theorem max_if3 (a b : Int) : (if a < b then b else a) = max a b := by omega

set_option maxRecDepth 100000 in
set_option maxHeartbeats 8000000 in
theorem step_2n {A : Option Addr} {n c : Nat} {l : List DPeer} {x y z : Int} (w : World) (hl : RecsD w A n l) (hnc : n ≤ c) (hn : n ≤ 16) (_oy : okI y) (oz : okI z) (hx : x = 2) (hi : inD l y = false) :
    Calls Try.prog 75 #[.slice A n c, .agg #[.int .i64 x, .int .i64 y, .int .i64 z]] w (StepIs w l (x, y, z) A) := by
  obtain ⟨wB, hwB⟩ : ∃ wB, wB = w.alloc (.cells #[.int .i64 x, .int .i64 y, .int .i64 z] 54) := ⟨_, rfl⟩
  have tB : Hid (Blk wB w.heap.size 54 #[.int .i64 x, .int .i64 y, .int .i64 z]) := hideIt (by rw [hwB]; exact Blk.new w _ _)
  have CB : Hid (Chg (fun _ => False) w wB) := hideIt (by rw [hwB]; exact (Chg.refl _ w).alloc _)
  have SB : Hid (w.heap.size < wB.heap.size) := hideIt (by rw [hwB]; simp)
  have HB := hideIt hwB
  have HLN := hideIt hl.len
  have hpl := place_calls (c := c) y wB (hl.new CB.out) (by omega)
  have HL := hideIt hl
  obtain ⟨oz1, oz2⟩ := okI_iff.1 oz
  have HS := hideIt (show stepD l (x, y, z) = (l, 0) by rw [hx, stepD_2, hi]; simp)
  rw [hi] at hpl
  have d2 : (x == 2) = true := by simpa using hx
  clear hi hx
  have HPL := hideIt hpl
  clear hwB hl hpl
  go_enter Try.func75, Try.ntmps75
  go_wp2_with (first
    | (go_at_call 111; rw [← HB.out]; refine HPL.out.mono ?_; rintro e w1 ⟨rfl, k1⟩; have t1 := tB.out.chg k1 (fun h => h); have e0 : w1.cell? ⟨w.heap.size, 0, none⟩ = some (.int .i64 x) := t1.cell 0; have e1 : w1.cell? ⟨w.heap.size, 1, none⟩ = some (.int .i64 y) := t1.cell 1; have e2 : w1.cell? ⟨w.heap.size, 2, none⟩ = some (.int .i64 z) := t1.cell 2; have C1 := hideIt (CB.out.trans k1); have l1 := hideIt (HL.out.new C1.out); have hz1 : w.heap.size < w1.heap.size := Nat.lt_of_lt_of_le SB.out k1.size; clear t1))
  go_ret2
  exact stepIs_same HS.out HL.out hnc C1.out

set_option maxRecDepth 100000 in
set_option maxHeartbeats 8000000 in
theorem step_2y {A : Option Addr} {n c : Nat} {l : List DPeer} {x y z : Int} (w : World) (hl : RecsD w A n l) (hnc : n ≤ c) (hn : n ≤ 16) (_oy : okI y) (oz : okI z) (hx : x = 2) (hi : inD l y = true) :
    Calls Try.prog 75 #[.slice A n c, .agg #[.int .i64 x, .int .i64 y, .int .i64 z]] w (StepIs w l (x, y, z) A) := by
  obtain ⟨wB, hwB⟩ : ∃ wB, wB = w.alloc (.cells #[.int .i64 x, .int .i64 y, .int .i64 z] 54) := ⟨_, rfl⟩
  have tB : Hid (Blk wB w.heap.size 54 #[.int .i64 x, .int .i64 y, .int .i64 z]) := hideIt (by rw [hwB]; exact Blk.new w _ _)
  have CB : Hid (Chg (fun _ => False) w wB) := hideIt (by rw [hwB]; exact (Chg.refl _ w).alloc _)
  have SB : Hid (w.heap.size < wB.heap.size) := hideIt (by rw [hwB]; simp)
  have HB := hideIt hwB
  have HLN := hideIt hl.len
  have hpl := place_calls (c := c) y wB (hl.new CB.out) (by omega)
  have HL := hideIt hl
  obtain ⟨oz1, oz2⟩ := okI_iff.1 oz
  have hpl2 := pos_lt_of_in hi
  have hln := hl.len
  have HS := hideIt (show stepD l (x, y, z) = (l.take (pos l y) ++ l.drop (pos l y + 1), 1) by rw [hx, stepD_2, hi]; simp)
  rw [hi] at hpl
  obtain ⟨k, hk⟩ : ∃ k, pos l y = k := ⟨_, rfl⟩
  rw [hk] at hpl hpl2 HS
  have hkn : k < n := by omega
  have d2 : (x == 2) = true := by simpa using hx
  have hcf := fun W => run_cutK_from (K := 4) Try.underlying80 sizeD W A n c (k + 1) (by omega)
  have hct := fun W => run_cutK_to (K := 4) Try.underlying80 sizeD W A n c k (by omega)
  have hcast : (((k + 1 : Nat) : Int)) = (k : Int) + 1 := by omega
  simp only [hcast] at hcf
  have hsum : IntKind.i64.wrap ((k : Int) + 1) = (k : Int) + 1 := IntWalk.i64_in _ (by omega)
  clear hi hx hk hpl2 hln hcast
  have HPL := hideIt hpl
  clear hwB hl hpl
  go_enter Try.func75, Try.ntmps75
  go_wp2_with (first
    | (go_at_call 111; rw [← HB.out]; refine HPL.out.mono ?_; rintro e w1 ⟨rfl, k1⟩; have t1 := tB.out.chg k1 (fun h => h); have e0 : w1.cell? ⟨w.heap.size, 0, none⟩ = some (.int .i64 x) := t1.cell 0; have e1 : w1.cell? ⟨w.heap.size, 1, none⟩ = some (.int .i64 y) := t1.cell 1; have e2 : w1.cell? ⟨w.heap.size, 2, none⟩ = some (.int .i64 z) := t1.cell 2; have C1 := hideIt (CB.out.trans k1); have l1 := hideIt (HL.out.new C1.out); have hz1 : w.heap.size < w1.heap.size := Nat.lt_of_lt_of_le SB.out k1.size; clear t1))
  have tok1 : True := trivial
  have o1 : OwnR encD 4 ((w1.drew).alloc (.cells #[] 153)) (w.heap.size + 1) 153 (.slice (some ⟨w1.heap.size, 0, none⟩) 0 0) [] := OwnR.empty w1.drew _ _ (by simp; omega)
  have K1 := hideIt (((Chg.refl (fun _ => False) w1).drew).alloc (.cells #[] 153))
  have N1 : ([] : List DPeer).length + k ≤ 1000000000 := by simp; omega
  have N2 : ([] ++ l.take k).length + (n - (k + 1)) ≤ 1000000000 := by simp; omega
  have B1 : w.heap.size + 1 ≤ ((w1.drew).alloc (.cells #[] 153)).heap.size := by simp; omega
  go_region_law (first
    | (have _t := tok1; refine step_append_recs (bytes := 32) rfl _ _ 80 rfl recD encD_len encD_one rfl o1 rfl ((l1.out.new K1.out).take (by omega)) N1 (by omega) B1 ?_; intro v2 w2 o2 g2 _; clear tok1; have K2 := hideIt (K1.out.grown g2 (fun i e => .inr (by cases e; exact Nat.le_refl _)) : Chg (fun _ => False) w1 w2); have B2 : w.heap.size + 1 ≤ w2.heap.size := Nat.le_trans B1 g2.size; have O2 := hideIt o2; clear g2 o1)
    | (refine step_append_recs (bytes := 32) rfl _ _ 80 rfl recD encD_len encD_one rfl O2.out rfl ((l1.out.new K2.out).drop (k := k + 1) (by omega) hnc) N2 (by omega) B2 ?_; intro v3 w3 o3 g3 _))
  go_wp2
  go_ret2
  exact stepIs_new (v := v3) HS.out (Nat.le_succ _) (by simpa using o3) ((C1.out.trans K2.out).grown g3 (fun i e => .inr (Nat.le_trans (Nat.le_succ _) (O2.out.base_le e))))

set_option maxRecDepth 100000 in
set_option maxHeartbeats 8000000 in
theorem step_10 {A : Option Addr} {n c : Nat} {l : List DPeer} {x y z : Int} (w : World) (hl : RecsD w A n l) (hnc : n ≤ c) (hn : n ≤ 16) (_oy : okI y) (oz : okI z) (hx : ¬ x = 2) (hr : rightW y z = false) :
    Calls Try.prog 75 #[.slice A n c, .agg #[.int .i64 x, .int .i64 y, .int .i64 z]] w (StepIs w l (x, y, z) A) := by
  obtain ⟨wB, hwB⟩ : ∃ wB, wB = w.alloc (.cells #[.int .i64 x, .int .i64 y, .int .i64 z] 54) := ⟨_, rfl⟩
  have tB : Hid (Blk wB w.heap.size 54 #[.int .i64 x, .int .i64 y, .int .i64 z]) := hideIt (by rw [hwB]; exact Blk.new w _ _)
  have CB : Hid (Chg (fun _ => False) w wB) := hideIt (by rw [hwB]; exact (Chg.refl _ w).alloc _)
  have SB : Hid (w.heap.size < wB.heap.size) := hideIt (by rw [hwB]; simp)
  have HB := hideIt hwB
  have HLN := hideIt hl.len
  have hpl := place_calls (c := c) y wB (hl.new CB.out) (by omega)
  have HL := hideIt hl
  obtain ⟨oz1, oz2⟩ := okI_iff.1 oz
  have HS := hideIt (show stepD l (x, y, z) = (l, 10) by unfold stepD; rw [if_neg (show ¬ x = 2 from hx), if_pos (show rightW y z = false from hr)])
  have d2 : (x == 2) = false := by simpa using hx
  obtain ⟨bi, hbi⟩ : ∃ bi, inD l y = bi := ⟨_, rfl⟩
  rw [hbi] at hpl
  have hways : y < 1 ∨ y > 4294967296 ∨ z < 0 ∨ z > 1099511627776 := by
    unfold rightW at hr
    simp only [Bool.and_eq_false_iff, decide_eq_false_iff_not] at hr
    omega
  clear hx hr hbi
  have HPL := hideIt hpl
  clear hwB hl hpl
  rcases hways with q | q | q | q
  all_goals
    go_enter Try.func75, Try.ntmps75
    go_wp2_with (first
      | (go_at_call 111; rw [← HB.out]; refine HPL.out.mono ?_; rintro e w1 ⟨rfl, k1⟩; have t1 := tB.out.chg k1 (fun h => h); have e0 : w1.cell? ⟨w.heap.size, 0, none⟩ = some (.int .i64 x) := t1.cell 0; have e1 : w1.cell? ⟨w.heap.size, 1, none⟩ = some (.int .i64 y) := t1.cell 1; have e2 : w1.cell? ⟨w.heap.size, 2, none⟩ = some (.int .i64 z) := t1.cell 2; have C1 := hideIt (CB.out.trans k1); have l1 := hideIt (HL.out.new C1.out); have hz1 : w.heap.size < w1.heap.size := Nat.lt_of_lt_of_le SB.out k1.size; clear t1))
    all_goals go_ret2
    all_goals exact stepIs_same HS.out HL.out hnc C1.out

set_option maxRecDepth 100000 in
set_option maxHeartbeats 8000000 in
theorem step_32 {A : Option Addr} {n c : Nat} {l : List DPeer} {x y z : Int} (w : World) (hl : RecsD w A n l) (hnc : n ≤ c) (hn : n ≤ 16) (_oy : okI y) (oz : okI z) (hr : rightW y z = true) (hx : x = 1) (hi : inD l y = true) :
    Calls Try.prog 75 #[.slice A n c, .agg #[.int .i64 x, .int .i64 y, .int .i64 z]] w (StepIs w l (x, y, z) A) := by
  obtain ⟨wB, hwB⟩ : ∃ wB, wB = w.alloc (.cells #[.int .i64 x, .int .i64 y, .int .i64 z] 54) := ⟨_, rfl⟩
  have tB : Hid (Blk wB w.heap.size 54 #[.int .i64 x, .int .i64 y, .int .i64 z]) := hideIt (by rw [hwB]; exact Blk.new w _ _)
  have CB : Hid (Chg (fun _ => False) w wB) := hideIt (by rw [hwB]; exact (Chg.refl _ w).alloc _)
  have SB : Hid (w.heap.size < wB.heap.size) := hideIt (by rw [hwB]; simp)
  have HB := hideIt hwB
  have HLN := hideIt hl.len
  have hpl := place_calls (c := c) y wB (hl.new CB.out) (by omega)
  have HL := hideIt hl
  obtain ⟨oz1, oz2⟩ := okI_iff.1 oz
  obtain ⟨y1, y2, z1, z2⟩ := rightW_true hr
  have hr' : ¬ rightW y z = false := by rw [hr]; decide
  have HS := hideIt (show stepD l (x, y, z) = (l, 32) by rw [hx, stepD_1, if_neg hr', hi]; simp)
  rw [hi] at hpl
  have d2 : (x == 2) = false := by rw [hx]; decide
  have d1 : (x == 1) = true := by simpa using hx
  clear hi hx hr hr'
  have HPL := hideIt hpl
  clear hwB hl hpl
  go_enter Try.func75, Try.ntmps75
  go_wp2_with (first
    | (go_at_call 111; rw [← HB.out]; refine HPL.out.mono ?_; rintro e w1 ⟨rfl, k1⟩; have t1 := tB.out.chg k1 (fun h => h); have e0 : w1.cell? ⟨w.heap.size, 0, none⟩ = some (.int .i64 x) := t1.cell 0; have e1 : w1.cell? ⟨w.heap.size, 1, none⟩ = some (.int .i64 y) := t1.cell 1; have e2 : w1.cell? ⟨w.heap.size, 2, none⟩ = some (.int .i64 z) := t1.cell 2; have C1 := hideIt (CB.out.trans k1); have l1 := hideIt (HL.out.new C1.out); have hz1 : w.heap.size < w1.heap.size := Nat.lt_of_lt_of_le SB.out k1.size; clear t1)
    | (at_builtin; refine wpList_append_recs (base := w.heap.size + 1) _ rfl _ _ 80 rfl recD encD_len encD_one rfl (OwnR.empty w1 _ _ (by omega)) rfl (l1.out.new ((Chg.refl _ w1).alloc _)) (by simp; omega) (by omega) (by simp; omega) ?_; intro v3 w3 o3 g3 q3; have K3 := hideIt (((Chg.refl (fun _ => False) w1).alloc _).grown g3 (fun i e => .inr (by cases e; exact Nat.le_refl _)) : Chg (fun _ => False) w1 w3); obtain ⟨A3, c3, hv3, hk3, hm3, hb3, _⟩ := o3.slice; have hn3 : ([] ++ l).length = n := HLN.out; rw [hn3] at hv3; rw [hv3]; rw [hv3] at o3 q3; have hA3 : Hid (∃ b, A3 = some b) := hideIt (own_some q3); have O3 := hideIt o3; have t3 := (tB.out.chg k1 (fun h => h)).chg K3.out (fun h => h); have f0 : w3.cell? ⟨w.heap.size, 0, none⟩ = some (.int .i64 x) := t3.cell 0; have f1 : w3.cell? ⟨w.heap.size, 1, none⟩ = some (.int .i64 y) := t3.cell 1; have f2 : w3.cell? ⟨w.heap.size, 2, none⟩ = some (.int .i64 z) := t3.cell 2; clear o3 g3 q3 hv3 t3 hn3))
  go_ret2
  exact stepIs_same HS.out HL.out hnc (C1.out.trans K3.out)

set_option maxRecDepth 100000 in
set_option maxHeartbeats 8000000 in
theorem step_31 {A : Option Addr} {n c : Nat} {l : List DPeer} {x y z : Int} (w : World) (hl : RecsD w A n l) (hnc : n ≤ c) (hn : n ≤ 16) (_oy : okI y) (oz : okI z) (hr : rightW y z = true) (hx : x = 1) (hi : inD l y = false) (h16 : n = 16) :
    Calls Try.prog 75 #[.slice A n c, .agg #[.int .i64 x, .int .i64 y, .int .i64 z]] w (StepIs w l (x, y, z) A) := by
  obtain ⟨wB, hwB⟩ : ∃ wB, wB = w.alloc (.cells #[.int .i64 x, .int .i64 y, .int .i64 z] 54) := ⟨_, rfl⟩
  have tB : Hid (Blk wB w.heap.size 54 #[.int .i64 x, .int .i64 y, .int .i64 z]) := hideIt (by rw [hwB]; exact Blk.new w _ _)
  have CB : Hid (Chg (fun _ => False) w wB) := hideIt (by rw [hwB]; exact (Chg.refl _ w).alloc _)
  have SB : Hid (w.heap.size < wB.heap.size) := hideIt (by rw [hwB]; simp)
  have HB := hideIt hwB
  have HLN := hideIt hl.len
  have hpl := place_calls (c := c) y wB (hl.new CB.out) (by omega)
  have HL := hideIt hl
  obtain ⟨oz1, oz2⟩ := okI_iff.1 oz
  obtain ⟨y1, y2, z1, z2⟩ := rightW_true hr
  have hr' : ¬ rightW y z = false := by rw [hr]; decide
  have hl16 : l.length = 16 := by rw [hl.len]; exact h16
  have HS := hideIt (show stepD l (x, y, z) = (l, 31) by rw [hx, stepD_1, if_neg hr', hi, if_neg (by decide), if_pos hl16])
  rw [hi] at hpl
  have d2 : (x == 2) = false := by rw [hx]; decide
  have d1 : (x == 1) = true := by simpa using hx
  have d16 : ((n : Int) == 16) = true := by simp; omega
  clear hi hx hr hr' h16 hl16
  have HPL := hideIt hpl
  clear hwB hl hpl
  go_enter Try.func75, Try.ntmps75
  go_wp2_with (first
    | (go_at_call 111; rw [← HB.out]; refine HPL.out.mono ?_; rintro e w1 ⟨rfl, k1⟩; have t1 := tB.out.chg k1 (fun h => h); have e0 : w1.cell? ⟨w.heap.size, 0, none⟩ = some (.int .i64 x) := t1.cell 0; have e1 : w1.cell? ⟨w.heap.size, 1, none⟩ = some (.int .i64 y) := t1.cell 1; have e2 : w1.cell? ⟨w.heap.size, 2, none⟩ = some (.int .i64 z) := t1.cell 2; have C1 := hideIt (CB.out.trans k1); have l1 := hideIt (HL.out.new C1.out); have hz1 : w.heap.size < w1.heap.size := Nat.lt_of_lt_of_le SB.out k1.size; clear t1)
    | (at_builtin; refine wpList_append_recs (base := w.heap.size + 1) _ rfl _ _ 80 rfl recD encD_len encD_one rfl (OwnR.empty w1 _ _ (by omega)) rfl (l1.out.new ((Chg.refl _ w1).alloc _)) (by simp; omega) (by omega) (by simp; omega) ?_; intro v3 w3 o3 g3 q3; have K3 := hideIt (((Chg.refl (fun _ => False) w1).alloc _).grown g3 (fun i e => .inr (by cases e; exact Nat.le_refl _)) : Chg (fun _ => False) w1 w3); obtain ⟨A3, c3, hv3, hk3, hm3, hb3, _⟩ := o3.slice; have hn3 : ([] ++ l).length = n := HLN.out; rw [hn3] at hv3; rw [hv3]; rw [hv3] at o3 q3; have hA3 : Hid (∃ b, A3 = some b) := hideIt (own_some q3); have O3 := hideIt o3; have t3 := (tB.out.chg k1 (fun h => h)).chg K3.out (fun h => h); have f0 : w3.cell? ⟨w.heap.size, 0, none⟩ = some (.int .i64 x) := t3.cell 0; have f1 : w3.cell? ⟨w.heap.size, 1, none⟩ = some (.int .i64 y) := t3.cell 1; have f2 : w3.cell? ⟨w.heap.size, 2, none⟩ = some (.int .i64 z) := t3.cell 2; clear o3 g3 q3 hv3 t3 hn3))
  go_ret2
  exact stepIs_same HS.out HL.out hnc (C1.out.trans K3.out)

set_option maxRecDepth 100000 in
set_option maxHeartbeats 8000000 in
theorem step_ins {A : Option Addr} {n c : Nat} {l : List DPeer} {x y z : Int} (w : World) (hl : RecsD w A n l) (hnc : n ≤ c) (hn : n ≤ 16) (_oy : okI y) (oz : okI z) (hr : rightW y z = true) (hx : x = 1) (hi : inD l y = false) (h16 : ¬ n = 16) :
    Calls Try.prog 75 #[.slice A n c, .agg #[.int .i64 x, .int .i64 y, .int .i64 z]] w (StepIs w l (x, y, z) A) := by
  obtain ⟨wB, hwB⟩ : ∃ wB, wB = w.alloc (.cells #[.int .i64 x, .int .i64 y, .int .i64 z] 54) := ⟨_, rfl⟩
  have tB : Hid (Blk wB w.heap.size 54 #[.int .i64 x, .int .i64 y, .int .i64 z]) := hideIt (by rw [hwB]; exact Blk.new w _ _)
  have CB : Hid (Chg (fun _ => False) w wB) := hideIt (by rw [hwB]; exact (Chg.refl _ w).alloc _)
  have SB : Hid (w.heap.size < wB.heap.size) := hideIt (by rw [hwB]; simp)
  have HB := hideIt hwB
  have HLN := hideIt hl.len
  have hpl := place_calls (c := c) y wB (hl.new CB.out) (by omega)
  have HL := hideIt hl
  obtain ⟨oz1, oz2⟩ := okI_iff.1 oz
  obtain ⟨y1, y2, z1, z2⟩ := rightW_true hr
  have hr' : ¬ rightW y z = false := by rw [hr]; decide
  have hln := hl.len
  have HS := hideIt (show stepD l (x, y, z) = (l.take (pos l y) ++ [(y, 0, z, false)] ++ l.drop (pos l y), 0) by rw [hx, stepD_1, if_neg hr', hi, if_neg (by decide), if_neg (by rw [hln]; exact h16)])
  rw [hi] at hpl
  have hkn := pos_le l y
  rw [hln] at hkn
  obtain ⟨k, hk⟩ : ∃ k, pos l y = k := ⟨_, rfl⟩
  rw [hk] at hpl hkn HS
  have d2 : (x == 2) = false := by rw [hx]; decide
  have d1 : (x == 1) = true := by simpa using hx
  have d16 : ((n : Int) == 16) = false := by simp; omega
  have hcf := fun W => run_cutK_from (K := 4) Try.underlying80 sizeD W A n c k (by omega)
  clear hi hx hr hr' h16 hk hln
  have HPL := hideIt hpl
  clear hwB hl hpl
  go_enter Try.func75, Try.ntmps75
  go_wp2_with (first
    | (go_at_call 111; rw [← HB.out]; refine HPL.out.mono ?_; rintro e w1 ⟨rfl, k1⟩; have t1 := tB.out.chg k1 (fun h => h); have e0 : w1.cell? ⟨w.heap.size, 0, none⟩ = some (.int .i64 x) := t1.cell 0; have e1 : w1.cell? ⟨w.heap.size, 1, none⟩ = some (.int .i64 y) := t1.cell 1; have e2 : w1.cell? ⟨w.heap.size, 2, none⟩ = some (.int .i64 z) := t1.cell 2; have C1 := hideIt (CB.out.trans k1); have l1 := hideIt (HL.out.new C1.out); have hz1 : w.heap.size < w1.heap.size := Nat.lt_of_lt_of_le SB.out k1.size; clear t1)
    | (at_builtin; refine wpList_append_recs (base := w.heap.size + 1) _ rfl _ _ 80 rfl recD encD_len encD_one rfl (OwnR.empty w1 _ _ (by omega)) rfl (l1.out.new ((Chg.refl _ w1).alloc _)) (by simp; omega) (by omega) (by simp; omega) ?_; intro v3 w3 o3 g3 q3; have K3 := hideIt (((Chg.refl (fun _ => False) w1).alloc _).grown g3 (fun i e => .inr (by cases e; exact Nat.le_refl _)) : Chg (fun _ => False) w1 w3); obtain ⟨A3, c3, hv3, hk3, hm3, hb3, _⟩ := o3.slice; have hn3 : ([] ++ l).length = n := HLN.out; rw [hn3] at hv3; rw [hv3]; rw [hv3] at o3 q3; have hA3 : Hid (∃ b, A3 = some b) := hideIt (own_some q3); have O3 := hideIt o3; have t3 := (tB.out.chg k1 (fun h => h)).chg K3.out (fun h => h); have f0 : w3.cell? ⟨w.heap.size, 0, none⟩ = some (.int .i64 x) := t3.cell 0; have f1 : w3.cell? ⟨w.heap.size, 1, none⟩ = some (.int .i64 y) := t3.cell 1; have f2 : w3.cell? ⟨w.heap.size, 2, none⟩ = some (.int .i64 z) := t3.cell 2; clear o3 g3 q3 hv3 t3 hn3))
  have tok1 : True := trivial
  have hk3' : k ≤ c3 := by have h1 : l.length ≤ c3 := hk3; rw [HLN.out] at h1; omega
  clear hk3
  have R3 := hideIt (OwnR.recs (d := d0P) encD_len O3.out rfl)
  have one := hideIt (fun (W : World) (hW : Chg (fun _ => False) w3 W) => Recs.one4 W y 0 z false)
  have K3d := hideIt (Chg.refl (fun _ => False) w3)
  have l3 := hideIt (l1.out.new K3.out)
  have N1 : k + 1 ≤ 1000000000 := by omega
  have N2 : (([] ++ l).take k ++ [(y, 0, z, false)]).length + (n - k) ≤ 1000000000 := by simp; omega
  have B1 : w.heap.size + 1 ≤ w3.heap.size := Nat.le_trans (by omega) K3.out.size
  go_region_law (first
    | (have _t := tok1; refine step_append_full (bytes := 32) (d := d0P) (ys := [(y, 0, z, false)]) rfl _ _ 80 rfl recD encD_len rfl hA3.out ((R3.out.new (((Chg.refl (fun _ => False) w3).drew).alloc _)).take (by omega)) rfl (Recs.one4 w3.drew y 0 z false) (by omega) N1 (by omega) ?_; intro v4 w4 o4 g4; clear tok1; have K4 := hideIt ((((Chg.refl (fun _ => False) w3).drew).alloc _).grown g4 (fun i e => by cases e) : Chg (fun _ => False) w3 w4); have O4 := hideIt (o4.low (b' := w.heap.size + 1) (by simp; omega)); have B2 : w.heap.size + 1 ≤ w4.heap.size := Nat.le_trans B1 K4.out.size; clear g4 o4)
    | (refine step_append_recs (bytes := 32) rfl _ _ 80 rfl recD encD_len encD_one rfl O4.out rfl ((l3.out.new K4.out).drop (k := k) (by omega) hnc) N2 (by omega) B2 ?_; intro v5 w5 o5 g5 _))
  all_goals go_wp2
  all_goals go_ret2
  all_goals exact stepIs_new (v := v5) HS.out (Nat.le_succ _) (by simpa using o5) (((C1.out.trans K3.out).trans K4.out).grown g5 (fun i e => .inr (Nat.le_trans (Nat.le_succ _) (O4.out.base_le e))))

set_option maxRecDepth 100000 in
set_option maxHeartbeats 8000000 in
theorem step_3n {A : Option Addr} {n c : Nat} {l : List DPeer} {x y z : Int} (w : World) (hl : RecsD w A n l) (hnc : n ≤ c) (hn : n ≤ 16) (_oy : okI y) (oz : okI z) (hr : rightW y z = true) (hx : x = 3) (hi : inD l y = false) :
    Calls Try.prog 75 #[.slice A n c, .agg #[.int .i64 x, .int .i64 y, .int .i64 z]] w (StepIs w l (x, y, z) A) := by
  obtain ⟨wB, hwB⟩ : ∃ wB, wB = w.alloc (.cells #[.int .i64 x, .int .i64 y, .int .i64 z] 54) := ⟨_, rfl⟩
  have tB : Hid (Blk wB w.heap.size 54 #[.int .i64 x, .int .i64 y, .int .i64 z]) := hideIt (by rw [hwB]; exact Blk.new w _ _)
  have CB : Hid (Chg (fun _ => False) w wB) := hideIt (by rw [hwB]; exact (Chg.refl _ w).alloc _)
  have SB : Hid (w.heap.size < wB.heap.size) := hideIt (by rw [hwB]; simp)
  have HB := hideIt hwB
  have HLN := hideIt hl.len
  have hpl := place_calls (c := c) y wB (hl.new CB.out) (by omega)
  have HL := hideIt hl
  obtain ⟨oz1, oz2⟩ := okI_iff.1 oz
  obtain ⟨y1, y2, z1, z2⟩ := rightW_true hr
  have hr' : ¬ rightW y z = false := by rw [hr]; decide
  have HS := hideIt (show stepD l (x, y, z) = (l, 30) by rw [hx, stepD_3, if_neg hr', hi]; simp)
  rw [hi] at hpl
  have d2 : (x == 2) = false := by rw [hx]; decide
  have d1 : (x == 1) = false := by rw [hx]; decide
  have d3 : (x == 3) = true := by rw [hx]; decide
  clear hi hx hr hr'
  have HPL := hideIt hpl
  clear hwB hl hpl
  go_enter Try.func75, Try.ntmps75
  go_wp2_with (first
    | (go_at_call 111; rw [← HB.out]; refine HPL.out.mono ?_; rintro e w1 ⟨rfl, k1⟩; have t1 := tB.out.chg k1 (fun h => h); have e0 : w1.cell? ⟨w.heap.size, 0, none⟩ = some (.int .i64 x) := t1.cell 0; have e1 : w1.cell? ⟨w.heap.size, 1, none⟩ = some (.int .i64 y) := t1.cell 1; have e2 : w1.cell? ⟨w.heap.size, 2, none⟩ = some (.int .i64 z) := t1.cell 2; have C1 := hideIt (CB.out.trans k1); have l1 := hideIt (HL.out.new C1.out); have hz1 : w.heap.size < w1.heap.size := Nat.lt_of_lt_of_le SB.out k1.size; clear t1)
    | (at_builtin; refine wpList_append_recs (base := w.heap.size + 1) _ rfl _ _ 80 rfl recD encD_len encD_one rfl (OwnR.empty w1 _ _ (by omega)) rfl (l1.out.new ((Chg.refl _ w1).alloc _)) (by simp; omega) (by omega) (by simp; omega) ?_; intro v3 w3 o3 g3 q3; have K3 := hideIt (((Chg.refl (fun _ => False) w1).alloc _).grown g3 (fun i e => .inr (by cases e; exact Nat.le_refl _)) : Chg (fun _ => False) w1 w3); obtain ⟨A3, c3, hv3, hk3, hm3, hb3, _⟩ := o3.slice; have hn3 : ([] ++ l).length = n := HLN.out; rw [hn3] at hv3; rw [hv3]; rw [hv3] at o3 q3; have hA3 : Hid (∃ b, A3 = some b) := hideIt (own_some q3); have O3 := hideIt o3; have t3 := (tB.out.chg k1 (fun h => h)).chg K3.out (fun h => h); have f0 : w3.cell? ⟨w.heap.size, 0, none⟩ = some (.int .i64 x) := t3.cell 0; have f1 : w3.cell? ⟨w.heap.size, 1, none⟩ = some (.int .i64 y) := t3.cell 1; have f2 : w3.cell? ⟨w.heap.size, 2, none⟩ = some (.int .i64 z) := t3.cell 2; clear o3 g3 q3 hv3 t3 hn3))
  go_ret2
  exact stepIs_same HS.out HL.out hnc (C1.out.trans K3.out)

set_option maxRecDepth 100000 in
set_option maxHeartbeats 8000000 in
theorem step_4n {A : Option Addr} {n c : Nat} {l : List DPeer} {x y z : Int} (w : World) (hl : RecsD w A n l) (hnc : n ≤ c) (hn : n ≤ 16) (_oy : okI y) (oz : okI z) (hr : rightW y z = true) (hx : x = 4) (hi : inD l y = false) :
    Calls Try.prog 75 #[.slice A n c, .agg #[.int .i64 x, .int .i64 y, .int .i64 z]] w (StepIs w l (x, y, z) A) := by
  obtain ⟨wB, hwB⟩ : ∃ wB, wB = w.alloc (.cells #[.int .i64 x, .int .i64 y, .int .i64 z] 54) := ⟨_, rfl⟩
  have tB : Hid (Blk wB w.heap.size 54 #[.int .i64 x, .int .i64 y, .int .i64 z]) := hideIt (by rw [hwB]; exact Blk.new w _ _)
  have CB : Hid (Chg (fun _ => False) w wB) := hideIt (by rw [hwB]; exact (Chg.refl _ w).alloc _)
  have SB : Hid (w.heap.size < wB.heap.size) := hideIt (by rw [hwB]; simp)
  have HB := hideIt hwB
  have HLN := hideIt hl.len
  have hpl := place_calls (c := c) y wB (hl.new CB.out) (by omega)
  have HL := hideIt hl
  obtain ⟨oz1, oz2⟩ := okI_iff.1 oz
  obtain ⟨y1, y2, z1, z2⟩ := rightW_true hr
  have hr' : ¬ rightW y z = false := by rw [hr]; decide
  have HS := hideIt (show stepD l (x, y, z) = (l, 30) by rw [hx, stepD_4, if_neg hr', hi]; simp)
  rw [hi] at hpl
  have d2 : (x == 2) = false := by rw [hx]; decide
  have d1 : (x == 1) = false := by rw [hx]; decide
  have d3 : (x == 3) = false := by rw [hx]; decide
  have d4 : (x == 4) = true := by rw [hx]; decide
  clear hi hx hr hr'
  have HPL := hideIt hpl
  clear hwB hl hpl
  go_enter Try.func75, Try.ntmps75
  go_wp2_with (first
    | (go_at_call 111; rw [← HB.out]; refine HPL.out.mono ?_; rintro e w1 ⟨rfl, k1⟩; have t1 := tB.out.chg k1 (fun h => h); have e0 : w1.cell? ⟨w.heap.size, 0, none⟩ = some (.int .i64 x) := t1.cell 0; have e1 : w1.cell? ⟨w.heap.size, 1, none⟩ = some (.int .i64 y) := t1.cell 1; have e2 : w1.cell? ⟨w.heap.size, 2, none⟩ = some (.int .i64 z) := t1.cell 2; have C1 := hideIt (CB.out.trans k1); have l1 := hideIt (HL.out.new C1.out); have hz1 : w.heap.size < w1.heap.size := Nat.lt_of_lt_of_le SB.out k1.size; clear t1)
    | (at_builtin; refine wpList_append_recs (base := w.heap.size + 1) _ rfl _ _ 80 rfl recD encD_len encD_one rfl (OwnR.empty w1 _ _ (by omega)) rfl (l1.out.new ((Chg.refl _ w1).alloc _)) (by simp; omega) (by omega) (by simp; omega) ?_; intro v3 w3 o3 g3 q3; have K3 := hideIt (((Chg.refl (fun _ => False) w1).alloc _).grown g3 (fun i e => .inr (by cases e; exact Nat.le_refl _)) : Chg (fun _ => False) w1 w3); obtain ⟨A3, c3, hv3, hk3, hm3, hb3, _⟩ := o3.slice; have hn3 : ([] ++ l).length = n := HLN.out; rw [hn3] at hv3; rw [hv3]; rw [hv3] at o3 q3; have hA3 : Hid (∃ b, A3 = some b) := hideIt (own_some q3); have O3 := hideIt o3; have t3 := (tB.out.chg k1 (fun h => h)).chg K3.out (fun h => h); have f0 : w3.cell? ⟨w.heap.size, 0, none⟩ = some (.int .i64 x) := t3.cell 0; have f1 : w3.cell? ⟨w.heap.size, 1, none⟩ = some (.int .i64 y) := t3.cell 1; have f2 : w3.cell? ⟨w.heap.size, 2, none⟩ = some (.int .i64 z) := t3.cell 2; clear o3 g3 q3 hv3 t3 hn3))
  go_ret2
  exact stepIs_same HS.out HL.out hnc (C1.out.trans K3.out)

set_option maxRecDepth 100000 in
set_option maxHeartbeats 8000000 in
theorem step_no {A : Option Addr} {n c : Nat} {l : List DPeer} {x y z : Int} (w : World) (hl : RecsD w A n l) (_hnc : n ≤ c) (hn : n ≤ 16) (_oy : okI y) (oz : okI z) (hr : rightW y z = true) (h1 : ¬ x = 1) (h2 : ¬ x = 2) (h3 : ¬ x = 3) (h4 : ¬ x = 4) :
    Calls Try.prog 75 #[.slice A n c, .agg #[.int .i64 x, .int .i64 y, .int .i64 z]] w (StepIs w l (x, y, z) A) := by
  obtain ⟨wB, hwB⟩ : ∃ wB, wB = w.alloc (.cells #[.int .i64 x, .int .i64 y, .int .i64 z] 54) := ⟨_, rfl⟩
  have tB : Hid (Blk wB w.heap.size 54 #[.int .i64 x, .int .i64 y, .int .i64 z]) := hideIt (by rw [hwB]; exact Blk.new w _ _)
  have CB : Hid (Chg (fun _ => False) w wB) := hideIt (by rw [hwB]; exact (Chg.refl _ w).alloc _)
  have SB : Hid (w.heap.size < wB.heap.size) := hideIt (by rw [hwB]; simp)
  have HB := hideIt hwB
  have HLN := hideIt hl.len
  have hpl := place_calls (c := c) y wB (hl.new CB.out) (by omega)
  have HL := hideIt hl
  obtain ⟨oz1, oz2⟩ := okI_iff.1 oz
  obtain ⟨y1, y2, z1, z2⟩ := rightW_true hr
  have hr' : ¬ rightW y z = false := by rw [hr]; decide
  have HS := hideIt (show stepD l (x, y, z) = (l, 0) by unfold stepD; rw [if_neg (show ¬ x = 2 from h2), if_neg (show ¬ rightW y z = false from hr'), if_neg (show ¬ x = 1 from h1), if_neg (show ¬ x = 3 from h3), if_neg (show ¬ x = 4 from h4)])
  obtain ⟨bi, hbi⟩ : ∃ bi, inD l y = bi := ⟨_, rfl⟩
  rw [hbi] at hpl
  have d2 : (x == 2) = false := by simpa using h2
  have d1 : (x == 1) = false := by simpa using h1
  have d3 : (x == 3) = false := by simpa using h3
  have d4 : (x == 4) = false := by simpa using h4
  clear h1 h2 h3 h4 hr hr' hbi
  have HPL := hideIt hpl
  clear hwB hl hpl
  go_enter Try.func75, Try.ntmps75
  go_wp2_with (first
    | (go_at_call 111; rw [← HB.out]; refine HPL.out.mono ?_; rintro e w1 ⟨rfl, k1⟩; have t1 := tB.out.chg k1 (fun h => h); have e0 : w1.cell? ⟨w.heap.size, 0, none⟩ = some (.int .i64 x) := t1.cell 0; have e1 : w1.cell? ⟨w.heap.size, 1, none⟩ = some (.int .i64 y) := t1.cell 1; have e2 : w1.cell? ⟨w.heap.size, 2, none⟩ = some (.int .i64 z) := t1.cell 2; have C1 := hideIt (CB.out.trans k1); have l1 := hideIt (HL.out.new C1.out); have hz1 : w.heap.size < w1.heap.size := Nat.lt_of_lt_of_le SB.out k1.size; clear t1)
    | (at_builtin; refine wpList_append_recs (base := w.heap.size + 1) _ rfl _ _ 80 rfl recD encD_len encD_one rfl (OwnR.empty w1 _ _ (by omega)) rfl (l1.out.new ((Chg.refl _ w1).alloc _)) (by simp; omega) (by omega) (by simp; omega) ?_; intro v3 w3 o3 g3 q3; have K3 := hideIt (((Chg.refl (fun _ => False) w1).alloc _).grown g3 (fun i e => .inr (by cases e; exact Nat.le_refl _)) : Chg (fun _ => False) w1 w3); obtain ⟨A3, c3, hv3, hk3, hm3, hb3, _⟩ := o3.slice; have hn3 : ([] ++ l).length = n := HLN.out; rw [hn3] at hv3; rw [hv3]; rw [hv3] at o3 q3; have hA3 : Hid (∃ b, A3 = some b) := hideIt (own_some q3); have O3 := hideIt o3; have t3 := (tB.out.chg k1 (fun h => h)).chg K3.out (fun h => h); have f0 : w3.cell? ⟨w.heap.size, 0, none⟩ = some (.int .i64 x) := t3.cell 0; have f1 : w3.cell? ⟨w.heap.size, 1, none⟩ = some (.int .i64 y) := t3.cell 1; have f2 : w3.cell? ⟨w.heap.size, 2, none⟩ = some (.int .i64 z) := t3.cell 2; clear o3 g3 q3 hv3 t3 hn3))
  go_ret2
  exact stepIs_new HS.out (Nat.le_succ _) (by simpa using O3.out) (C1.out.trans K3.out)

set_option maxRecDepth 100000 in
set_option maxHeartbeats 8000000 in
theorem step_3yt {A : Option Addr} {n c : Nat} {l : List DPeer} {x y z : Int} (w : World) (hl : RecsD w A n l) (_hnc : n ≤ c) (hn : n ≤ 16) (_oy : okI y) (oz : okI z) (hr : rightW y z = true) {pid s lst : Int} (hx : x = 3) (hi : inD l y = true) (hp : l.getD (pos l y) d0P = (pid, s, lst, true)) :
    Calls Try.prog 75 #[.slice A n c, .agg #[.int .i64 x, .int .i64 y, .int .i64 z]] w (StepIs w l (x, y, z) A) := by
  obtain ⟨wB, hwB⟩ : ∃ wB, wB = w.alloc (.cells #[.int .i64 x, .int .i64 y, .int .i64 z] 54) := ⟨_, rfl⟩
  have tB : Hid (Blk wB w.heap.size 54 #[.int .i64 x, .int .i64 y, .int .i64 z]) := hideIt (by rw [hwB]; exact Blk.new w _ _)
  have CB : Hid (Chg (fun _ => False) w wB) := hideIt (by rw [hwB]; exact (Chg.refl _ w).alloc _)
  have SB : Hid (w.heap.size < wB.heap.size) := hideIt (by rw [hwB]; simp)
  have HB := hideIt hwB
  have HLN := hideIt hl.len
  have hpl := place_calls (c := c) y wB (hl.new CB.out) (by omega)
  have HL := hideIt hl
  obtain ⟨oz1, oz2⟩ := okI_iff.1 oz
  obtain ⟨y1, y2, z1, z2⟩ := rightW_true hr
  have hr' : ¬ rightW y z = false := by rw [hr]; decide
  have hln := hl.len
  have hkn := pos_lt_of_in hi
  rw [hln] at hkn
  obtain ⟨k, hk⟩ : ∃ k, pos l y = k := ⟨_, rfl⟩
  rw [hk] at hp
  have HS := hideIt (show stepD l (x, y, z) = (l.set k (pid, s, max lst z, true), 0) by rw [hx, stepD_3, if_neg hr', hi, if_pos rfl, hk, hp]; try simp)
  rw [hi] at hpl
  rw [hk] at hpl hkn
  have hP := hideIt hp
  have d2 : (x == 2) = false := by rw [hx]; decide
  have d1 : (x == 1) = false := by rw [hx]; decide
  have d3 : (x == 3) = true := by rw [hx]; decide
  clear hi hx hr hr' hk hln hp
  have HPL := hideIt hpl
  clear hwB hl hpl
  go_enter Try.func75, Try.ntmps75
  go_wp2_with (first
    | (go_at_call 111; rw [← HB.out]; refine HPL.out.mono ?_; rintro e w1 ⟨rfl, k1⟩; have t1 := tB.out.chg k1 (fun h => h); have e0 : w1.cell? ⟨w.heap.size, 0, none⟩ = some (.int .i64 x) := t1.cell 0; have e1 : w1.cell? ⟨w.heap.size, 1, none⟩ = some (.int .i64 y) := t1.cell 1; have e2 : w1.cell? ⟨w.heap.size, 2, none⟩ = some (.int .i64 z) := t1.cell 2; have C1 := hideIt (CB.out.trans k1); have l1 := hideIt (HL.out.new C1.out); have hz1 : w.heap.size < w1.heap.size := Nat.lt_of_lt_of_le SB.out k1.size; clear t1)
    | (at_builtin; refine wpList_append_recs (base := w.heap.size + 1) _ rfl _ _ 80 rfl recD encD_len encD_one rfl (OwnR.empty w1 _ _ (by omega)) rfl (l1.out.new ((Chg.refl _ w1).alloc _)) (by simp; omega) (by omega) (by simp; omega) ?_; intro v3 w3 o3 g3 q3; have K3 := hideIt (((Chg.refl (fun _ => False) w1).alloc _).grown g3 (fun i e => .inr (by cases e; exact Nat.le_refl _)) : Chg (fun _ => False) w1 w3); obtain ⟨A3, c3, hv3, hk3, hm3, hb3, _⟩ := o3.slice; have hn3 : ([] ++ l).length = n := HLN.out; rw [hn3] at hv3; rw [hv3]; rw [hv3] at o3 q3; have hA3 : Hid (∃ b, A3 = some b) := hideIt (own_some q3); have O3 := hideIt o3; have t3 := (tB.out.chg k1 (fun h => h)).chg K3.out (fun h => h); have f0 : w3.cell? ⟨w.heap.size, 0, none⟩ = some (.int .i64 x) := t3.cell 0; have f1 : w3.cell? ⟨w.heap.size, 1, none⟩ = some (.int .i64 y) := t3.cell 1; have f2 : w3.cell? ⟨w.heap.size, 2, none⟩ = some (.int .i64 z) := t3.cell 2; clear o3 g3 q3 hv3 t3 hn3))
  have o3 := O3.out
  rw [List.nil_append] at o3
  obtain ⟨ba, hba⟩ := hA3.out
  subst hba
  obtain ⟨g, hg, hgb⟩ := own_block o3
  obtain rfl : ba = ⟨g, 0, none⟩ := hg
  have O3' := hideIt o3
  have R3 := OwnR.recs (d := d0P) encD_len o3 rfl
  obtain ⟨b', off', e', _, p0, p1, p2, p3⟩ := RecsD.at4 R3 (k := k) (by omega)
  cases e'
  simp only [Nat.zero_add] at p0 p1 p2 p3
  rw [hP.out] at p0 p1 p2 p3
  simp only at p0 p1 p2 p3
  have q1 := OwnR.free o3 HLN.out.symm (k * 4 + 1)
  have q2 := OwnR.free o3 HLN.out.symm (k * 4 + 2)
  have q3 := OwnR.free o3 HLN.out.symm (k * 4 + 3)
  have hgn : w.heap.size ≠ g := by omega
  have B1 : w.heap.size + 1 ≤ g := hgb
  have K3' := hideIt (C1.out.trans K3.out)
  clear o3 R3 hgb hk3 hm3 hb3
  go_still_tail 12, (by kernel_rfl)
  go_wp2
  go_ret2
  have O4 := (OwnR.set_ (d := d0P) encD_len O3'.out HLN.out.symm (i := k) (j := 2) (by rw [HLN.out]; omega) (by omega) (.int .i64 (max lst z)) (pid, s, max lst z, true) (by rw [hP.out]; rfl))
  refine stepIs_new HS.out (Nat.le_succ _) (base := w.heap.size + 1) ?_ ?_
  · exact O4.drew
  · exact (K3'.out.setCell (p := ⟨g, k * 4 + 2, none⟩) (Or.inr (by simp only; omega)) _).drew

set_option maxRecDepth 100000 in
set_option maxHeartbeats 8000000 in
theorem step_3yf {A : Option Addr} {n c : Nat} {l : List DPeer} {x y z : Int} (w : World) (hl : RecsD w A n l) (_hnc : n ≤ c) (hn : n ≤ 16) (_oy : okI y) (oz : okI z) (hr : rightW y z = true) {pid s lst : Int} (hx : x = 3) (hi : inD l y = true) (hp : l.getD (pos l y) d0P = (pid, s, lst, false)) :
    Calls Try.prog 75 #[.slice A n c, .agg #[.int .i64 x, .int .i64 y, .int .i64 z]] w (StepIs w l (x, y, z) A) := by
  obtain ⟨wB, hwB⟩ : ∃ wB, wB = w.alloc (.cells #[.int .i64 x, .int .i64 y, .int .i64 z] 54) := ⟨_, rfl⟩
  have tB : Hid (Blk wB w.heap.size 54 #[.int .i64 x, .int .i64 y, .int .i64 z]) := hideIt (by rw [hwB]; exact Blk.new w _ _)
  have CB : Hid (Chg (fun _ => False) w wB) := hideIt (by rw [hwB]; exact (Chg.refl _ w).alloc _)
  have SB : Hid (w.heap.size < wB.heap.size) := hideIt (by rw [hwB]; simp)
  have HB := hideIt hwB
  have HLN := hideIt hl.len
  have hpl := place_calls (c := c) y wB (hl.new CB.out) (by omega)
  have HL := hideIt hl
  obtain ⟨oz1, oz2⟩ := okI_iff.1 oz
  obtain ⟨y1, y2, z1, z2⟩ := rightW_true hr
  have hr' : ¬ rightW y z = false := by rw [hr]; decide
  have hln := hl.len
  have hkn := pos_lt_of_in hi
  rw [hln] at hkn
  obtain ⟨k, hk⟩ : ∃ k, pos l y = k := ⟨_, rfl⟩
  rw [hk] at hp
  have HS := hideIt (show stepD l (x, y, z) = (l.set k (pid, z, max lst z, true), 0) by rw [hx, stepD_3, if_neg hr', hi, if_pos rfl, hk, hp]; try simp)
  rw [hi] at hpl
  rw [hk] at hpl hkn
  have hP := hideIt hp
  have d2 : (x == 2) = false := by rw [hx]; decide
  have d1 : (x == 1) = false := by rw [hx]; decide
  have d3 : (x == 3) = true := by rw [hx]; decide
  clear hi hx hr hr' hk hln hp
  have HPL := hideIt hpl
  clear hwB hl hpl
  go_enter Try.func75, Try.ntmps75
  go_wp2_with (first
    | (go_at_call 111; rw [← HB.out]; refine HPL.out.mono ?_; rintro e w1 ⟨rfl, k1⟩; have t1 := tB.out.chg k1 (fun h => h); have e0 : w1.cell? ⟨w.heap.size, 0, none⟩ = some (.int .i64 x) := t1.cell 0; have e1 : w1.cell? ⟨w.heap.size, 1, none⟩ = some (.int .i64 y) := t1.cell 1; have e2 : w1.cell? ⟨w.heap.size, 2, none⟩ = some (.int .i64 z) := t1.cell 2; have C1 := hideIt (CB.out.trans k1); have l1 := hideIt (HL.out.new C1.out); have hz1 : w.heap.size < w1.heap.size := Nat.lt_of_lt_of_le SB.out k1.size; clear t1)
    | (at_builtin; refine wpList_append_recs (base := w.heap.size + 1) _ rfl _ _ 80 rfl recD encD_len encD_one rfl (OwnR.empty w1 _ _ (by omega)) rfl (l1.out.new ((Chg.refl _ w1).alloc _)) (by simp; omega) (by omega) (by simp; omega) ?_; intro v3 w3 o3 g3 q3; have K3 := hideIt (((Chg.refl (fun _ => False) w1).alloc _).grown g3 (fun i e => .inr (by cases e; exact Nat.le_refl _)) : Chg (fun _ => False) w1 w3); obtain ⟨A3, c3, hv3, hk3, hm3, hb3, _⟩ := o3.slice; have hn3 : ([] ++ l).length = n := HLN.out; rw [hn3] at hv3; rw [hv3]; rw [hv3] at o3 q3; have hA3 : Hid (∃ b, A3 = some b) := hideIt (own_some q3); have O3 := hideIt o3; have t3 := (tB.out.chg k1 (fun h => h)).chg K3.out (fun h => h); have f0 : w3.cell? ⟨w.heap.size, 0, none⟩ = some (.int .i64 x) := t3.cell 0; have f1 : w3.cell? ⟨w.heap.size, 1, none⟩ = some (.int .i64 y) := t3.cell 1; have f2 : w3.cell? ⟨w.heap.size, 2, none⟩ = some (.int .i64 z) := t3.cell 2; clear o3 g3 q3 hv3 t3 hn3))
  have o3 := O3.out
  rw [List.nil_append] at o3
  obtain ⟨ba, hba⟩ := hA3.out
  subst hba
  obtain ⟨g, hg, hgb⟩ := own_block o3
  obtain rfl : ba = ⟨g, 0, none⟩ := hg
  have O3' := hideIt o3
  have R3 := OwnR.recs (d := d0P) encD_len o3 rfl
  obtain ⟨b', off', e', _, p0, p1, p2, p3⟩ := RecsD.at4 R3 (k := k) (by omega)
  cases e'
  simp only [Nat.zero_add] at p0 p1 p2 p3
  rw [hP.out] at p0 p1 p2 p3
  simp only at p0 p1 p2 p3
  have q1 := OwnR.free o3 HLN.out.symm (k * 4 + 1)
  have q2 := OwnR.free o3 HLN.out.symm (k * 4 + 2)
  have q3 := OwnR.free o3 HLN.out.symm (k * 4 + 3)
  have hgn : w.heap.size ≠ g := by omega
  have B1 : w.heap.size + 1 ≤ g := hgb
  have K3' := hideIt (C1.out.trans K3.out)
  clear o3 R3 hgb hk3 hm3 hb3
  go_still_tail 12, (by kernel_rfl)
  go_wp2
  go_ret2
  have O4 := (OwnR.set_ (d := d0P) encD_len (OwnR.set_ (d := d0P) encD_len (OwnR.set_ (d := d0P) encD_len O3'.out HLN.out.symm (i := k) (j := 2) (by rw [HLN.out]; omega) (by omega) (.int .i64 (max lst z)) (pid, s, max lst z, false) (by rw [hP.out]; rfl)) (by rw [List.length_set, HLN.out]) (i := k) (j := 1) (by rw [List.length_set, HLN.out]; omega) (by omega) (.int .i64 z) (pid, z, max lst z, false) (by rw [getD_set_self (by rw [HLN.out]; omega)]; rfl)) (by rw [List.length_set, List.length_set, HLN.out]) (i := k) (j := 3) (by rw [List.length_set, List.length_set, HLN.out]; omega) (by omega) (.bool true) (pid, z, max lst z, true) (by rw [getD_set_self (by rw [List.length_set, HLN.out]; omega)]; rfl))
  refine stepIs_new HS.out (Nat.le_succ _) (base := w.heap.size + 1) ?_ ?_
  · simp only [List.set_set] at O4; exact O4.drew
  · exact (((K3'.out.setCell (p := ⟨g, k * 4 + 2, none⟩) (Or.inr (by simp only; omega)) _).setCell (p := ⟨g, k * 4 + 1, none⟩) (Or.inr (by simp only; omega)) _).setCell (p := ⟨g, k * 4 + 3, none⟩) (Or.inr (by simp only; omega)) _).drew

set_option maxRecDepth 100000 in
set_option maxHeartbeats 8000000 in
theorem step_4yt {A : Option Addr} {n c : Nat} {l : List DPeer} {x y z : Int} (w : World) (hl : RecsD w A n l) (_hnc : n ≤ c) (hn : n ≤ 16) (_oy : okI y) (oz : okI z) (hr : rightW y z = true) {pid s lst : Int} (hx : x = 4) (hi : inD l y = true) (hp : l.getD (pos l y) d0P = (pid, s, lst, true)) :
    Calls Try.prog 75 #[.slice A n c, .agg #[.int .i64 x, .int .i64 y, .int .i64 z]] w (StepIs w l (x, y, z) A) := by
  obtain ⟨wB, hwB⟩ : ∃ wB, wB = w.alloc (.cells #[.int .i64 x, .int .i64 y, .int .i64 z] 54) := ⟨_, rfl⟩
  have tB : Hid (Blk wB w.heap.size 54 #[.int .i64 x, .int .i64 y, .int .i64 z]) := hideIt (by rw [hwB]; exact Blk.new w _ _)
  have CB : Hid (Chg (fun _ => False) w wB) := hideIt (by rw [hwB]; exact (Chg.refl _ w).alloc _)
  have SB : Hid (w.heap.size < wB.heap.size) := hideIt (by rw [hwB]; simp)
  have HB := hideIt hwB
  have HLN := hideIt hl.len
  have hpl := place_calls (c := c) y wB (hl.new CB.out) (by omega)
  have HL := hideIt hl
  obtain ⟨oz1, oz2⟩ := okI_iff.1 oz
  obtain ⟨y1, y2, z1, z2⟩ := rightW_true hr
  have hr' : ¬ rightW y z = false := by rw [hr]; decide
  have hln := hl.len
  have hkn := pos_lt_of_in hi
  rw [hln] at hkn
  obtain ⟨k, hk⟩ : ∃ k, pos l y = k := ⟨_, rfl⟩
  rw [hk] at hp
  have HS := hideIt (show stepD l (x, y, z) = (l.set k (y, 0, max lst z, false), 0) by rw [hx, stepD_4, if_neg hr', hi, if_pos rfl, hk, hp]; try simp)
  rw [hi] at hpl
  rw [hk] at hpl hkn
  have hP := hideIt hp
  have d2 : (x == 2) = false := by rw [hx]; decide
  have d1 : (x == 1) = false := by rw [hx]; decide
  have d3 : (x == 3) = false := by rw [hx]; decide
  have d4 : (x == 4) = true := by rw [hx]; decide
  clear hi hx hr hr' hk hln hp
  have HPL := hideIt hpl
  clear hwB hl hpl
  go_enter Try.func75, Try.ntmps75
  go_wp2_with (first
    | (go_at_call 111; rw [← HB.out]; refine HPL.out.mono ?_; rintro e w1 ⟨rfl, k1⟩; have t1 := tB.out.chg k1 (fun h => h); have e0 : w1.cell? ⟨w.heap.size, 0, none⟩ = some (.int .i64 x) := t1.cell 0; have e1 : w1.cell? ⟨w.heap.size, 1, none⟩ = some (.int .i64 y) := t1.cell 1; have e2 : w1.cell? ⟨w.heap.size, 2, none⟩ = some (.int .i64 z) := t1.cell 2; have C1 := hideIt (CB.out.trans k1); have l1 := hideIt (HL.out.new C1.out); have hz1 : w.heap.size < w1.heap.size := Nat.lt_of_lt_of_le SB.out k1.size; clear t1)
    | (at_builtin; refine wpList_append_recs (base := w.heap.size + 1) _ rfl _ _ 80 rfl recD encD_len encD_one rfl (OwnR.empty w1 _ _ (by omega)) rfl (l1.out.new ((Chg.refl _ w1).alloc _)) (by simp; omega) (by omega) (by simp; omega) ?_; intro v3 w3 o3 g3 q3; have K3 := hideIt (((Chg.refl (fun _ => False) w1).alloc _).grown g3 (fun i e => .inr (by cases e; exact Nat.le_refl _)) : Chg (fun _ => False) w1 w3); obtain ⟨A3, c3, hv3, hk3, hm3, hb3, _⟩ := o3.slice; have hn3 : ([] ++ l).length = n := HLN.out; rw [hn3] at hv3; rw [hv3]; rw [hv3] at o3 q3; have hA3 : Hid (∃ b, A3 = some b) := hideIt (own_some q3); have O3 := hideIt o3; have t3 := (tB.out.chg k1 (fun h => h)).chg K3.out (fun h => h); have f0 : w3.cell? ⟨w.heap.size, 0, none⟩ = some (.int .i64 x) := t3.cell 0; have f1 : w3.cell? ⟨w.heap.size, 1, none⟩ = some (.int .i64 y) := t3.cell 1; have f2 : w3.cell? ⟨w.heap.size, 2, none⟩ = some (.int .i64 z) := t3.cell 2; clear o3 g3 q3 hv3 t3 hn3))
  have o3 := O3.out
  rw [List.nil_append] at o3
  obtain ⟨ba, hba⟩ := hA3.out
  subst hba
  obtain ⟨g, hg, hgb⟩ := own_block o3
  obtain rfl : ba = ⟨g, 0, none⟩ := hg
  have O3' := hideIt o3
  have R3 := OwnR.recs (d := d0P) encD_len o3 rfl
  obtain ⟨b', off', e', _, p0, p1, p2, p3⟩ := RecsD.at4 R3 (k := k) (by omega)
  cases e'
  simp only [Nat.zero_add] at p0 p1 p2 p3
  rw [hP.out] at p0 p1 p2 p3
  simp only at p0 p1 p2 p3
  have q1 := OwnR.free o3 HLN.out.symm (k * 4 + 1)
  have q2 := OwnR.free o3 HLN.out.symm (k * 4 + 2)
  have q3 := OwnR.free o3 HLN.out.symm (k * 4 + 3)
  have hgn : w.heap.size ≠ g := by omega
  have B1 : w.heap.size + 1 ≤ g := hgb
  have K3' := hideIt (C1.out.trans K3.out)
  clear o3 R3 hgb hk3 hm3 hb3
  obtain ⟨w4, s4, o4, c4⟩ := OwnR.storeAll (P := Try.prog) (w := w3.drew) encD_len encD_one infoD O3'.out HLN.out.symm (i := k) (by rw [HLN.out]; omega) (y, 0, max lst z, false)
  have hl2 : (encD (y, 0, max lst z, false)).toArray = #[.int .i64 y, .int .i64 0, .int .i64 (max lst z), .bool false] := rfl
  rw [hl2] at s4
  go_still_tail 14, (by kernel_rfl)
  refine wpList_storev _ rfl 153 _ _ rfl rfl rfl s4 ?_
  go_wp2
  go_ret2
  exact stepIs_new HS.out (Nat.le_succ _) o4 ((K3'.out.drew).trans' c4 (fun i e => .inr (by subst e; omega)))

set_option maxRecDepth 100000 in
set_option maxHeartbeats 8000000 in
theorem step_4yf {A : Option Addr} {n c : Nat} {l : List DPeer} {x y z : Int} (w : World) (hl : RecsD w A n l) (_hnc : n ≤ c) (hn : n ≤ 16) (_oy : okI y) (oz : okI z) (hr : rightW y z = true) {pid s lst : Int} (hx : x = 4) (hi : inD l y = true) (hp : l.getD (pos l y) d0P = (pid, s, lst, false)) :
    Calls Try.prog 75 #[.slice A n c, .agg #[.int .i64 x, .int .i64 y, .int .i64 z]] w (StepIs w l (x, y, z) A) := by
  obtain ⟨wB, hwB⟩ : ∃ wB, wB = w.alloc (.cells #[.int .i64 x, .int .i64 y, .int .i64 z] 54) := ⟨_, rfl⟩
  have tB : Hid (Blk wB w.heap.size 54 #[.int .i64 x, .int .i64 y, .int .i64 z]) := hideIt (by rw [hwB]; exact Blk.new w _ _)
  have CB : Hid (Chg (fun _ => False) w wB) := hideIt (by rw [hwB]; exact (Chg.refl _ w).alloc _)
  have SB : Hid (w.heap.size < wB.heap.size) := hideIt (by rw [hwB]; simp)
  have HB := hideIt hwB
  have HLN := hideIt hl.len
  have hpl := place_calls (c := c) y wB (hl.new CB.out) (by omega)
  have HL := hideIt hl
  obtain ⟨oz1, oz2⟩ := okI_iff.1 oz
  obtain ⟨y1, y2, z1, z2⟩ := rightW_true hr
  have hr' : ¬ rightW y z = false := by rw [hr]; decide
  have hln := hl.len
  have hkn := pos_lt_of_in hi
  rw [hln] at hkn
  obtain ⟨k, hk⟩ : ∃ k, pos l y = k := ⟨_, rfl⟩
  rw [hk] at hp
  have HS := hideIt (show stepD l (x, y, z) = (l.set k (y, 0, max lst z, false), 0) by rw [hx, stepD_4, if_neg hr', hi, if_pos rfl, hk, hp]; try simp)
  rw [hi] at hpl
  rw [hk] at hpl hkn
  have hP := hideIt hp
  have d2 : (x == 2) = false := by rw [hx]; decide
  have d1 : (x == 1) = false := by rw [hx]; decide
  have d3 : (x == 3) = false := by rw [hx]; decide
  have d4 : (x == 4) = true := by rw [hx]; decide
  clear hi hx hr hr' hk hln hp
  have HPL := hideIt hpl
  clear hwB hl hpl
  go_enter Try.func75, Try.ntmps75
  go_wp2_with (first
    | (go_at_call 111; rw [← HB.out]; refine HPL.out.mono ?_; rintro e w1 ⟨rfl, k1⟩; have t1 := tB.out.chg k1 (fun h => h); have e0 : w1.cell? ⟨w.heap.size, 0, none⟩ = some (.int .i64 x) := t1.cell 0; have e1 : w1.cell? ⟨w.heap.size, 1, none⟩ = some (.int .i64 y) := t1.cell 1; have e2 : w1.cell? ⟨w.heap.size, 2, none⟩ = some (.int .i64 z) := t1.cell 2; have C1 := hideIt (CB.out.trans k1); have l1 := hideIt (HL.out.new C1.out); have hz1 : w.heap.size < w1.heap.size := Nat.lt_of_lt_of_le SB.out k1.size; clear t1)
    | (at_builtin; refine wpList_append_recs (base := w.heap.size + 1) _ rfl _ _ 80 rfl recD encD_len encD_one rfl (OwnR.empty w1 _ _ (by omega)) rfl (l1.out.new ((Chg.refl _ w1).alloc _)) (by simp; omega) (by omega) (by simp; omega) ?_; intro v3 w3 o3 g3 q3; have K3 := hideIt (((Chg.refl (fun _ => False) w1).alloc _).grown g3 (fun i e => .inr (by cases e; exact Nat.le_refl _)) : Chg (fun _ => False) w1 w3); obtain ⟨A3, c3, hv3, hk3, hm3, hb3, _⟩ := o3.slice; have hn3 : ([] ++ l).length = n := HLN.out; rw [hn3] at hv3; rw [hv3]; rw [hv3] at o3 q3; have hA3 : Hid (∃ b, A3 = some b) := hideIt (own_some q3); have O3 := hideIt o3; have t3 := (tB.out.chg k1 (fun h => h)).chg K3.out (fun h => h); have f0 : w3.cell? ⟨w.heap.size, 0, none⟩ = some (.int .i64 x) := t3.cell 0; have f1 : w3.cell? ⟨w.heap.size, 1, none⟩ = some (.int .i64 y) := t3.cell 1; have f2 : w3.cell? ⟨w.heap.size, 2, none⟩ = some (.int .i64 z) := t3.cell 2; clear o3 g3 q3 hv3 t3 hn3))
  have o3 := O3.out
  rw [List.nil_append] at o3
  obtain ⟨ba, hba⟩ := hA3.out
  subst hba
  obtain ⟨g, hg, hgb⟩ := own_block o3
  obtain rfl : ba = ⟨g, 0, none⟩ := hg
  have O3' := hideIt o3
  have R3 := OwnR.recs (d := d0P) encD_len o3 rfl
  obtain ⟨b', off', e', _, p0, p1, p2, p3⟩ := RecsD.at4 R3 (k := k) (by omega)
  cases e'
  simp only [Nat.zero_add] at p0 p1 p2 p3
  rw [hP.out] at p0 p1 p2 p3
  simp only at p0 p1 p2 p3
  have q1 := OwnR.free o3 HLN.out.symm (k * 4 + 1)
  have q2 := OwnR.free o3 HLN.out.symm (k * 4 + 2)
  have q3 := OwnR.free o3 HLN.out.symm (k * 4 + 3)
  have hgn : w.heap.size ≠ g := by omega
  have B1 : w.heap.size + 1 ≤ g := hgb
  have K3' := hideIt (C1.out.trans K3.out)
  clear o3 R3 hgb hk3 hm3 hb3
  obtain ⟨w4, s4, o4, c4⟩ := OwnR.storeAll (P := Try.prog) (w := w3.drew) encD_len encD_one infoD O3'.out HLN.out.symm (i := k) (by rw [HLN.out]; omega) (y, 0, max lst z, false)
  have hl2 : (encD (y, 0, max lst z, false)).toArray = #[.int .i64 y, .int .i64 0, .int .i64 (max lst z), .bool false] := rfl
  rw [hl2] at s4
  go_still_tail 14, (by kernel_rfl)
  refine wpList_storev _ rfl 153 _ _ rfl rfl rfl s4 ?_
  go_wp2
  go_ret2
  exact stepIs_new HS.out (Nat.le_succ _) o4 ((K3'.out.drew).trans' c4 (fun i e => .inr (by subst e; omega)))

/-- A step, whatever it is. -/
theorem step_calls {A : Option Addr} {n c : Nat} {l : List DPeer} {x y z : Int} (w : World) (hl : RecsD w A n l) (hnc : n ≤ c) (hn : n ≤ 16) (oy : okI y) (oz : okI z) :
    Calls Try.prog 75 #[.slice A n c, .agg #[.int .i64 x, .int .i64 y, .int .i64 z]] w (StepIs w l (x, y, z) A) := by
  by_cases h2 : x = 2
  · cases hi : inD l y with
    | false => exact step_2n w hl hnc hn oy oz h2 hi
    | true => exact step_2y w hl hnc hn oy oz h2 hi
  cases hr : rightW y z with
  | false => exact step_10 w hl hnc hn oy oz h2 hr
  | true =>
    obtain ⟨⟨pid, s, lst, wt⟩, hp⟩ : ∃ p, l.getD (pos l y) d0P = p := ⟨_, rfl⟩
    by_cases h1 : x = 1
    · cases hi : inD l y with
      | true => exact step_32 w hl hnc hn oy oz hr h1 hi
      | false =>
        by_cases h16 : n = 16
        · exact step_31 w hl hnc hn oy oz hr h1 hi h16
        · exact step_ins w hl hnc hn oy oz hr h1 hi h16
    by_cases h3 : x = 3
    · cases hi : inD l y with
      | false => exact step_3n w hl hnc hn oy oz hr h3 hi
      | true =>
        cases wt with
        | true => exact step_3yt w hl hnc hn oy oz hr h3 hi hp
        | false => exact step_3yf w hl hnc hn oy oz hr h3 hi hp
    by_cases h4 : x = 4
    · cases hi : inD l y with
      | false => exact step_4n w hl hnc hn oy oz hr h4 hi
      | true =>
        cases wt with
        | true => exact step_4yt w hl hnc hn oy oz hr h4 hi hp
        | false => exact step_4yf w hl hnc hn oy oz hr h4 hi hp
    exact step_no w hl hnc hn oy oz hr h1 h2 h3 h4
end Go.Proofs.Ytgmekeeemimnpaa
