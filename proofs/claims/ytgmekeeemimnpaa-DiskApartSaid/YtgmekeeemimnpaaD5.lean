/- Package disk's Read, Safe, Arm, Sync, walked. -/
import Derived.Test.YtgmekeeemimnpaaD4
import Derived.StillTailTactics
namespace Go.Proofs.Ytgmekeeemimnpaa
open Go Go.Maps Go.MapKept Go.RowKit Go.Sort

theorem total_mem {L : Files} {p : Str × FileG} (h : p ∈ L) : p.2.n ≤ total L := by
  obtain ⟨s, t, rfl⟩ := List.append_of_mem h
  rw [total_append]
  unfold total
  simp only [List.map_cons, List.sum_cons]
  omega
section
variable {w : World} {d m : Nat} {s : DSt}
/-- What Read answers where there is something. -/
def ReadIs (w : World) (f : FileG) (e : Ending) (w' : World) : Prop :=
  ∃ A c, e = .returned (.tuple #[.slice A f.n c, .int .i64 0]) ∧ Bytes w' A f.n f.xs ∧ f.n ≤ c ∧ c ≤ maxLen ∧ Chg (fun _ => False) w w'
theorem find_yes {x : Str} {f : FileG} (hd : s.down = false) (ha : aget s.L x = some f) : findR s x = (evF f, 0) := by
  unfold findR
  rw [hd, ha]
  rfl
set_option maxRecDepth 100000 in
set_option maxHeartbeats 2000000 in
theorem read_yes (x : Str) (f : FileG) (w : World) (h : DiskAt w d m s) (hok : DOk s) (hx : okS x) (hd : s.down = false) (ha : aget s.L x = some f) : Calls Try.prog 90 #[.pointer (some ⟨d, 0, none⟩), encStr x] w (ReadIs w f) := by
  have hf := find_calls x w h hx
  rw [find_yes hd ha] at hf
  have hmem := aget_some_mem ha
  have hfl := h.files _ hmem
  have hnt := total_mem hmem
  have htot := hok.tot
  have hr1 := hok.room1
  obtain ⟨A, n, c, sf, xs⟩ := f
  simp only [evF] at hf
  simp only at hfl hnt
  have hn : n ≤ 1000000 := by omega
  have HF := hideIt hf
  have HC : Hid (∀ W, Chg (fun _ => False) w W → Calls Try.prog 115 #[.slice A n c] W (CloneIs W n xs)) := hideIt (fun W hW => clone_calls W (hfl.1.new hW) hn)
  clear hf h hok hd ha hmem hfl hnt htot hr1
  go_enter Try.func90, Try.ntmps90
  go_wp2_with (first
    | (go_at_call 117; refine HF.out.mono ?_; rintro e w1 ⟨rfl, k1⟩; have K1 := hideIt (k1.alloc (.cells #[.slice A n c, .bool sf] 160)); clear k1)
    | (go_at_call 115; refine (HC.out _ K1.out).mono ?_; rintro e w2 ⟨A2, c2, rfl, b2, h1, h2, k2⟩))
  go_ret2
  exact ⟨A2, c2, rfl, b2, h1, h2, K1.out.trans k2⟩
set_option maxRecDepth 100000 in
set_option maxHeartbeats 2000000 in
theorem read_no (x : Str) (r : Int) (w : World) (h : DiskAt w d m s) (hx : okS x) (hr : findR s x = (zeroF, r)) (hr0 : r ≠ 0) : Calls Try.prog 90 #[.pointer (some ⟨d, 0, none⟩), encStr x] w fun e w' => e = .returned (.tuple #[.slice none 0 0, .int .i64 r]) ∧ Chg (fun _ => False) w w' := by
  have hf := find_calls x w h hx
  rw [hr] at hf
  simp only [zeroF] at hf
  have HF := hideIt hf
  have hd : (r != 0) = true := by simpa using hr0
  clear hf h hr hr0
  go_enter Try.func90, Try.ntmps90
  go_wp2_with (go_at_call 117; refine HF.out.mono ?_; rintro e w1 ⟨rfl, k1⟩)
  go_ret2
  exact ⟨rfl, k1.alloc _⟩
theorem fieldSafe (w : World) (A : Option Addr) (n c : Nat) (sf : Bool) : (Instr.field 160 (.agg #[.slice A n c, .bool sf]) 1).run Try.prog w = .ok (.bool sf) w := by kernel_rfl
/-- Is a file safe? -/
def safeB (s : DSt) (x : Str) : Bool := match aget s.L x with
  | some f => f.safe
  | none => false
set_option maxRecDepth 100000 in
set_option maxHeartbeats 2000000 in
theorem safe_calls (x : Str) (w : World) (h : DiskAt w d m s) (hx : okS x) : Calls Try.prog 91 #[.pointer (some ⟨d, 0, none⟩), encStr x] w fun e w' => e = .returned (.bool (safeB s x)) ∧ w = w' := by
  have c0 : w.cell? ⟨d, 0, none⟩ = some (.map (some m)) := h.blk.cell 0
  have hl := h.map.look (P := Try.prog) encS Try.underlying154 (zeroFile _) hx false
  have hfs := fieldSafe w
  cases ha : aget s.L x with
  | none =>
    have H := hideIt (show safeB s x = false by unfold safeB; rw [ha])
    simp only [ha, Option.map_none, Option.getD_none, Bool.false_eq_true, if_false] at hl
    clear ha h
    go_enter Try.func91, Try.ntmps91
    go_wp2
    go_ret
    exact ⟨ret_bool H.out.symm, rfl⟩
  | some f =>
    have H := hideIt (show safeB s x = f.safe by unfold safeB; rw [ha])
    obtain ⟨A, n, c, sf, xs⟩ := f
    simp only [ha, Option.map_some, Option.getD_some, Bool.false_eq_true, if_false, evF] at hl
    clear ha h
    go_enter Try.func91, Try.ntmps91
    go_wp2
    go_ret
    exact ⟨ret_bool H.out.symm, rfl⟩
set_option maxRecDepth 100000 in
set_option maxHeartbeats 2000000 in
theorem arm_calls (v : Int) (w : World) (h : DiskAt w d m s) : Calls Try.prog 87 #[.pointer (some ⟨d, 0, none⟩), .int .i64 v] w (DiskR w d m { s with left := max v (-1) } (.tuple #[])) := by
  have c2 : w.cell? ⟨d, 2, none⟩ = some (.int .i64 s.left) := h.blk.cell 2
  have f2 : w.frozen? ⟨d, 2, none⟩ = false := h.blk.frozen 2
  have H0 := hideIt h
  clear h
  go_enter Try.func87, Try.ntmps87
  go_wp2
  go_end0
  exact ⟨rfl, H0.out.left_ _⟩
/-- Where a block turns that holds no bytes. -/
theorem DiskAt.far (h : DiskAt w d m s) {w' : World} {g : Nat} {t : TypeId} {cs : Array Value} (hb : Blk w g t cs) (h1 : g ≠ d) (h2 : g ≠ m) (hu : ∀ (off : Nat) x, cs[off]? ≠ some (.int .u8 x)) (hc : Chg (fun i => i = g) w w') : DiskAt w' d m s :=
  ⟨h.blk.chg hc (Ne.symm h1), h.map.chg hc (Ne.symm h2), fun p hp => ⟨(h.files p hp).1.chg_own hc (fun b e off x => by subst e; rw [hb.cell off]; exact hu off x), (h.files p hp).2⟩⟩
/-- What Sync comes to. -/
def syncS (s : DSt) (x : Str) : Int × DSt := if s.down then (50, s) else match aget s.L x with
  | none => (52, s)
  | some f => if (stepS s).down then (50, stepS s) else (0, { stepS s with L := aput s.L x { f with safe := true } })
theorem stepS_L (s : DSt) : (stepS s).L = s.L := by unfold stepS; split <;> (try split) <;> rfl
theorem DiskAt.put (h : DiskAt w d m s) {w' : World} {L : Files} {x : Str} {f : FileG} (hm : MapIs encStr evF okS w' m (aput L x f)) (hL : L = s.L) (ht : w.mapTurned w' m) (hf : okF w f) : DiskAt w' d m { s with L := aput s.L x f } ∧ Chg (fun i => i = d ∨ i = m) w w' := by
  subst hL
  have c1 : Chg (fun i => i = d ∨ i = m) w w' := (Chg.mapTurned ht).mono (fun _ h => .inr h)
  refine ⟨⟨h.blk.turned ht, hm, fun p hp => ?_⟩, c1⟩
  rcases mem_aput.1 hp with rfl | ⟨hp, _⟩
  · exact hf.own h c1
  · exact (h.files p hp).own h c1
set_option maxRecDepth 100000 in
set_option maxHeartbeats 4000000 in
theorem sync_calls (x : Str) (w : World) (h : DiskAt w d m s) (hok : DOk s) (hx : okS x) : Calls Try.prog 86 #[.pointer (some ⟨d, 0, none⟩), encStr x] w (DiskR w d m (syncS s x).2 (.int .i64 (syncS s x).1)) := by
  have hf := find_calls x w h hx
  have H0 := hideIt h
  have HK := hideIt hok
  have H50 : findR s x = (zeroF, 50) → syncS s x = (50, s) → Calls Try.prog 86 #[.pointer (some ⟨d, 0, none⟩), encStr x] w (DiskR w d m (syncS s x).2 (.int .i64 (syncS s x).1)) := by
    intro h1 h2
    rw [h1] at hf
    rw [h2]
    simp only [zeroF] at hf
    have HF := hideIt hf
    clear hf h hok h1 h2
    go_enter Try.func86, Try.ntmps86
    go_wp2_with (go_at_call 117; refine HF.out.mono ?_; rintro e w1 ⟨rfl, k1⟩)
    go_ret
    exact ⟨rfl, H0.out.new (k1.alloc _), (k1.alloc _).mono (fun _ h => h.elim)⟩
  have H52 : findR s x = (zeroF, 52) → syncS s x = (52, s) → Calls Try.prog 86 #[.pointer (some ⟨d, 0, none⟩), encStr x] w (DiskR w d m (syncS s x).2 (.int .i64 (syncS s x).1)) := by
    intro h1 h2
    rw [h1] at hf
    rw [h2]
    simp only [zeroF] at hf
    have HF := hideIt hf
    clear hf h hok h1 h2 H50
    go_enter Try.func86, Try.ntmps86
    go_wp2_with (go_at_call 117; refine HF.out.mono ?_; rintro e w1 ⟨rfl, k1⟩)
    go_ret
    exact ⟨rfl, H0.out.new (k1.alloc _), (k1.alloc _).mono (fun _ h => h.elim)⟩
  cases hd : s.down with
  | true => exact H50 (by unfold findR; rw [hd]; rfl) (by unfold syncS; rw [hd]; rfl)
  | false =>
    cases ha : aget s.L x with
    | none => exact H52 (by unfold findR; rw [hd, ha]; rfl) (by unfold syncS; rw [hd, ha]; rfl)
    | some f =>
      clear H50 H52
      rw [find_yes hd ha] at hf
      have hfl := h.files _ (aget_some_mem ha)
      obtain ⟨A, n, c, sf, xs⟩ := f
      simp only [evF] at hf
      have HF := hideIt hf
      have HFL := hideIt hfl
      have HST : Hid (∀ W, DiskAt W d m s → Calls Try.prog 116 #[.pointer (some ⟨d, 0, none⟩)] W (DiskR W d m (stepS s) (.bool (!(stepS s).down)))) := hideIt (fun W hW => step_calls W hW HK.out)
      have HLT : Hid (∀ g, w.heap.size ≤ g → g ≠ d ∧ g ≠ m) := hideIt (fun g hg => ⟨fun e => by have := H0.out.blk.lt; omega, fun e => by have := H0.out.map.lt; omega⟩)
      cases hsd : (stepS s).down with
      | true =>
        have HS := hideIt (show syncS s x = (50, stepS s) by unfold syncS; rw [hd, ha]; simp [hsd])
        rw [hsd] at HST
        clear hf h hok hfl hd ha hsd
        go_enter Try.func86, Try.ntmps86
        go_wp2_with (first
          | (go_at_call 117; refine HF.out.mono ?_; rintro e w1 ⟨rfl, k1⟩; have K1 := hideIt (k1.alloc (.cells #[.slice A n c, .bool sf] 160)); clear k1)
          | (go_at_call 116; refine (HST.out _ (H0.out.new K1.out)).mono ?_; rintro e w2 ⟨rfl, h2, k2⟩))
        go_ret
        rw [HS.out]
        exact ⟨rfl, h2, (K1.out.mono (fun _ h => h.elim)).trans k2⟩
      | false =>
        have HS := hideIt (show syncS s x = (0, { stepS s with L := aput s.L x ⟨A, n, c, true, xs⟩ }) by unfold syncS; rw [hd, ha]; simp [hsd])
        rw [hsd] at HST
        clear hf h hok hfl hd ha hsd
        go_enter Try.func86, Try.ntmps86
        go_wp2_with (first
          | (go_at_call 117; refine HF.out.mono ?_; rintro e w1 ⟨rfl, k1⟩; have K1 := hideIt (k1.alloc (.cells #[.slice A n c, .bool sf] 160)); have T1 := hideIt (Blk.new w1 160 #[.slice A n c, .bool sf]); have S1 := hideIt k1.size; clear k1)
          | (go_at_call 116; refine (HST.out _ (H0.out.new K1.out)).mono ?_; rintro e w2 ⟨rfl, h2, k2⟩; have T2 := T1.out.chg k2 (fun e => by have h1 := HLT.out w1.heap.size S1.out; rcases e with e | e; exact h1.1 e; exact h1.2 e); have e0 : w2.cell? ⟨w1.heap.size, 0, none⟩ = some (.slice A n c) := T2.cell 0; have e1 : w2.cell? ⟨w1.heap.size, 1, none⟩ = some (.bool sf) := T2.cell 1; have f1 := T2.frozen 1))
        have hg := HLT.out w1.heap.size S1.out
        have c3 : Chg (fun i => i = w1.heap.size) w2 (w2.setCell ⟨w1.heap.size, 1, none⟩ (.bool true)) := Chg.setCell (S := fun i => i = w1.heap.size) (Chg.refl _ w2) (p := ⟨w1.heap.size, 1, none⟩) (.inl rfl) _
        have h3 := h2.far T2 hg.1 hg.2 (fun off x hx => by rcases off with _ | _ | off <;> simp at hx) c3
        have T3 := T2.set_ 1 (.bool true)
        have C3 : Hid (Chg (fun i => i = d ∨ i = m) w (w2.setCell ⟨w1.heap.size, 1, none⟩ (.bool true))) := hideIt (((K1.out.mono (fun _ h => h.elim)).trans k2).trans' c3 (fun i hi => .inr (by subst hi; exact S1.out)))
        have HFL2 : Hid (okF (w2.setCell ⟨w1.heap.size, 1, none⟩ (.bool true)) ⟨A, n, c, true, xs⟩) := hideIt (by
          have q1 := (HFL.out.new K1.out).own (H0.out.new K1.out) k2
          exact ⟨q1.1.chg_own c3 (fun b e off x => by subst e; rw [T2.cell off]; exact fun hx => by rcases off with _ | _ | off <;> simp at hx), q1.2⟩)
        clear c3 k2 hg e0 e1 f1
        generalize w2.setCell ⟨w1.heap.size, 1, none⟩ (.bool true) = W at *
        have T3' : Blk W w1.heap.size 160 #[.slice A n c, .bool true] := by simpa using T3
        have e0 : W.cell? ⟨w1.heap.size, 0, none⟩ = some (.slice A n c) := T3'.cell 0
        have e1 : W.cell? ⟨w1.heap.size, 1, none⟩ = some (.bool true) := T3'.cell 1
        have c0 : W.cell? ⟨d, 0, none⟩ = some (.map (some m)) := h3.blk.cell 0
        have H3 := hideIt h3
        clear T3 T3' h2 h3 T2
        go_still_tail 6, (by kernel_rfl)
        change wpList _ _ _ _ _ W.drew
        go_wp2_with (at_mapUpdate; refine wpList_store _ rfl _ _ _ 154 rfl 160 encS Try.underlying154 H3.out.map.drew rfl x rfl hx (FileG.mk A n c true xs) rfl ?_; intro w4 hm4 ht4)
        go_ret
        rw [HS.out]
        have hp := DiskAt.put (H3.out.new ((Chg.refl _ W).drew)) hm4 rfl ht4 (HFL2.out.new ((Chg.refl _ W).drew))
        rw [stepS_L] at hp
        exact ⟨rfl, hp.1, (C3.out.drew).trans hp.2⟩
end
end Go.Proofs.Ytgmekeeemimnpaa
