/- Package disk's Rename and Write, walked. -/
import Derived.Test.YtgmekeeemimnpaaD5
namespace Go.Proofs.Ytgmekeeemimnpaa
open Go Go.Maps Go.MapKept Go.RowKit Go.Sort

section
variable {w : World} {d m : Nat} {s : DSt}
/-- What Rename comes to. -/
def renS (s : DSt) (x y : Str) : Int × DSt := if s.down then (50, s) else match aget s.L x with
  | none => (52, s)
  | some f => if namedB y then if (stepS s).down then (50, stepS s) else (0, { stepS s with L := aput (adel s.L x) y f }) else (52, s)
theorem DiskAt.del (h : DiskAt w d m s) {w' : World} {L : Files} {x : Str} (hm : MapIs encStr evF okS w' m (adel L x)) (hL : L = s.L) (ht : w.mapTurned w' m) : DiskAt w' d m { s with L := adel s.L x } ∧ Chg (fun i => i = d ∨ i = m) w w' := by
  subst hL
  have c1 : Chg (fun i => i = d ∨ i = m) w w' := (Chg.mapTurned ht).mono (fun _ h => .inr h)
  exact ⟨⟨h.blk.turned ht, hm, fun p hp => (h.files p (mem_adel.1 hp).1).own h c1⟩, c1⟩
set_option maxRecDepth 100000 in
set_option maxHeartbeats 4000000 in
theorem rename_calls (x y : Str) (w : World) (h : DiskAt w d m s) (hok : DOk s) (hx : okS x) (hy : okS y) : Calls Try.prog 88 #[.pointer (some ⟨d, 0, none⟩), encStr x, encStr y] w (DiskR w d m (renS s x y).2 (.int .i64 (renS s x y).1)) := by
  have hf := find_calls x w h hx
  have H0 := hideIt h
  have HK := hideIt hok
  have H50 : findR s x = (zeroF, 50) → renS s x y = (50, s) → Calls Try.prog 88 #[.pointer (some ⟨d, 0, none⟩), encStr x, encStr y] w (DiskR w d m (renS s x y).2 (.int .i64 (renS s x y).1)) := by
    intro h1 h2
    rw [h1] at hf
    rw [h2]
    simp only [zeroF] at hf
    have HF := hideIt hf
    clear hf h hok h1 h2
    go_enter Try.func88, Try.ntmps88
    go_wp2_with (go_at_call 117; refine HF.out.mono ?_; rintro e w1 ⟨rfl, k1⟩)
    go_ret
    exact ⟨rfl, H0.out.new (k1.alloc _), (k1.alloc _).mono (fun _ h => h.elim)⟩
  have H52 : findR s x = (zeroF, 52) → renS s x y = (52, s) → Calls Try.prog 88 #[.pointer (some ⟨d, 0, none⟩), encStr x, encStr y] w (DiskR w d m (renS s x y).2 (.int .i64 (renS s x y).1)) := by
    intro h1 h2
    rw [h1] at hf
    rw [h2]
    simp only [zeroF] at hf
    have HF := hideIt hf
    clear hf h hok h1 h2 H50
    go_enter Try.func88, Try.ntmps88
    go_wp2_with (go_at_call 117; refine HF.out.mono ?_; rintro e w1 ⟨rfl, k1⟩)
    go_ret
    exact ⟨rfl, H0.out.new (k1.alloc _), (k1.alloc _).mono (fun _ h => h.elim)⟩
  cases hd : s.down with
  | true => exact H50 (by unfold findR; rw [hd]; rfl) (by unfold renS; rw [hd]; rfl)
  | false =>
    cases ha : aget s.L x with
    | none => exact H52 (by unfold findR; rw [hd, ha]; rfl) (by unfold renS; rw [hd, ha]; rfl)
    | some f =>
      clear H50 H52
      rw [find_yes hd ha] at hf
      have hfl := h.files _ (aget_some_mem ha)
      obtain ⟨A, n, c, sf, xs⟩ := f
      simp only [evF] at hf
      have HF := hideIt hf
      have HFL := hideIt hfl
      have HN : Hid (∀ W, Calls Try.prog 113 #[encStr y] W fun e w' => e = .returned (.bool (namedB y)) ∧ Chg (fun _ => False) W w') := hideIt (fun W => named_calls y W hy)
      cases hnb : namedB y with
      | false =>
        have HS := hideIt (show renS s x y = (52, s) by unfold renS; rw [hd, ha]; simp [hnb])
        rw [hnb] at HN
        clear hf h hok hfl hd ha hnb
        go_enter Try.func88, Try.ntmps88
        go_wp2_with (first
          | (go_at_call 117; refine HF.out.mono ?_; rintro e w1 ⟨rfl, k1⟩; have K1 := hideIt (k1.alloc (.cells #[.slice A n c, .bool sf] 160)); clear k1)
          | (go_at_call 113; refine (HN.out _).mono ?_; rintro e w2 ⟨rfl, k2⟩))
        go_ret
        rw [HS.out]
        exact ⟨rfl, H0.out.new (K1.out.trans k2), (K1.out.trans k2).mono (fun _ h => h.elim)⟩
      | true =>
        have HST : Hid (∀ W, DiskAt W d m s → Calls Try.prog 116 #[.pointer (some ⟨d, 0, none⟩)] W (DiskR W d m (stepS s) (.bool (!(stepS s).down)))) := hideIt (fun W hW => step_calls W hW HK.out)
        have HLT : Hid (∀ g, w.heap.size ≤ g → g ≠ d ∧ g ≠ m) := hideIt (fun g hg => ⟨fun e => by have := H0.out.blk.lt; omega, fun e => by have := H0.out.map.lt; omega⟩)
        rw [hnb] at HN
        cases hsd : (stepS s).down with
        | true =>
          have HS := hideIt (show renS s x y = (50, stepS s) by unfold renS; rw [hd, ha]; simp [hsd, hnb])
          rw [hsd] at HST
          clear hf h hok hfl hd ha hsd hnb
          go_enter Try.func88, Try.ntmps88
          go_wp2_with (first
            | (go_at_call 117; refine HF.out.mono ?_; rintro e w1 ⟨rfl, k1⟩; have K1 := hideIt (k1.alloc (.cells #[.slice A n c, .bool sf] 160)); clear k1)
            | (go_at_call 113; refine (HN.out _).mono ?_; rintro e w2 ⟨rfl, k2⟩; have K2 := hideIt (K1.out.trans k2); clear k2)
            | (go_at_call 116; refine (HST.out _ (H0.out.new K2.out)).mono ?_; rintro e w3 ⟨rfl, h3, k3⟩))
          go_ret
          rw [HS.out]
          exact ⟨rfl, h3, (K2.out.mono (fun _ h => h.elim)).trans k3⟩
        | false =>
          have HS := hideIt (show renS s x y = (0, { stepS s with L := aput (adel s.L x) y ⟨A, n, c, sf, xs⟩ }) by unfold renS; rw [hd, ha]; simp [hsd, hnb])
          rw [hsd] at HST
          clear hf h hok hfl hd ha hsd hnb
          go_enter Try.func88, Try.ntmps88
          go_wp2_with (first
            | (go_at_call 117; refine HF.out.mono ?_; rintro e w1 ⟨rfl, k1⟩; have K1 := hideIt (k1.alloc (.cells #[.slice A n c, .bool sf] 160)); have T1 := hideIt (Blk.new w1 160 #[.slice A n c, .bool sf]); have S1 := hideIt k1.size; clear k1)
            | (go_at_call 113; refine (HN.out _).mono ?_; rintro e w2 ⟨rfl, k2⟩; have K2 := hideIt (K1.out.trans k2); have T2 := hideIt (T1.out.chg k2 (fun h => h)); clear k2)
            | (go_at_call 116; refine (HST.out _ (H0.out.new K2.out)).mono ?_; rintro e w3 ⟨rfl, h3, k3⟩; have c0 : w3.cell? ⟨d, 0, none⟩ = some (.map (some m)) := h3.blk.cell 0; have H3 := hideIt h3; have T3 := hideIt (T2.out.chg k3 (fun e => by have h1 := HLT.out w1.heap.size S1.out; rcases e with e | e; exact h1.1 e; exact h1.2 e)); have F3 := hideIt ((HFL.out.new K2.out).own (H0.out.new K2.out) k3); have K3 := hideIt ((K2.out.mono (fun _ h => h.elim)).trans k3 : Chg (fun i => i = d ∨ i = m) w w3); clear h3 k3)
            | (at_delete; refine wpList_drop _ rfl _ _ 154 rfl 160 encS Try.underlying154 H3.out.map rfl x rfl hx ?_; intro w4 hm4 ht4; have h4 := H3.out.del hm4 rfl ht4; have H4 := hideIt h4.1; have c4 : w4.cell? ⟨d, 0, none⟩ = some (.map (some m)) := h4.1.blk.cell 0; have T4 := T3.out.chg h4.2 (fun e => by have h1 := HLT.out w1.heap.size S1.out; rcases e with e | e; exact h1.1 e; exact h1.2 e); have e0 : w4.cell? ⟨w1.heap.size, 0, none⟩ = some (.slice A n c) := T4.cell 0; have e1 : w4.cell? ⟨w1.heap.size, 1, none⟩ = some (.bool sf) := T4.cell 1; have F4 := hideIt (F3.out.own H3.out h4.2); have K4 := hideIt (K3.out.trans h4.2); clear h4 T4 hm4 ht4 c0))
          go_still_tail 6, (by kernel_rfl)
          change wpList _ _ _ _ _ w4.drew
          go_wp2_with (at_mapUpdate; refine wpList_store _ rfl _ _ _ 154 rfl 160 encS Try.underlying154 H4.out.map.drew rfl y rfl hy (FileG.mk A n c sf xs) rfl ?_; intro w5 hm5 ht5)
          go_ret
          rw [HS.out]
          have hp := DiskAt.put (H4.out.new ((Chg.refl _ w4).drew)) hm5 rfl ht5 (F4.out.new ((Chg.refl _ w4).drew))
          simp only [stepS_L] at hp
          exact ⟨rfl, hp.1, (K4.out.drew).trans hp.2⟩
end
end Go.Proofs.Ytgmekeeemimnpaa
