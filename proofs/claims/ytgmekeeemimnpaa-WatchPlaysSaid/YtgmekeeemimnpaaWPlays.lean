/- WatchPlays, walked: every play of peers, pings and pongs is the document's. (Printed by wip/gen/wplays.py.) -/
import Derived.Test.YtgmekeeemimnpaaWPl2
import Derived.Test.YtgmekeeemimnpaaWPl3
namespace Go.Proofs.Ytgmekeeemimnpaa
open Go Go.Maps Go.MapKept Go.RowKit

/-- A watch beside blocks that it doesn't touch. -/
def WatG (G : Nat → Prop) (w0 w : World) (b : Nat) (to : Int) (L : List (Int × Peer)) : Prop :=
  (∃ F, WMem w F b to L ∧ (∀ i, F i → w0.heap.size ≤ i ∧ i < w.heap.size) ∧ ∀ i, G i → i < w.heap.size ∧ ¬ F i) ∧ WOk L ∧ (2 ≤ to ∧ to ≤ 1073741824) ∧ Chg (fun _ => False) w0 w
def WatGR (G : Nat → Prop) (w0 w : World) (b : Nat) (to : Int) (L : List (Int × Peer)) (r : Value) (e : Ending) (w' : World) : Prop := e = .returned r ∧ WatG G w0 w' b to L ∧ Chg (fun i => ¬ G i) w w'
section
variable {G G' : Nat → Prop} {w0 w w' : World} {b : Nat} {to : Int} {L L' : List (Int × Peer)}
theorem WatG.one (h : WatG G w0 w b to L) : WatB w0 w b to L := by
  obtain ⟨⟨F, hb, hF, _⟩, hk, ht, hc⟩ := h
  exact ⟨⟨F, hb, hF⟩, hk, ht, hc⟩
theorem WatG.chg' (h : WatG G w0 w b to L) (hc : Chg (fun _ => False) w w') : WatG G w0 w' b to L := by
  obtain ⟨⟨F, hb, hF, hG⟩, hk, ht, c0⟩ := h
  exact ⟨⟨F, hb.chg hc (fun _ _ h => h), fun i hi => ⟨(hF i hi).1, Nat.lt_of_lt_of_le (hF i hi).2 hc.size⟩, fun i hi => ⟨Nat.lt_of_lt_of_le (hG i hi).1 hc.size, (hG i hi).2⟩⟩, hk, ht, c0.trans hc⟩
/-- Blocks that were laid behind it may be guarded too. -/
theorem WatG.more (h : WatG G w0 w b to L) (hc : Chg (fun _ => False) w w') (hG' : ∀ i, G' i → i < w'.heap.size ∧ (G i ∨ w.heap.size ≤ i)) : WatG G' w0 w' b to L := by
  obtain ⟨⟨F, hb, hF, hG⟩, hk, ht, c0⟩ := h
  refine ⟨⟨F, hb.chg hc (fun _ _ h => h), fun i hi => ⟨(hF i hi).1, Nat.lt_of_lt_of_le (hF i hi).2 hc.size⟩, fun i hi => ⟨(hG' i hi).1, fun hf => ?_⟩⟩, hk, ht, c0.trans hc⟩
  rcases (hG' i hi).2 with h1 | h1
  · exact (hG i h1).2 hf
  · have := hF i hf; omega
theorem WatB.guard0 (h : WatB w0 w b to L) (hG : ∀ i, ¬ G i) : WatG G w0 w b to L := by
  obtain ⟨⟨F, hb, hF⟩, hk, ht, hc⟩ := h
  exact ⟨⟨F, hb, hF, fun i hi => absurd hi (hG i)⟩, hk, ht, hc⟩
theorem WatG.ends {F : Nat → Prop} {r : Value} {e : Ending} (hF : ∀ i, F i → w0.heap.size ≤ i ∧ i < w.heap.size) (hG : ∀ i, G i → i < w.heap.size ∧ ¬ F i) (ht : 2 ≤ to ∧ to ≤ 1073741824) (hc : Chg (fun _ => False) w0 w) (hk : WOk L') (hr : WEnds w F b to L' r e w') : WatGR G w0 w b to L' r e w' := by
  obtain ⟨rfl, h1, h2⟩ := hr
  have s1 := hc.size
  have s2 := h2.size
  refine ⟨rfl, ⟨⟨_, h1, fun i hi => ?_, fun i hi => ⟨Nat.lt_of_lt_of_le (hG i hi).1 s2, fun hf => ?_⟩⟩, hk, ht, hc.trans' h2 (fun i hi => .inr (hF i hi).1)⟩, h2.mono (fun i hi hg => (hG i hg).2 hi)⟩
  · rcases hi with hi | hi
    · have := hF i hi; omega
    · omega
  · rcases hf with hf | hf
    · exact (hG i hi).2 hf
    · have := (hG i hi).1; omega
theorem WatG.add (h : WatG G w0 w b to L) (id now : Int) (hid : okI id) (r : Int) (hr : addW L id now = (r, L')) :
    Calls Try.prog 50 #[.pointer (some ⟨b, 0, none⟩), .int .i64 id, .int .i64 now] w (WatGR G w0 w b to L' (.int .i64 r)) := by
  obtain ⟨⟨F, hb, hF, hG⟩, hk, ht, hc⟩ := h
  have hk' := hk.add (id := id) (now := now)
  have := wadd_calls id now w hb hk hid
  rw [hr] at this hk'
  exact this.mono fun e w' he => WatG.ends hF hG ht hc hk' he
theorem WatG.ping (h : WatG G w0 w b to L) (id now : Int) (hid : okI id) (r : Int) (hr : pingW L id now = (r, L')) :
    Calls Try.prog 51 #[.pointer (some ⟨b, 0, none⟩), .int .i64 id, .int .i64 now] w (WatGR G w0 w b to L' (.int .i64 r)) := by
  obtain ⟨⟨F, hb, hF, hG⟩, hk, ht, hc⟩ := h
  have hk' := hk.ping (id := id) (now := now)
  have := wping_calls id now w hb hid
  rw [hr] at this hk'
  exact this.mono fun e w' he => WatG.ends hF hG ht hc hk' he
theorem WatG.pong (h : WatG G w0 w b to L) (id now : Int) (hid : okI id) (r : Int) (hr : pongW L id now = (r, L')) :
    Calls Try.prog 54 #[.pointer (some ⟨b, 0, none⟩), .int .i64 id, .int .i64 now] w (WatGR G w0 w b to L' (.int .i64 r)) := by
  obtain ⟨⟨F, hb, hF, hG⟩, hk, ht, hc⟩ := h
  have hk' := hk.pong (id := id) (now := now)
  have := wpong_calls id now w hb hid
  rw [hr] at this hk'
  exact this.mono fun e w' he => WatG.ends hF hG ht hc hk' he
theorem WatG.remove (h : WatG G w0 w b to L) (id : Int) (hid : okI id) (r : Bool) (hr : (aget L id).isSome = r) (hL : adel L id = L') :
    Calls Try.prog 70 #[.pointer (some ⟨b, 0, none⟩), .int .i64 id] w (WatGR G w0 w b to L' (.bool r)) := by
  obtain ⟨⟨F, hb, hF, hG⟩, hk, ht, hc⟩ := h
  have hk' := hk.del (id := id)
  have := wremove_calls id w hb hid
  rw [hr, hL] at this; rw [hL] at hk'
  exact this.mono fun e w' he => WatG.ends hF hG ht hc hk' he
end
/-- The block of a slice. -/
def ofA (A : Option Addr) (i : Nat) : Prop := ∃ off, A = some ⟨i, off, none⟩
def StepIsR (w : World) (l : List DPeer) (a : ActW) (A : Option Addr) (r : Int) (e : Ending) (w' : World) : Prop :=
  ∃ A' n' c', e = .returned (.tuple #[.slice A' n' c', .int .i64 r]) ∧ RecsD w' A' n' (stepD l a).1 ∧ n' ≤ c' ∧ Chg (fun _ => False) w w' ∧ (A' = A ∨ ∀ b off, A' = some ⟨b, off, none⟩ → w.heap.size ≤ b ∧ b < w'.heap.size)
theorem StepIs.named {w w' : World} {l : List DPeer} {a : ActW} {A : Option Addr} {r : Int} {e : Ending} (h : StepIs w l a A e w') (hr : (stepD l a).2 = r) : StepIsR w l a A r e w' := by
  subst hr; exact h
theorem B6_lt {G : Nat → Prop} {w0 w : World} {b : Nat} {to : Int} {L : List (Int × Peer)} (h : WatG G w0 w b to L) (i : Nat) (hi : G i) : i < w.heap.size := by
  obtain ⟨⟨F, _, _, hG⟩, _⟩ := h
  exact (hG i hi).1
theorem plays_guard {w0 wr w2 w3 : World} {b : Nat} {to : Int} {L : List (Int × Peer)} {A' A3 : Option Addr} (hb : WatG (ofA A') w0 wr b to L) (c2 : Hid (Chg (fun _ => False) wr w2)) (c3 : Chg (fun _ => False) w2 w3) (_h : Hid (A' = A')) (hA : A3 = A' ∨ ∀ b off, A3 = some ⟨b, off, none⟩ → w2.heap.size ≤ b ∧ b < w3.heap.size) (hz : wr.heap.size < w2.heap.size) :
    WatG (fun i => ofA A3 i ∨ i = wr.heap.size) w0 w3 b to L := by
  have s3 := c3.size
  refine hb.more (c2.out.trans c3) fun i hi => ?_
  rcases hi with hi | rfl
  · rcases hA with rfl | hA
    · exact ⟨by have := B6_lt hb i hi; omega, .inl hi⟩
    · obtain ⟨off, e⟩ := hi
      have := hA i off e
      exact ⟨this.2, .inr (by omega)⟩
  · exact ⟨by omega, .inr (Nat.le_refl _)⟩
theorem plays_eq {l : List DPeer} {L : List (Int × Peer)} (h : SameD l L) (y z : Int) :
    (addW L y z = ((stepD l (1, y, z)).2, (stepW L (1, y, z)).1)) ∧ ((if (aget L y).isSome then (1 : Int) else 0) = (stepD l (2, y, z)).2 ∧ adel L y = (stepW L (2, y, z)).1) ∧
    (pingW L y z = ((stepD l (3, y, z)).2, (stepW L (3, y, z)).1)) ∧ (pongW L y z = ((stepD l (4, y, z)).2, (stepW L (4, y, z)).1)) := by
  have e1 := (same_step h (1, y, z) (.inl rfl)).1
  have e2 := (same_step h (2, y, z) (.inr (.inl rfl))).1
  have e3 := (same_step h (3, y, z) (.inr (.inr (.inl rfl)))).1
  have e4 := (same_step h (4, y, z) (.inr (.inr (.inr rfl)))).1
  rw [stepW_1] at e1 ⊢
  rw [stepW_2] at e2 ⊢
  rw [stepW_3] at e3 ⊢
  rw [stepW_4] at e4 ⊢
  exact ⟨Prod.ext e1 rfl, ⟨e2, rfl⟩, Prod.ext e3 rfl, Prod.ext e4 rfl⟩

set_option maxRecDepth 100000 in
set_option maxHeartbeats 32000000 in
theorem watchplays_calls {to now : Int} {A : Option Addr} {n c : Nat} {acs : List ActW} (w : World) (_ot : okI to) (hv : Recs encAW 3 d0AW w A n acs ∧ (∀ x ∈ acs, okAW x) ∧ n ≤ c ∧ c ≤ maxLen) (on : okI now) :
    Calls Try.prog 25 #[.int .i64 to, .slice A n c, .int .i64 now] w fun e w' => e = .returned (.bool true) ∧ Below w.heap.size w w' := by
  have HA := hideIt (anchor09 w)
  obtain ⟨hv, hok, hnc, hcm⟩ := hv
  unfold maxLen at hcm
  have HOK := hideIt hok
  have HV := hideIt hv
  have HLEN := hideIt hv.len
  clear hok hv
  by_cases h0 : 2 ≤ to ∧ to ≤ 1073741824
  · obtain ⟨h01, h02⟩ := h0
    have HN := hideIt (fun W (hc : Chg (fun _ => False) w W) => watchNew to w W hc h01 h02)
    by_cases q0 : 80 < n
    · go_enter Try.func25, Try.ntmps25
      go_wp2_with (first
        | (go_at_call 48; refine HA.out.mono ?_; rintro e w1 ⟨rfl, c1⟩)
        | (go_at_call 49; refine (HN.out w1 c1).mono ?_; rintro e w2 ⟨b, rfl, b2, _, _⟩))
      go_ret
      exact ⟨rfl, b2.below⟩
    by_cases q1 : now < -1125899906842624
    · go_enter Try.func25, Try.ntmps25
      go_wp2_with (first
        | (go_at_call 48; refine HA.out.mono ?_; rintro e w1 ⟨rfl, c1⟩)
        | (go_at_call 49; refine (HN.out w1 c1).mono ?_; rintro e w2 ⟨b, rfl, b2, _, _⟩))
      go_ret
      exact ⟨rfl, b2.below⟩
    by_cases q2 : 1125899906842624 < now
    · go_enter Try.func25, Try.ntmps25
      go_wp2_with (first
        | (go_at_call 48; refine HA.out.mono ?_; rintro e w1 ⟨rfl, c1⟩)
        | (go_at_call 49; refine (HN.out w1 c1).mono ?_; rintro e w2 ⟨b, rfl, b2, _, _⟩))
      go_ret
      exact ⟨rfl, b2.below⟩
    go_enter Try.func25, Try.ntmps25
    go_wp2_with fail
    refine HA.out.mono ?_
    rintro e w1 ⟨rfl, c1⟩
    go_wp2_with fail
    refine (HN.out w1 c1).mono ?_
    rintro e w2 ⟨b, rfl, b2, _, _⟩
    go_wp2_with fail
    go_loopw [9, 53] (fun s9 i wr => ∃ (k : Nat) (L : List (Int × Peer)) (l : List DPeer) (A' : Option Addr) (n' c' : Nat), k ≤ n ∧ i = .int .i64 k ∧ s9 = .slice A' n' c' ∧ RecsD wr A' n' l ∧ n' ≤ c' ∧ SameD l L ∧ WatG (ofA A') w wr b to L) (fun _ i _ => n - (intOf i).toNat)
    case atStart => exact ⟨0, [], [], none, 0, 0, Nat.zero_le _, rfl, rfl, Recs.nil _, Nat.le_refl _, same_nil, b2.guard0 (fun i h => by obtain ⟨off, e⟩ := h; cases e)⟩
    case round =>
      obtain ⟨k, L, l, A', n', c', hk, rfl, rfl, hl, hnc', hs, hb⟩ := hrel
      by_cases hlt : k < n
      · obtain ⟨p, off, rfl, hbl, _⟩ := HV.out.at_ (by omega)
        have hrec := HV.out.chg hb.one.2.2.2 (fun _ _ _ _ h => h)
        have hload := hrec.load (P := Try.prog) hlt 54 infoAW aggAW (fun _ => rfl)
        have hoka := HOK.out _ (getD_mem' (d := d0AW) (by rw [HLEN.out]; exact hlt))
        obtain ⟨⟨x, y, z⟩, hT⟩ : ∃ t, acs.getD k d0AW = t := ⟨_, rfl⟩
        rw [hT] at hload hoka
        obtain ⟨ok1, ok2, ok3⟩ := hoka
        simp only at ok1 ok2 ok3
        have hl2 : (encAW (x, y, z)).toArray = #[.int .i64 x, .int .i64 y, .int .i64 z] := rfl
        rw [hl2] at hload
        clear hT hrec hl2
        obtain ⟨w2, s2, t2, c2, z2⟩ := keep_rec (P := Try.prog) wr infoAW (cs := #[.int .i64 0, .int .i64 0, .int .i64 0]) (cs' := #[.int .i64 x, .int .i64 y, .int .i64 z]) rfl rfl (by intro v hv; simp at hv; rcases hv with rfl | rfl | rfl <;> rfl)
        have hZ2 : wr.heap.size < w2.heap.size := by omega
        have hload2 := t2.loadAll (P := Try.prog) infoAW aggAW rfl
        have T2 := hideIt t2
        have HB := hideIt hb
        have c2' := hideIt c2
        have HST := hideIt (step_calls (x := x) (y := y) (z := z) w2 (hl.new c2) hnc' (by rw [← hl.len, hs.len]; exact hb.one.wok.1) ok2 ok3)
        have EQ := hideIt (plays_eq hs y z)
        have SAME := hideIt (fun a ha => (same_step hs a ha).2)
        have hAB := hideIt (rfl : A' = A')
        have HL' := hideIt hl
        have HSS := hideIt hs
        have tok1 : True := trivial
        have tok2 : True := trivial
        clear z2 t2 hb hs hl c2
        by_cases x1 : x = 1
        · subst x1
          have SM := hideIt (SAME.out (1, y, z) (by simp))
          go_wp2_with (first
            | (have _t := tok1; refine wpList_loadv _ rfl 54 _ rfl rfl hload ?_; clear tok1 _t)
            | (refine wpList_allocv _ rfl 54 rfl (zeroAW _) ?_)
            | (refine wpList_storev _ rfl 54 _ _ rfl rfl rfl s2 ?_)
            | (refine wpList_loadv _ rfl 54 _ rfl rfl hload2 ?_)
            | (go_at_call 75; refine HST.out.mono ?_; rintro e w3 ⟨A3, n3, k3, rfl, l3, hk3, c3, hA3⟩; have L3 := hideIt l3; have g3 := T2.out.chg c3 (fun h => h); have e0' : w3.cell? ⟨wr.heap.size, 0, none⟩ = some (.int .i64 1) := g3.cell 0; have e1' : w3.cell? ⟨wr.heap.size, 1, none⟩ = some (.int .i64 y) := g3.cell 1; have e2' : w3.cell? ⟨wr.heap.size, 2, none⟩ = some (.int .i64 z) := g3.cell 2; have T3 := hideIt g3; have B3 := hideIt (plays_guard HB.out c2' c3 hAB hA3 hZ2); have C3 := hideIt c3; clear g3 l3 hA3 c3)
            | (go_at_call 50; refine (B3.out.add y z ok2 _ EQ.out.1).mono ?_; rintro e w4 ⟨rfl, b4, k4⟩; have L4 := hideIt (L3.out.chg k4 (fun b off e _ h => h (.inl ⟨off, e⟩))); have T4 := hideIt (T3.out.chg k4 (fun h => h (.inr rfl))); have B4 := hideIt b4; have f2z : w4.cell? ⟨wr.heap.size, 2, none⟩ = some (.int .i64 z) := T4.out.cell 2; clear k4 b4)
            | (have _t := tok2; go_at_call 76; refine (like_calls w4 B4.out.one L4.out SM.out on).mono ?_; rintro e w5 ⟨rfl, c5⟩; clear tok2 _t; have B5 := hideIt (B4.out.chg' c5); have L5 := hideIt (L4.out.new c5); have T5 := T4.out.chg c5 (fun h => h); have f2 : w5.cell? ⟨wr.heap.size, 2, none⟩ = some (.int .i64 z) := T5.cell 2; clear T5)
            | (go_at_call 76; refine (like_calls w5 B5.out.one L5.out SM.out ok3).mono ?_; rintro e w6 ⟨rfl, c6⟩; have B6 := hideIt (B5.out.chg' c6); have L6 := hideIt (L5.out.new c6); have T6 := (T4.out.chg c5 (fun h => h)).chg c6 (fun h => h); have f2' : w6.cell? ⟨wr.heap.size, 2, none⟩ = some (.int .i64 z) := T6.cell 2; clear T6))
          go_roundw
          case rel => exact ⟨k + 1, _, _, A3, n3, k3, by omega, by go_num, rfl, L6.out, hk3, SM.out, B6.out.more (Chg.refl _ _) (fun i hi => ⟨(B6_lt B6.out i (.inl hi)), .inl (.inl hi)⟩)⟩
          case measure => simp [intOf]; omega
        by_cases x2 : x = 2
        · subst x2
          have SM := hideIt (SAME.out (2, y, z) (by simp))
          obtain ⟨e2a, e2b⟩ := EQ.out.2.1
          have E2B := hideIt e2b
          clear e2b
          obtain ⟨r2, hr2⟩ : ∃ r2, (aget L y).isSome = r2 := ⟨_, rfl⟩
          rw [hr2] at e2a
          obtain ⟨rn, hrn⟩ : ∃ rn, (stepD l (2, y, z)).2 = rn := ⟨_, rfl⟩
          rw [hrn] at e2a
          have HR2 := hideIt hr2
          have HRN := hideIt hrn
          clear hr2 hrn
          cases r2 with
          | true =>
            obtain rfl : rn = 1 := by simpa using e2a.symm
            have HST := hideIt (HST.out.mono fun e w' h => h.named HRN.out)
            clear e2a
            go_wp2_with (first
              | (have _t := tok1; refine wpList_loadv _ rfl 54 _ rfl rfl hload ?_; clear tok1 _t)
              | (refine wpList_allocv _ rfl 54 rfl (zeroAW _) ?_)
              | (refine wpList_storev _ rfl 54 _ _ rfl rfl rfl s2 ?_)
              | (refine wpList_loadv _ rfl 54 _ rfl rfl hload2 ?_)
              | (go_at_call 75; refine HST.out.mono ?_; rintro e w3 ⟨A3, n3, k3, rfl, l3, hk3, c3, hA3⟩; have L3 := hideIt l3; have g3 := T2.out.chg c3 (fun h => h); have e0' : w3.cell? ⟨wr.heap.size, 0, none⟩ = some (.int .i64 2) := g3.cell 0; have e1' : w3.cell? ⟨wr.heap.size, 1, none⟩ = some (.int .i64 y) := g3.cell 1; have e2' : w3.cell? ⟨wr.heap.size, 2, none⟩ = some (.int .i64 z) := g3.cell 2; have T3 := hideIt g3; have B3 := hideIt (plays_guard HB.out c2' c3 hAB hA3 hZ2); have C3 := hideIt c3; clear g3 l3 hA3 c3)
              | (go_at_call 70; refine (B3.out.remove y ok2 _ HR2.out E2B.out).mono ?_; rintro e w4 ⟨rfl, b4, k4⟩; have L4 := hideIt (L3.out.chg k4 (fun b off e _ h => h (.inl ⟨off, e⟩))); have T4 := hideIt (T3.out.chg k4 (fun h => h (.inr rfl))); have B4 := hideIt b4; have f2z : w4.cell? ⟨wr.heap.size, 2, none⟩ = some (.int .i64 z) := T4.out.cell 2; clear k4 b4)
              | (have _t := tok2; go_at_call 76; refine (like_calls w4 B4.out.one L4.out SM.out on).mono ?_; rintro e w5 ⟨rfl, c5⟩; clear tok2 _t; have B5 := hideIt (B4.out.chg' c5); have L5 := hideIt (L4.out.new c5); have T5 := T4.out.chg c5 (fun h => h); have f2 : w5.cell? ⟨wr.heap.size, 2, none⟩ = some (.int .i64 z) := T5.cell 2; clear T5)
              | (go_at_call 76; refine (like_calls w5 B5.out.one L5.out SM.out ok3).mono ?_; rintro e w6 ⟨rfl, c6⟩; have B6 := hideIt (B5.out.chg' c6); have L6 := hideIt (L5.out.new c6); have T6 := (T4.out.chg c5 (fun h => h)).chg c6 (fun h => h); have f2' : w6.cell? ⟨wr.heap.size, 2, none⟩ = some (.int .i64 z) := T6.cell 2; clear T6))
            go_roundw
            case rel => exact ⟨k + 1, _, _, A3, n3, k3, by omega, by go_num, rfl, L6.out, hk3, SM.out, B6.out.more (Chg.refl _ _) (fun i hi => ⟨(B6_lt B6.out i (.inl hi)), .inl (.inl hi)⟩)⟩
            case measure => simp [intOf]; omega
          | false =>
            obtain rfl : rn = 0 := by simpa using e2a.symm
            have HST := hideIt (HST.out.mono fun e w' h => h.named HRN.out)
            clear e2a
            go_wp2_with (first
              | (have _t := tok1; refine wpList_loadv _ rfl 54 _ rfl rfl hload ?_; clear tok1 _t)
              | (refine wpList_allocv _ rfl 54 rfl (zeroAW _) ?_)
              | (refine wpList_storev _ rfl 54 _ _ rfl rfl rfl s2 ?_)
              | (refine wpList_loadv _ rfl 54 _ rfl rfl hload2 ?_)
              | (go_at_call 75; refine HST.out.mono ?_; rintro e w3 ⟨A3, n3, k3, rfl, l3, hk3, c3, hA3⟩; have L3 := hideIt l3; have g3 := T2.out.chg c3 (fun h => h); have e0' : w3.cell? ⟨wr.heap.size, 0, none⟩ = some (.int .i64 2) := g3.cell 0; have e1' : w3.cell? ⟨wr.heap.size, 1, none⟩ = some (.int .i64 y) := g3.cell 1; have e2' : w3.cell? ⟨wr.heap.size, 2, none⟩ = some (.int .i64 z) := g3.cell 2; have T3 := hideIt g3; have B3 := hideIt (plays_guard HB.out c2' c3 hAB hA3 hZ2); have C3 := hideIt c3; clear g3 l3 hA3 c3)
              | (go_at_call 70; refine (B3.out.remove y ok2 _ HR2.out E2B.out).mono ?_; rintro e w4 ⟨rfl, b4, k4⟩; have L4 := hideIt (L3.out.chg k4 (fun b off e _ h => h (.inl ⟨off, e⟩))); have T4 := hideIt (T3.out.chg k4 (fun h => h (.inr rfl))); have B4 := hideIt b4; have f2z : w4.cell? ⟨wr.heap.size, 2, none⟩ = some (.int .i64 z) := T4.out.cell 2; clear k4 b4)
              | (have _t := tok2; go_at_call 76; refine (like_calls w4 B4.out.one L4.out SM.out on).mono ?_; rintro e w5 ⟨rfl, c5⟩; clear tok2 _t; have B5 := hideIt (B4.out.chg' c5); have L5 := hideIt (L4.out.new c5); have T5 := T4.out.chg c5 (fun h => h); have f2 : w5.cell? ⟨wr.heap.size, 2, none⟩ = some (.int .i64 z) := T5.cell 2; clear T5)
              | (go_at_call 76; refine (like_calls w5 B5.out.one L5.out SM.out ok3).mono ?_; rintro e w6 ⟨rfl, c6⟩; have B6 := hideIt (B5.out.chg' c6); have L6 := hideIt (L5.out.new c6); have T6 := (T4.out.chg c5 (fun h => h)).chg c6 (fun h => h); have f2' : w6.cell? ⟨wr.heap.size, 2, none⟩ = some (.int .i64 z) := T6.cell 2; clear T6))
            go_roundw
            case rel => exact ⟨k + 1, _, _, A3, n3, k3, by omega, by go_num, rfl, L6.out, hk3, SM.out, B6.out.more (Chg.refl _ _) (fun i hi => ⟨(B6_lt B6.out i (.inl hi)), .inl (.inl hi)⟩)⟩
            case measure => simp [intOf]; omega
        by_cases x3 : x = 3
        · subst x3
          have SM := hideIt (SAME.out (3, y, z) (by simp))
          go_wp2_with (first
            | (have _t := tok1; refine wpList_loadv _ rfl 54 _ rfl rfl hload ?_; clear tok1 _t)
            | (refine wpList_allocv _ rfl 54 rfl (zeroAW _) ?_)
            | (refine wpList_storev _ rfl 54 _ _ rfl rfl rfl s2 ?_)
            | (refine wpList_loadv _ rfl 54 _ rfl rfl hload2 ?_)
            | (go_at_call 75; refine HST.out.mono ?_; rintro e w3 ⟨A3, n3, k3, rfl, l3, hk3, c3, hA3⟩; have L3 := hideIt l3; have g3 := T2.out.chg c3 (fun h => h); have e0' : w3.cell? ⟨wr.heap.size, 0, none⟩ = some (.int .i64 3) := g3.cell 0; have e1' : w3.cell? ⟨wr.heap.size, 1, none⟩ = some (.int .i64 y) := g3.cell 1; have e2' : w3.cell? ⟨wr.heap.size, 2, none⟩ = some (.int .i64 z) := g3.cell 2; have T3 := hideIt g3; have B3 := hideIt (plays_guard HB.out c2' c3 hAB hA3 hZ2); have C3 := hideIt c3; clear g3 l3 hA3 c3)
            | (go_at_call 51; refine (B3.out.ping y z ok2 _ EQ.out.2.2.1).mono ?_; rintro e w4 ⟨rfl, b4, k4⟩; have L4 := hideIt (L3.out.chg k4 (fun b off e _ h => h (.inl ⟨off, e⟩))); have T4 := hideIt (T3.out.chg k4 (fun h => h (.inr rfl))); have B4 := hideIt b4; have f2z : w4.cell? ⟨wr.heap.size, 2, none⟩ = some (.int .i64 z) := T4.out.cell 2; clear k4 b4)
            | (have _t := tok2; go_at_call 76; refine (like_calls w4 B4.out.one L4.out SM.out on).mono ?_; rintro e w5 ⟨rfl, c5⟩; clear tok2 _t; have B5 := hideIt (B4.out.chg' c5); have L5 := hideIt (L4.out.new c5); have T5 := T4.out.chg c5 (fun h => h); have f2 : w5.cell? ⟨wr.heap.size, 2, none⟩ = some (.int .i64 z) := T5.cell 2; clear T5)
            | (go_at_call 76; refine (like_calls w5 B5.out.one L5.out SM.out ok3).mono ?_; rintro e w6 ⟨rfl, c6⟩; have B6 := hideIt (B5.out.chg' c6); have L6 := hideIt (L5.out.new c6); have T6 := (T4.out.chg c5 (fun h => h)).chg c6 (fun h => h); have f2' : w6.cell? ⟨wr.heap.size, 2, none⟩ = some (.int .i64 z) := T6.cell 2; clear T6))
          go_roundw
          case rel => exact ⟨k + 1, _, _, A3, n3, k3, by omega, by go_num, rfl, L6.out, hk3, SM.out, B6.out.more (Chg.refl _ _) (fun i hi => ⟨(B6_lt B6.out i (.inl hi)), .inl (.inl hi)⟩)⟩
          case measure => simp [intOf]; omega
        by_cases x4 : x = 4
        · subst x4
          have SM := hideIt (SAME.out (4, y, z) (by simp))
          go_wp2_with (first
            | (have _t := tok1; refine wpList_loadv _ rfl 54 _ rfl rfl hload ?_; clear tok1 _t)
            | (refine wpList_allocv _ rfl 54 rfl (zeroAW _) ?_)
            | (refine wpList_storev _ rfl 54 _ _ rfl rfl rfl s2 ?_)
            | (refine wpList_loadv _ rfl 54 _ rfl rfl hload2 ?_)
            | (go_at_call 75; refine HST.out.mono ?_; rintro e w3 ⟨A3, n3, k3, rfl, l3, hk3, c3, hA3⟩; have L3 := hideIt l3; have g3 := T2.out.chg c3 (fun h => h); have e0' : w3.cell? ⟨wr.heap.size, 0, none⟩ = some (.int .i64 4) := g3.cell 0; have e1' : w3.cell? ⟨wr.heap.size, 1, none⟩ = some (.int .i64 y) := g3.cell 1; have e2' : w3.cell? ⟨wr.heap.size, 2, none⟩ = some (.int .i64 z) := g3.cell 2; have T3 := hideIt g3; have B3 := hideIt (plays_guard HB.out c2' c3 hAB hA3 hZ2); have C3 := hideIt c3; clear g3 l3 hA3 c3)
            | (go_at_call 54; refine (B3.out.pong y z ok2 _ EQ.out.2.2.2).mono ?_; rintro e w4 ⟨rfl, b4, k4⟩; have L4 := hideIt (L3.out.chg k4 (fun b off e _ h => h (.inl ⟨off, e⟩))); have T4 := hideIt (T3.out.chg k4 (fun h => h (.inr rfl))); have B4 := hideIt b4; have f2z : w4.cell? ⟨wr.heap.size, 2, none⟩ = some (.int .i64 z) := T4.out.cell 2; clear k4 b4)
            | (have _t := tok2; go_at_call 76; refine (like_calls w4 B4.out.one L4.out SM.out on).mono ?_; rintro e w5 ⟨rfl, c5⟩; clear tok2 _t; have B5 := hideIt (B4.out.chg' c5); have L5 := hideIt (L4.out.new c5); have T5 := T4.out.chg c5 (fun h => h); have f2 : w5.cell? ⟨wr.heap.size, 2, none⟩ = some (.int .i64 z) := T5.cell 2; clear T5)
            | (go_at_call 76; refine (like_calls w5 B5.out.one L5.out SM.out ok3).mono ?_; rintro e w6 ⟨rfl, c6⟩; have B6 := hideIt (B5.out.chg' c6); have L6 := hideIt (L5.out.new c6); have T6 := (T4.out.chg c5 (fun h => h)).chg c6 (fun h => h); have f2' : w6.cell? ⟨wr.heap.size, 2, none⟩ = some (.int .i64 z) := T6.cell 2; clear T6))
          go_roundw
          case rel => exact ⟨k + 1, _, _, A3, n3, k3, by omega, by go_num, rfl, L6.out, hk3, SM.out, B6.out.more (Chg.refl _ _) (fun i hi => ⟨(B6_lt B6.out i (.inl hi)), .inl (.inl hi)⟩)⟩
          case measure => simp [intOf]; omega
        have dx1 : (x == 1) = false := by simpa using x1
        have dx2 : (x == 2) = false := by simpa using x2
        have dx3 : (x == 3) = false := by simpa using x3
        have dx4 : (x == 4) = false := by simpa using x4
        clear x1 x2 x3 x4
        go_wp2_with (first
          | (have _t := tok1; refine wpList_loadv _ rfl 54 _ rfl rfl hload ?_; clear tok1 _t)
          | (refine wpList_allocv _ rfl 54 rfl (zeroAW _) ?_)
          | (refine wpList_storev _ rfl 54 _ _ rfl rfl rfl s2 ?_)
          | (refine wpList_loadv _ rfl 54 _ rfl rfl hload2 ?_)
          | (go_at_call 75; refine HST.out.mono ?_; rintro e w3 ⟨A3, n3, k3, rfl, l3, hk3, c3, hA3⟩; have g3 := T2.out.chg c3 (fun h => h); have e0' : w3.cell? ⟨wr.heap.size, 0, none⟩ = some (.int .i64 x) := g3.cell 0; have C3 := hideIt c3; clear g3 hA3 c3))
        go_roundw
        case rel => exact ⟨k + 1, L, l, A', n', c', by omega, by go_num, rfl, (HL'.out.new c2'.out).new C3.out, hnc', HSS.out, (HB.out.chg' c2'.out).chg' C3.out⟩
        case measure => simp [intOf]; omega
      · obtain rfl : k = n := by omega
        go_wp2
        go_ret
        exact ⟨rfl, hb.one.below⟩
  · have HN := hideIt (fun W => watchNew_no to W h0)
    by_cases p0 : to < 2
    · clear h0
      go_enter Try.func25, Try.ntmps25
      go_wp2_with (first
        | (go_at_call 48; refine HA.out.mono ?_; rintro e w1 ⟨rfl, c1⟩)
        | (go_at_call 49; refine (HN.out _).mono ?_; rintro e w2 ⟨rfl, rfl⟩))
      go_ret
      exact ⟨rfl, c1.none_below⟩
    · have p1 : 1073741824 < to := by omega
      clear h0
      go_enter Try.func25, Try.ntmps25
      go_wp2_with (first
        | (go_at_call 48; refine HA.out.mono ?_; rintro e w1 ⟨rfl, c1⟩)
        | (go_at_call 49; refine (HN.out _).mono ?_; rintro e w2 ⟨rfl, rfl⟩))
      go_ret
      exact ⟨rfl, c1.none_below⟩
end Go.Proofs.Ytgmekeeemimnpaa
