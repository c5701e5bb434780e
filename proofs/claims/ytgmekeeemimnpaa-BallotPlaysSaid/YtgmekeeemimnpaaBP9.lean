/- Layer 15: the ballot and its twin side by side: what ties them, in memory and in plain words. -/
import Derived.Test.YtgmekeeemimnpaaBP7
import Derived.Test.YtgmekeeemimnpaaBP8
import Derived.Test.YtgmekeeemimnpaaBV
namespace Go.Proofs.Ytgmekeeemimnpaa
open Go Go.Maps Go.MapKept Go.RowKit

/-- What the twin says of a stand. -/
def StRel (s : TwSt) : Option StandSt → Prop
  | none => s.on = false
  | some (e, u, L) => s.on = true ∧ s.ep = e ∧ s.un = u ∧ s.vs = L.map (·.1) ∧ keysNodup L ∧ s.ys.length = yes L ∧ ∀ x, x ∈ s.ys ↔ aget L x = some true
/-- The twin is the ballot's. -/
def Rel (now : Option StandSt) (G : List (Int × Int)) (s : TwSt) : Prop := s.ws.zip s.ts = G ∧ StRel s now

section
variable {now : Option StandSt} {G : List (Int × Int)} {s : TwSt} {m : Nat} {ep id t : Int}
def tw0 : TwSt := ⟨false, 0, 0, [], [], [], []⟩
theorem rel0 : Rel none [] tw0 := ⟨rfl, rfl⟩
theorem ok0 : TwOk tw0 0 := ⟨by simp [tw0], by simp [tw0], by simp [tw0], by simp [tw0], rfl, Nat.le_refl _, by simp [tw0], Nat.le_refl _, by simp [tw0]⟩
theorem rel_at (h : Rel now G s) : (atNow now t).isSome = true ↔ s.on = true ∧ t ≤ s.un := by
  obtain ⟨-, h⟩ := h
  cases now with
  | none =>
    have h : s.on = false := h
    simp [atNow, h]
  | some y =>
    obtain ⟨e, u, L⟩ := y
    obtain ⟨h1, h2, h3, -⟩ := h
    simp only [atNow, Option.bind_some, h1, h3, true_and]
    split <;> simp <;> omega
theorem rel_stand (h : Rel now G s) {vs : List Int} {un : Int} (hr : rightB vs = true) : Rel (some (ep, un, fresh vs)) G { s with on := true, ep := ep, un := un, vs := vs, ys := [] } := by
  refine ⟨h.1, rfl, rfl, rfl, ?_, ?_, ?_, fun x => ?_⟩
  · simp [fresh, Function.comp_def]
  · unfold keysNodup
    have : (fresh vs).map (·.1) = vs := by simp [fresh, Function.comp_def]
    rw [this]
    exact right_nodup hr
  · rw [yes_fresh]; rfl
  · simp only [List.not_mem_nil, false_iff]
    intro hx
    obtain ⟨y, _, hy⟩ := List.mem_map.1 (aget_some_mem hx)
    simp at hy
theorem rel_stop (h : Rel now G s) : Rel none G { s with on := false } := ⟨h.1, rfl⟩
theorem rel_gave (h : Rel now G s) {ws' ts' : List Int} {x v : Int} (hz : ws'.zip ts' = aput (s.ws.zip s.ts) x v) : Rel now (aput G x v) { s with ws := ws', ts := ts' } := by
  obtain ⟨h1, h2⟩ := h
  refine ⟨by rw [← h1]; exact hz, ?_⟩
  cases now with
  | none => exact h2
  | some y => exact h2
theorem grant_iff {L : List (Int × Bool)} (h : StRel s (some (ep, t, L))) : aget L id = some false ↔ id ∈ s.vs ∧ id ∉ s.ys := by
  obtain ⟨-, -, -, hv, -, -, hy⟩ := h
  rw [hv, hy, ← aget_isSome_iff]
  cases aget L id with
  | none => simp
  | some b => cases b <;> simp
theorem rel_ack_no (h : Rel now G s) (ha : ackT s ep id t = false) : ackNow now id ep t = (now, false) := by
  obtain ⟨-, h⟩ := h
  cases now with
  | none => rfl
  | some y =>
    obtain ⟨e, u, L⟩ := y
    have h0 := h
    obtain ⟨h1, h2, h3, h4, h5, h6, h7⟩ := h
    unfold ackT at ha
    rw [h1, h2, h3, Bool.true_and] at ha
    simp only [ackNow, atNow, Option.bind_some]
    by_cases hu : u < t
    · rw [if_pos hu]
    · rw [if_neg hu]
      simp only
      by_cases he : e = ep
      · rw [if_pos he, if_neg]
        unfold grantB
        rw [decide_eq_true_eq, grant_iff h0]
        rintro ⟨hm, hn⟩
        rw [show decide (t ≤ u) = true from by simp; omega, show decide (ep = e) = true from by simp [he], show decide (id ∈ s.vs) = true from by simpa using hm, show decide (id ∈ s.ys) = false from by simpa using hn] at ha
        cases ha
      · rw [if_neg he]
theorem rel_ack_yes (h : Rel now G s) (ha : ackT s ep id t = true) (won : Bool) (hwon : decide (s.vs.length < 2 * (s.ys.length + 1)) = won) : ∃ now', ackNow now id ep t = (now', won) ∧ Rel now' G { s with ys := s.ys ++ [id], on := !won } := by
  obtain ⟨hz, h⟩ := h
  unfold ackT at ha
  simp only [Bool.and_eq_true, decide_eq_true_eq, Bool.not_eq_true', decide_eq_false_iff_not] at ha
  obtain ⟨hon, q1, q2, q3, q4⟩ := ha
  cases now with
  | none =>
    have h : s.on = false := h
    rw [h] at hon; cases hon
  | some y =>
    obtain ⟨e, u, L⟩ := y
    have h0 := h
    obtain ⟨h1, h2, h3, h4, h5, h6, h7⟩ := h
    have hg : aget L id = some false := (grant_iff h0).2 ⟨q3, q4⟩
    have hgl : grantL L id = aput L id true := by unfold grantL; rw [if_pos hg]
    have hk : (aput L id true).map (·.1) = L.map (·.1) := by rw [keys_aput, hg, if_pos (show (some false).isSome = true from rfl)]
    have hl : (aput L id true).length = s.vs.length := by rw [h4, ← hk, List.length_map]
    have hw : wonB (grantL L id) = won := by
      rw [hgl, ← hwon]
      unfold wonB
      rw [hl, yes_aput h5 hg, h6]
    have hb : grantB L id = true := by unfold grantB; simpa using hg
    have hA : ackNow (some (e, u, L)) id ep t = if won then (none, true) else (some (e, u, aput L id true), false) := by
      simp only [ackNow, atNow, Option.bind_some]
      rw [if_neg (show ¬ u < t by rw [← h3]; omega)]
      simp only
      rw [if_pos (show e = ep by rw [← h2]; exact q2.symm), hb, if_pos rfl, hw, hgl]
    cases won with
    | true => exact ⟨none, hA, hz, rfl⟩
    | false =>
      refine ⟨_, hA, hz, rfl, h2, h3, ?_, ?_, ?_, fun x => ?_⟩
      · rw [hk]; exact h4
      · unfold keysNodup at h5 ⊢; rw [hk]; exact h5
      · rw [yes_aput h5 hg, List.length_append, h6]; rfl
      · rw [aget_aput h5]
        by_cases hx : x = id
        · subst hx; simp
        · rw [List.mem_append, List.mem_singleton, h7 x]
          simp [hx]
theorem ok_stand (h : TwOk s m) {un : Int} {vs : List Int} (hv : ∀ x ∈ vs, okI x) (hl : vs.length ≤ 100) : TwOk { s with on := true, ep := ep, un := un, vs := vs, ys := [] } (m + 1) :=
  ⟨hv, by simp, h.ws_ok, h.ts_ok, h.len, Nat.le_succ_of_le h.small, hl, Nat.zero_le _, h.nd⟩
theorem ok_ack (h : TwOk s m) (hid : okI id) (b : Bool) : TwOk { s with ys := s.ys ++ [id], on := b } (m + 1) :=
  ⟨h.vs_ok, fun x hx => by
    rcases List.mem_append.1 hx with hx | hx
    · exact h.ys_ok x hx
    · simp at hx; subst hx; exact hid, h.ws_ok, h.ts_ok, h.len, Nat.le_succ_of_le h.small, h.vl, by have := h.yl; simp; omega, h.nd⟩
theorem ok_on (h : TwOk s m) (b : Bool) : TwOk { s with on := b } (m + 1) :=
  ⟨h.vs_ok, h.ys_ok, h.ws_ok, h.ts_ok, h.len, Nat.le_succ_of_le h.small, h.vl, Nat.le_succ_of_le h.yl, h.nd⟩
theorem ok_succ (h : TwOk s m) : TwOk s (m + 1) :=
  ⟨h.vs_ok, h.ys_ok, h.ws_ok, h.ts_ok, h.len, Nat.le_succ_of_le h.small, h.vl, Nat.le_succ_of_le h.yl, h.nd⟩
end

/-! ### both in memory -/
/-- The ballot at b and the twin at t, made since the world w0, apart, and apart from the blocks K. -/
def BT (K : Nat → Prop) (w0 w : World) (b t : Nat) (tmo : Int) (now : Option StandSt) (G : List (Int × Int)) (s : TwSt) : Prop :=
  ∃ F, Ball w F b tmo now G ∧ Twin w w0.heap.size (fun i => F i ∨ K i) t s ∧ (∀ i, F i → w0.heap.size ≤ i ∧ ¬ K i) ∧ Chg (fun _ => False) w0 w
section
variable {K : Nat → Prop} {w0 w w' : World} {b t : Nat} {tmo : Int} {now : Option StandSt} {G : List (Int × Int)} {s : TwSt} {m : Nat}
def BTR (K : Nat → Prop) (w0 w : World) (b t : Nat) (tmo : Int) (now : Option StandSt) (G : List (Int × Int)) (s : TwSt) (r : Value) (e : Ending) (w' : World) : Prop := e = .returned r ∧ BT K w0 w' b t tmo now G s ∧ Chg (fun i => w0.heap.size ≤ i ∧ ¬ K i) w w'
theorem BT.chg0 (h : BT K w0 w b t tmo now G s) : Chg (fun _ => False) w0 w := by obtain ⟨F, _, _, _, h⟩ := h; exact h
theorem BT.new (h : BT K w0 w b t tmo now G s) (hc : Chg (fun _ => False) w w') : BT K w0 w' b t tmo now G s := by
  obtain ⟨F, h1, h2, h3, h4⟩ := h
  exact ⟨F, h1.chg hc (fun _ _ h => h), h2.new hc, h3, h4.trans hc⟩
theorem BTR.new (h : BT K w0 w b t tmo now G s) (hc : Chg (fun _ => False) w w') (r : Value) : BTR K w0 w b t tmo now G s r (.returned r) w' := ⟨rfl, h.new hc, hc.mono (fun _ h => h.elim)⟩
/-- Blocks that are new are kept from here on. -/
theorem BT.keep (h : BT (fun _ => False) w0 w b t tmo now G s) (hc : Chg (fun _ => False) w w') (hK : ∀ i, K i → w.heap.size ≤ i ∧ i < w'.heap.size) : BT K w0 w' b t tmo now G s := by
  obtain ⟨F, h1, h2, h3, h4⟩ := h
  refine ⟨F, h1.chg hc (fun _ _ h => h), h2.guard (fun i hi hlt => ?_) (fun i hi => ?_) (hc.mono (fun _ h => h.elim)), fun i hi => ⟨(h3 i hi).1, fun hk => ?_⟩, h4.trans hc⟩
  · rcases hi with hi | hi
    · exact .inl hi
    · have := hK i hi; omega
  · rcases hi with hi | hi
    · exact Nat.lt_of_lt_of_le (h2.2.2.2 i (.inl hi)) hc.size
    · exact (hK i hi).2
  · have := h2.2.2.2 i (.inl hi)
    have := hK i hk
    omega
theorem BT.drop (h : BT K w0 w b t tmo now G s) : BT (fun _ => False) w0 w b t tmo now G s := by
  obtain ⟨F, h1, h2, h3, h4⟩ := h
  exact ⟨F, h1, h2.guard (fun _ hi _ => .inl (hi.elim id False.elim)) (fun _ hi => h2.2.2.2 _ (.inl (hi.elim id False.elim))) (Chg.refl _ _), fun i hi => ⟨(h3 i hi).1, fun h => h⟩, h4⟩
theorem BT.made {wp : World} (hc0 : Chg (fun _ => False) w0 wp) (h : Ball w (fun i => wp.heap.size ≤ i ∧ i < w.heap.size) b tmo now G) (hc : Chg (fun _ => False) wp w) :
    BT (fun _ => False) w0 (w.alloc (.cells #[.bool false, .int .i64 0, .int .i64 0, .slice none 0 0, .slice none 0 0, .slice none 0 0, .slice none 0 0] 88)) b w.heap.size tmo now G tw0 := by
  have hc1 : Chg (fun _ => False) w (w.alloc (.cells #[.bool false, .int .i64 0, .int .i64 0, .slice none 0 0, .slice none 0 0, .slice none 0 0, .slice none 0 0] 88)) := (Chg.refl _ w).alloc _
  have s1 := hc0.size
  have s2 := hc.size
  exact ⟨_, h.chg hc1 (fun _ _ h => h), ⟨⟨_, _, _, _, Blk.new w _ _, Own4.nil _ _ _⟩, by omega, fun h => h.elim (fun h => by have := h.2; omega) id, fun i hi => hi.elim (fun hi => by have := hi.2; simp; omega) False.elim⟩, fun i hi => ⟨by have := hi.1; omega, fun h => h⟩, (hc0.trans hc).trans hc1⟩
/-- A call on the ballot. -/
theorem BT.ball {S F F' : Nat → Prop} {now' : Option StandSt} {G' : List (Int × Int)} (h2 : Twin w w0.heap.size (fun i => F i ∨ K i) t s) (h3 : ∀ i, F i → w0.heap.size ≤ i ∧ ¬ K i) (h4 : Chg (fun _ => False) w0 w) (hb : Ball w' F' b tmo now' G') (hc : Chg S w w') (hS : ∀ i, S i → F i) (hF : ∀ j, F' j → F j ∨ w.heap.size ≤ j ∧ j < w'.heap.size) (r : Value) : BTR K w0 w b t tmo now' G' s r (.returned r) w' := by
  have s1 := h4.size
  have s2 := hc.size
  refine ⟨rfl, ⟨F', hb, h2.guard (fun _ hi hlt => ?_) (fun _ hi => ?_) (hc.mono (fun i hi => .inl (hS i hi))), fun i hi => ?_, h4.trans' hc (fun i hi => .inr (h3 i (hS i hi)).1)⟩, hc.mono (fun i hi => h3 i (hS i hi))⟩
  · rcases hi with hi | hi
    · rcases hF _ hi with h | h
      · exact .inl h
      · omega
    · exact .inr hi
  · rcases hi with hi | hi
    · rcases hF _ hi with h | h
      · exact Nat.lt_of_lt_of_le (h2.2.2.2 _ (.inl h)) s2
      · exact h.2
    · exact Nat.lt_of_lt_of_le (h2.2.2.2 _ (.inr hi)) s2
  · rcases hF _ hi with h | h
    · exact h3 _ h
    · exact ⟨by omega, fun hk => by have := h2.2.2.2 _ (.inr hk); omega⟩
/-- A call on the twin. -/
theorem BT.twin {F : Nat → Prop} {s' : TwSt} (h1 : Ball w F b tmo now G) (h3 : ∀ i, F i → w0.heap.size ≤ i ∧ ¬ K i) (h4 : Chg (fun _ => False) w0 w) (ht : Twin w' w0.heap.size (fun i => F i ∨ K i) t s') (hc : Chg (fun i => ¬ (F i ∨ K i) ∧ w0.heap.size ≤ i) w w') (r : Value) : BTR K w0 w b t tmo now G s' r (.returned r) w' :=
  ⟨rfl, ⟨F, h1.chg hc (fun _ hi hn => hn.1 (.inl hi)), ht, h3, h4.trans' hc (fun _ hi => .inr hi.2)⟩, hc.mono (fun _ hi => ⟨hi.2, fun hk => hi.1 (.inr hk)⟩)⟩
theorem BT.to_ok (h : BT K w0 w b t tmo now G s) : 2 ≤ tmo ∧ tmo ≤ 1073741824 := by
  obtain ⟨F, ⟨v, g, _, _, _, _, _, r, _⟩, _⟩ := h
  exact r
theorem BT.standing (h : BT K w0 w b t tmo now G s) (tm : Int) (r : Value) (hr : standingV now tm = r) : Calls Try.prog 73 #[.pointer (some ⟨b, 0, none⟩), .int .i64 tm] w fun e w' => e = .returned r ∧ w = w' := by
  obtain ⟨F, h1, _⟩ := h
  rw [← hr]
  exact standing_calls tm w h1
theorem BT.may (h : BT K w0 w b t tmo now G s) (x tm : Int) (hx : okI x) (ht : okI tm) (r : Bool) (hr : mayB tmo G x tm = r) : Calls Try.prog 46 #[.pointer (some ⟨b, 0, none⟩), .int .i64 x, .int .i64 tm] w fun e w' => e = .returned (.bool r) ∧ w = w' := by
  obtain ⟨F, h1, _⟩ := h
  rw [← hr]
  exact may_calls x tm w h1 hx ht
theorem BT.tmay (h : BT K w0 w b t tmo now G s) (hs : TwOk s m) (hm : m ≤ 1000) (x tm : Int) (n1 : -1125899906842624 ≤ tm) (n2 : tm ≤ 1125899906842624) (r : Bool) (hr : mayB tmo (s.ws.zip s.ts) x tm = r) : Calls Try.prog 81 #[.pointer (some ⟨t, 0, none⟩), .int .i64 x, .int .i64 tm, .int .i64 tmo] w fun e w' => e = .returned (.bool r) ∧ w = w' := by
  have ht := h.to_ok
  obtain ⟨F, _, h2, _⟩ := h
  rw [← hr]
  exact tmay_calls w h2 hs hm n1 n2 ht.1 ht.2
theorem BT.voters (h : BT K w0 w b t tmo now G s) : Calls Try.prog 74 #[.pointer (some ⟨b, 0, none⟩)] w fun e w' => ∃ A n c, e = .returned (.slice A n c) ∧ n = (standers now).length ∧ Ints w' A n (sortI (standers now)) ∧ BT K w0 w' b t tmo now G s := by
  have h0 := h
  obtain ⟨F, h1, h2, h3, h4⟩ := h
  have hok : ∀ x ∈ sortI (standers now), okI x := by
    obtain ⟨v, g, _, hs, _⟩ := h1
    cases now with
    | none => intro x hx; rw [show sortI (standers none) = [] from List.eq_nil_of_length_eq_zero (by rw [sortI_len]; rfl)] at hx; cases hx
    | some y =>
      obtain ⟨e, u, L⟩ := y
      obtain ⟨s, p, m, rfl, _, ht, _⟩ := hs
      exact keys_ok ht.map
  refine (bvoters_calls w h1).mono ?_
  rintro e w' ⟨A, n, c, rfl, ho, hc'⟩
  obtain ⟨A0, k0, e0, -, -, -⟩ := ho.slice
  cases e0
  exact ⟨_, _, _, rfl, by rw [sortI_len], ho.ints hok rfl, h0.new hc'⟩
theorem BT.cells (h : BT K w0 w b t tmo now G s) (hs : TwOk s m) : ∃ A1 k1, w.cell? ⟨t, 0, none⟩ = some (.bool s.on) ∧ w.frozen? ⟨t, 0, none⟩ = false ∧ w.cell? ⟨t, 1, none⟩ = some (.int .i64 s.ep) ∧ w.cell? ⟨t, 2, none⟩ = some (.int .i64 s.un) ∧ w.cell? ⟨t, 3, none⟩ = some (.slice A1 s.vs.length k1) ∧ Ints w A1 s.vs.length s.vs := by
  obtain ⟨F, _, ⟨⟨v1, v2, v3, v4, hb, ho⟩, _⟩, _⟩ := h
  obtain ⟨A1, k1, rfl, -, -, -⟩ := ho.o1.slice
  exact ⟨A1, k1, hb.cell 0, hb.frozen 0, hb.cell 1, hb.cell 2, hb.cell 3, ho.o1.ints hs.vs_ok rfl⟩
theorem BT.off (h : BT K w0 w b t tmo now G s) : BT K w0 (w.setCell ⟨t, 0, none⟩ (.bool false)) b t tmo now G { s with on := false } := by
  obtain ⟨F, h1, h2, h3, h4⟩ := h
  have := tack_off (w := w) ⟨h2, Chg.refl _ w⟩
  exact (BT.twin h1 h3 h4 this.1 this.2 (.tuple #[])).2.1
theorem BT.stop (h : BT K w0 w b t tmo now G s) : Calls Try.prog 79 #[.pointer (some ⟨b, 0, none⟩)] w (BTR K w0 w b t tmo none G s (.tuple #[])) := by
  obtain ⟨F, h1, h2, h3, h4⟩ := h
  refine (stop_calls w h1).mono ?_
  rintro e w' ⟨rfl, hb, hc⟩
  exact BT.ball h2 h3 h4 hb hc (fun _ h => h) (fun _ h => .inl h) _
/-- One stands: both answer the same, and the twin is the ballot's again. -/
theorem stand_step (hR : Rel now G s) (hs : TwOk s m) {A : Option Addr} {n c : Nat} {vs : List Int} (hv : Ints w0 A n vs) (hn : n ≤ 100) (how ep id tm : Int) (hto : 2 ≤ tmo ∧ tmo ≤ 1073741824) : ∃ r s' now',
    (∀ w, BT K w0 w b t tmo now G s → Calls Try.prog 77 #[.pointer (some ⟨t, 0, none⟩), .agg #[.int .i64 how, .int .i64 ep, .int .i64 id, .int .i64 tm, .slice A n c], .int .i64 tmo] w (BTR K w0 w b t tmo now G s' (.int .i64 r))) ∧
    (∀ w, BT K w0 w b t tmo now G s' → Calls Try.prog 44 #[.pointer (some ⟨b, 0, none⟩), .int .i64 ep, .slice A n c, .int .i64 tm] w (BTR K w0 w b t tmo now' G s' (.int .i64 r))) ∧ Rel now' G s' ∧ TwOk s' (m + 1) := by
  have hvl := hv.len
  cases hsb : standB vs ep tm with
  | false =>
    refine ⟨10, s, now, fun w h => ?_, fun w h => ?_, hR, ok_succ hs⟩
    · refine (tstand_no w (hv.new h.chg0) hn hsb).mono ?_
      rintro e w' ⟨rfl, hc⟩
      exact BTR.new h hc _
    · refine (stand_no ep tm w (hv.new h.chg0) (by omega) hsb).mono ?_
      rintro e w' ⟨rfl, hc⟩
      exact BTR.new h hc _
  | true =>
    have hr : rightB vs = true := by
      unfold standB at hsb
      rw [Bool.and_eq_true] at hsb
      exact hsb.1
    cases hb : (atNow now tm).isSome with
    | true =>
      obtain ⟨hon, hu⟩ := (rel_at hR).1 hb
      refine ⟨21, s, now, fun w h => ?_, fun w h => ?_, hR, ok_succ hs⟩
      · have h0 := h
        obtain ⟨F, h1, h2, h3, h4⟩ := h
        refine (tstand_busy w h2 (hv.new h4) hn hsb hon hu).mono ?_
        rintro e w' ⟨rfl, hc⟩
        exact BTR.new h0 hc _
      · have h0 := h
        obtain ⟨F, h1, h2, h3, h4⟩ := h
        refine (stand_busy ep tm w h1 (hv.new h4) hsb hb).mono ?_
        rintro e w' ⟨rfl, hc⟩
        exact BTR.new h0 hc _
    | false =>
      have hoff : s.on = false ∨ s.un < tm := by
        cases hon : s.on with
        | false => exact .inl rfl
        | true =>
          right
          rcases Int.lt_or_le s.un tm with h | h
          · exact h
          · have := (rel_at hR).2 ⟨hon, h⟩
            rw [hb] at this; cases this
      refine ⟨0, { s with on := true, ep := ep, un := tm + 2 * tmo, vs := vs, ys := [] }, some (ep, tm + 2 * tmo, fresh vs), fun w h => ?_, fun w h => ?_, rel_stand hR hr, ok_stand hs hv.ok (by omega)⟩
      · obtain ⟨F, h1, h2, h3, h4⟩ := h
        refine (tstand_ok w h2 (hv.new h4) hn hsb hoff hto.1 hto.2).mono ?_
        rintro e w' ⟨rfl, ht, hc⟩
        exact BT.twin h1 h3 h4 ht hc _
      · obtain ⟨F, h1, h2, h3, h4⟩ := h
        refine (stand_ok ep tm w h1 (hv.new h4) hsb hb).mono ?_
        rintro e w' ⟨rfl, hb', hc⟩
        exact BT.ball h2 h3 h4 hb' hc (fun _ h => h) (fun _ h => h) _
/-- A vote comes. -/
theorem ack_step (hR : Rel now G s) (hs : TwOk s m) (hm : m ≤ 1000) {A : Option Addr} {n c : Nat} (how ep id tm : Int) (hid : okI id) : ∃ r s' now',
    (∀ w, BT K w0 w b t tmo now G s → Calls Try.prog 78 #[.pointer (some ⟨t, 0, none⟩), .agg #[.int .i64 how, .int .i64 ep, .int .i64 id, .int .i64 tm, .slice A n c]] w (BTR K w0 w b t tmo now G s' (.bool r))) ∧
    (∀ w, BT K w0 w b t tmo now G s' → Calls Try.prog 45 #[.pointer (some ⟨b, 0, none⟩), .int .i64 id, .int .i64 ep, .int .i64 tm] w (BTR K w0 w b t tmo now' G s' (.bool r))) ∧ Rel now' G s' ∧ TwOk s' (m + 1) := by
  have hack : ∀ (now' : Option StandSt) (r : Bool) (s' : TwSt), ackNow now id ep tm = (now', r) → ∀ w, BT K w0 w b t tmo now G s' → Calls Try.prog 45 #[.pointer (some ⟨b, 0, none⟩), .int .i64 id, .int .i64 ep, .int .i64 tm] w (BTR K w0 w b t tmo now' G s' (.bool r)) := by
    intro now' r s' ha w h
    obtain ⟨F, h1, h2, h3, h4⟩ := h
    refine (ack_calls id ep tm w h1 hid).mono ?_
    rintro e w' ⟨rfl, hb', hc⟩
    rw [ha] at hb' ⊢
    exact BT.ball h2 h3 h4 hb' hc (fun _ h => h) (fun _ h => .inl h) _
  cases ha : ackT s ep id tm with
  | false =>
    refine ⟨false, s, now, fun w h => ?_, hack _ _ _ (rel_ack_no hR ha), hR, ok_succ hs⟩
    have h0 := h
    obtain ⟨F, h1, h2, h3, h4⟩ := h
    refine (tack_no w h2 hs hm ha).mono ?_
    rintro e w' ⟨rfl, hc⟩
    exact BTR.new h0 hc _
  | true =>
    obtain ⟨won, hwon⟩ : ∃ won, decide (s.vs.length < 2 * (s.ys.length + 1)) = won := ⟨_, rfl⟩
    obtain ⟨now', hN, hR'⟩ := rel_ack_yes hR ha won hwon
    refine ⟨won, { s with ys := s.ys ++ [id], on := !won }, now', fun w h => ?_, hack _ _ _ hN, hR', ok_ack hs hid _⟩
    obtain ⟨F, h1, h2, h3, h4⟩ := h
    refine (tack_yes w h2 hs hm ha hid won hwon).mono ?_
    rintro e w' ⟨rfl, ht, hc⟩
    exact BT.twin h1 h3 h4 ht hc _
theorem zip_parts {ws ts : List Int} {L : List (Int × Int)} (hl : ws.length = ts.length) (h : ws.zip ts = L) : ws = L.map (·.1) ∧ ts = L.map (·.2) := by
  subst h
  exact ⟨(keys_zip hl).symm, (List.map_snd_zip (by omega)).symm⟩
/-- A vote is given. -/
theorem gave_step (hR : Rel now G s) (hs : TwOk s m) (hm : m ≤ 1000) (id tm : Int) : ∃ r s' G',
    (∀ w, BT K w0 w b t tmo now G s → Calls Try.prog 80 #[.pointer (some ⟨t, 0, none⟩), .int .i64 id, .int .i64 tm] w (BTR K w0 w b t tmo now G s' (.int .i64 r))) ∧
    (∀ w, BT K w0 w b t tmo now G s' → Calls Try.prog 47 #[.pointer (some ⟨b, 0, none⟩), .int .i64 id, .int .i64 tm] w (BTR K w0 w b t tmo now G' s' (.int .i64 r))) ∧ Rel now G' s' ∧ TwOk s' (m + 1) := by
  cases hg : gaveB id tm with
  | false =>
    refine ⟨10, s, G, fun w h => ?_, fun w h => ?_, hR, ok_succ hs⟩
    · refine (tgave_no w hg).mono ?_
      rintro e w' ⟨rfl, rfl⟩
      exact BTR.new h (Chg.refl _ _) _
    · refine (gave_no b id tm w hg).mono ?_
      rintro e w' ⟨rfl, rfl⟩
      exact BTR.new h (Chg.refl _ _) _
  | true =>
    have hS : ∃ ws' ts', ws'.zip ts' = aput (s.ws.zip s.ts) id tm ∧ TwOk { s with ws := ws', ts := ts' } (m + 1) := by
      unfold gaveB at hg
      rw [Bool.and_eq_true, decide_eq_true_eq] at hg
      obtain ⟨⟨m1, m2⟩, ht⟩ := hg
      obtain ⟨n1, n2⟩ := timeB_true ht
      by_cases hx : ∃ k, k < s.ws.length ∧ s.ws.getD k 0 = id ∧ ∀ j, j < k → s.ws.getD j 0 ≠ id
      · obtain ⟨k, hk, h1, h2⟩ := hx
        exact ⟨s.ws, s.ts.set k tm, aput_zip_at hs.nd hs.len hk h2 h1, hs.gset n1 n2⟩
      · have hj : ∀ j, j < s.ws.length → s.ws.getD j 0 ≠ id := by
          intro j
          induction j using Nat.strongRecOn with
          | _ j ih => exact fun hjl he => hx ⟨j, hjl, he, fun i hi => ih i hi (by omega)⟩
        exact ⟨s.ws ++ [id], s.ts ++ [tm], aput_zip_new hs.len hj, hs.gadd (okI_iff.2 (by omega)) n1 n2 (not_mem_getD hj)⟩
    obtain ⟨ws', ts', hz, hok⟩ := hS
    refine ⟨0, { s with ws := ws', ts := ts' }, aput G id tm, fun w h => ?_, fun w h => ?_, rel_gave hR hz, hok⟩
    · obtain ⟨F, h1, h2, h3, h4⟩ := h
      refine (tgave_yes w h2 hs hm hg).mono ?_
      rintro e w' ⟨rfl, ws2, ts2, hz2, ht, hok2, hc⟩
      obtain ⟨rfl, rfl⟩ := zip_parts hok.len hz
      obtain ⟨rfl, rfl⟩ := zip_parts hok2.len hz2
      exact BT.twin h1 h3 h4 ht hc _
    · obtain ⟨F, h1, h2, h3, h4⟩ := h
      refine (gave_yes id tm w h1 hg).mono ?_
      rintro e w' ⟨rfl, hb', hc⟩
      exact BT.ball h2 h3 h4 hb' hc (fun _ h => h) (fun _ h => .inl h) _
end
end Go.Proofs.Ytgmekeeemimnpaa
