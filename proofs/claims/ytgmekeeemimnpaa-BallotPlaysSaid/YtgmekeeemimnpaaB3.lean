/- The ballot's Stand, walked; and the ballot over a law's own memory. -/
import Derived.Test.YtgmekeeemimnpaaB2
namespace Go.Proofs.Ytgmekeeemimnpaa
open Go Go.Maps Go.MapKept Go.RowKit

/-- May one stand so at all? -/
def standB (vs : List Int) (epoch t : Int) : Bool := rightB vs && (decide (1 ≤ epoch ∧ epoch ≤ 281474976710656) && timeB t)

section
variable {F : Nat → Prop} {b : Nat} {to : Int} {now : Option StandSt} {G : List (Int × Int)} {A : Option Addr} {n c : Nat} {vs : List Int} (epoch t : Int) (w : World)
set_option maxHeartbeats 1000000 in
theorem stand_no (hv : Ints w A n vs) (hn : n ≤ 17592186043904) (hs : standB vs epoch t = false) :
    Calls Try.prog 44 #[.pointer (some ⟨b, 0, none⟩), .int .i64 epoch, .slice A n c, .int .i64 t] w fun e w' => e = .returned (.int .i64 10) ∧ Chg (fun _ => False) w w' := by
  have HT := hideIt (fun W => time_calls t W)
  cases hr : rightB vs with
  | false =>
    have HN := hideIt (new_no A n c vs w hv hn hr)
    clear hr hs
    go_enter Try.func44, Try.ntmps44
    go_wp2_with (go_at_call 33; refine HN.out.mono ?_; rintro e w1 ⟨rfl, c1⟩)
    go_ret
    exact ⟨rfl, c1⟩
  | true =>
    have HN := hideIt (new_yes A n c vs w hv hr)
    by_cases h1 : epoch < 1
    · clear hr hs
      go_enter Try.func44, Try.ntmps44
      go_wp2_with (go_at_call 33; refine HN.out.mono ?_; rintro e w1 ⟨p, m, rfl, hp, hm, t1, c1⟩)
      go_ret
      exact ⟨rfl, c1⟩
    · by_cases h2 : 281474976710656 < epoch
      · clear hr hs
        go_enter Try.func44, Try.ntmps44
        go_wp2_with (go_at_call 33; refine HN.out.mono ?_; rintro e w1 ⟨p, m, rfl, hp, hm, t1, c1⟩)
        go_ret
        exact ⟨rfl, c1⟩
      · have h3 : timeB t = false := by
          unfold standB at hs
          rw [hr, show decide (1 ≤ epoch ∧ epoch ≤ 281474976710656) = true from by simp; omega] at hs
          simpa using hs
        rw [h3] at HT
        clear hr hs h3
        go_enter Try.func44, Try.ntmps44
        go_wp2_with (first
          | (go_at_call 33; refine HN.out.mono ?_; rintro e w1 ⟨p, m, rfl, hp, hm, t1, c1⟩)
          | (go_at_call 95; refine (HT.out _).mono ?_; rintro e w2 ⟨rfl, rfl⟩))
        go_ret
        exact ⟨rfl, c1⟩

set_option maxHeartbeats 1000000 in
theorem stand_busy (h : Ball w F b to now G) (hv : Ints w A n vs) (hs : standB vs epoch t = true) (hb : (atNow now t).isSome = true) :
    Calls Try.prog 44 #[.pointer (some ⟨b, 0, none⟩), .int .i64 epoch, .slice A n c, .int .i64 t] w fun e w' => e = .returned (.int .i64 21) ∧ Chg (fun _ => False) w w' := by
  have HT := hideIt (fun W => time_calls t W)
  unfold standB at hs
  rw [Bool.and_eq_true, Bool.and_eq_true, decide_eq_true_eq] at hs
  obtain ⟨hr, ⟨h1, h2⟩, h3⟩ := hs
  have HN := hideIt (new_yes A n c vs w hv hr)
  rw [h3] at HT
  cases now with
  | none => cases hb
  | some x =>
    obtain ⟨e0, u, L⟩ := x
    obtain ⟨v, g, hbk, ⟨s, p0, m0, rfl, hst, _⟩, _⟩ := h
    have HA := hideIt (fun W (hc : Chg (fun _ => False) w W) => at_on b s to e0 u _ _ t W (hbk.chg hc (fun h => h)) (hst.chg hc (fun h => h)) (by
      intro hlt
      simp [atNow, hlt] at hb))
    clear hr h3 hb
    go_enter Try.func44, Try.ntmps44
    go_wp2_with (first
      | (go_at_call 33; refine HN.out.mono ?_; rintro e w1 ⟨p, m, rfl, hp, hm, t1, c1⟩)
      | (go_at_call 95; refine (HT.out _).mono ?_; rintro e w2 ⟨rfl, rfl⟩)
      | (go_at_call 96; refine (HA.out _ c1).mono ?_; rintro e w2 ⟨rfl, rfl⟩))
    go_ret
    exact ⟨rfl, c1⟩

/-- What a stand that is taken leaves. -/
def BallStand (w : World) (F : Nat → Prop) (b : Nat) (to : Int) (now : StandSt) (G : List (Int × Int)) (e : Ending) (w' : World) : Prop :=
  e = .returned (.int .i64 0) ∧ Ball w' (fun i => F i ∨ w.heap.size ≤ i ∧ i < w'.heap.size) b to (some now) G ∧ Chg F w w'
set_option maxHeartbeats 1000000 in
theorem stand_ok (h : Ball w F b to now G) (hv : Ints w A n vs) (hs : standB vs epoch t = true) (hb : (atNow now t).isSome = false) :
    Calls Try.prog 44 #[.pointer (some ⟨b, 0, none⟩), .int .i64 epoch, .slice A n c, .int .i64 t] w (BallStand w F b to (epoch, t + 2 * to, fresh vs) G) := by
  have HT := hideIt (fun W => time_calls t W)
  unfold standB at hs
  rw [Bool.and_eq_true, Bool.and_eq_true, decide_eq_true_eq] at hs
  obtain ⟨hr, ⟨h1, h2⟩, h3⟩ := hs
  have HN := hideIt (new_yes A n c vs w hv hr)
  have htb := timeB_true h3
  obtain ⟨ht1, ht2⟩ := htb
  rw [h3] at HT
  have h0 := h
  obtain ⟨v, g, hbk, hst, hmg, f1, f2, ⟨b1, b2⟩, hG⟩ := h
  have HA : Hid (∀ W, Chg (fun _ => False) w W → Calls Try.prog 96 #[.pointer (some ⟨b, 0, none⟩), .int .i64 t] W fun e w' => e = .returned (.pointer none) ∧ W = w') := hideIt (fun W hc => by
    have := at_calls t W (hbk.chg hc (fun h => h)) (hst.chg hc (fun _ _ h => h))
    rw [hb] at this
    exact this)
  clear hr h3 hb
  go_enter Try.func44, Try.ntmps44
  go_wp2_with (first
    | (go_at_call 33; refine HN.out.mono ?_; rintro e w1 ⟨p, m, rfl, hp, hm, t1, c1⟩; have hb1 := hbk.chg c1 (fun h => h); have k0 : w1.cell? ⟨b, 0, none⟩ = some (.int .i64 to) := hb1.cell 0)
    | (go_at_call 95; refine (HT.out _).mono ?_; rintro e w2 ⟨rfl, rfl⟩)
    | (go_at_call 96; refine (HA.out _ c1).mono ?_; rintro e w2 ⟨rfl, rfl⟩; have hb2 := hb1.alloc (.cells #[.pointer (some ⟨p, 0, none⟩), .int .i64 epoch, .int .i64 (t + 2 * to)] 126); have k1 : (w1.alloc (.cells #[.pointer (some ⟨p, 0, none⟩), .int .i64 epoch, .int .i64 (t + 2 * to)] 126)).cell? ⟨b, 1, none⟩ = some v := hb2.cell 1; have fr : (w1.alloc (.cells #[.pointer (some ⟨p, 0, none⟩), .int .i64 epoch, .int .i64 (t + 2 * to)] 126)).frozen? ⟨b, 1, none⟩ = false := hb2.frozen 1))
  go_ret
  have s1 := c1.size
  have hgl := hmg.lt
  have hbl := hbk.lt
  have n1 := map_ne_blk hmg hbk
  have hpl := t1.blk.lt
  have hml := t1.map.lt
  have n2 := t1.blk.ne (hbk.chg c1 (fun h => h)) (by decide)
  have n3 := map_ne_blk t1.map (hbk.chg c1 (fun h => h))
  have hsz : ((w1.alloc (.cells #[.pointer (some ⟨p, 0, none⟩), .int .i64 epoch, .int .i64 (t + 2 * to)] 126)).setCell ⟨b, 1, none⟩ (.pointer (some ⟨w1.heap.size, 0, none⟩))).heap.size = w1.heap.size + 1 := by simp [World.setCell]
  refine ⟨rfl, ⟨.pointer (some ⟨w1.heap.size, 0, none⟩), g, ?_, ⟨w1.heap.size, p, m, rfl, ?_, ?_, ?_, ?_, ?_, ?_⟩, ?_, .inl f1, .inl f2, ⟨b1, b2⟩, hG⟩, Chg.setCell (p := ⟨b, 1, none⟩) ((c1.mono (fun _ h => h.elim)).alloc _) (.inl f1) _⟩
  · have := hb2.set_ 1 (.pointer (some ⟨w1.heap.size, 0, none⟩))
    simpa using this
  · exact (Blk.new w1 _ _).far (p := ⟨b, 1, none⟩) (show w1.heap.size ≠ b by omega) _
  · exact ⟨(t1.blk.alloc _).far (p := ⟨b, 1, none⟩) n2 _, (t1.map.alloc _).setCell (a := ⟨b, 1, none⟩) n3 _, t1.small⟩
  · rw [hsz]; right; omega
  · rw [hsz]; right; omega
  · rw [hsz]; right; omega
  · omega
  · exact ((hmg.chg c1 (fun h => h)).alloc _).setCell (a := ⟨b, 1, none⟩) n1 _
end

/-- A ballot that a law has made since the world w0: nothing that was there has turned. -/
def BallB (w0 w : World) (b : Nat) (to : Int) (now : Option StandSt) (G : List (Int × Int)) : Prop :=
  (∃ F, Ball w F b to now G ∧ ∀ i, F i → w0.heap.size ≤ i) ∧ Chg (fun _ => False) w0 w
theorem BallB.chg {w0 w w' : World} {b : Nat} {to : Int} {now : Option StandSt} {G : List (Int × Int)} (h : BallB w0 w b to now G) (hc : Chg (fun _ => False) w w') : BallB w0 w' b to now G := by
  obtain ⟨⟨F, hb, hF⟩, c0⟩ := h
  exact ⟨⟨F, hb.chg hc (fun _ _ h => h), hF⟩, c0.trans hc⟩
section
variable {w0 w : World} {b : Nat} {to : Int} {now : Option StandSt} {G : List (Int × Int)}
/-- The contracts in these words. -/
def BallR (w0 : World) (b : Nat) (to : Int) (now : Option StandSt) (G : List (Int × Int)) (r : Value) (e : Ending) (w' : World) : Prop := e = .returned r ∧ BallB w0 w' b to now G
theorem BallB.ack (h : BallB w0 w b to now G) (from_ epoch t : Int) (hf : okI from_) (now' : Option StandSt) (r : Bool) (hr : ackNow now from_ epoch t = (now', r)) :
    Calls Try.prog 45 #[.pointer (some ⟨b, 0, none⟩), .int .i64 from_, .int .i64 epoch, .int .i64 t] w (BallR w0 b to now' G (.bool r)) := by
  obtain ⟨⟨F, hb, hF⟩, hc⟩ := h
  refine (ack_calls from_ epoch t w hb hf).mono ?_
  rintro e w' ⟨rfl, h1, h2⟩
  rw [hr] at h1 ⊢
  exact ⟨rfl, ⟨F, h1, hF⟩, hc.trans' h2 (fun i hi => .inr (hF i hi))⟩
theorem BallB.standing (h : BallB w0 w b to now G) (t : Int) (r : Value) (hr : standingV now t = r) : Calls Try.prog 73 #[.pointer (some ⟨b, 0, none⟩), .int .i64 t] w fun e w' => e = .returned r ∧ w = w' := by
  obtain ⟨⟨F, hb, hF⟩, hc⟩ := h
  rw [← hr]
  exact standing_calls t w hb
theorem BallB.may (h : BallB w0 w b to now G) (m t : Int) (hm : okI m) (ht : okI t) (r : Bool) (hr : mayB to G m t = r) : Calls Try.prog 46 #[.pointer (some ⟨b, 0, none⟩), .int .i64 m, .int .i64 t] w fun e w' => e = .returned (.bool r) ∧ w = w' := by
  obtain ⟨⟨F, hb, hF⟩, hc⟩ := h
  rw [← hr]
  exact may_calls m t w hb hm ht
theorem BallB.gave (h : BallB w0 w b to now G) (m t : Int) (hg : gaveB m t = true) : Calls Try.prog 47 #[.pointer (some ⟨b, 0, none⟩), .int .i64 m, .int .i64 t] w (BallR w0 b to now (aput G m t) (.int .i64 0)) := by
  obtain ⟨⟨F, hb, hF⟩, hc⟩ := h
  refine (gave_yes m t w hb hg).mono ?_
  rintro e w' ⟨rfl, h1, h2⟩
  exact ⟨rfl, ⟨F, h1, hF⟩, hc.trans' h2 (fun i hi => .inr (hF i hi))⟩
theorem BallB.stand {A : Option Addr} {n c : Nat} {vs : List Int} (h : BallB w0 w b to now G) (epoch t : Int) (hv : Ints w A n vs) (hs : standB vs epoch t = true) (hb' : (atNow now t).isSome = false) :
    Calls Try.prog 44 #[.pointer (some ⟨b, 0, none⟩), .int .i64 epoch, .slice A n c, .int .i64 t] w (BallR w0 b to (some (epoch, t + 2 * to, fresh vs)) G (.int .i64 0)) := by
  obtain ⟨⟨F, hb, hF⟩, hc⟩ := h
  refine (stand_ok epoch t w hb hv hs hb').mono ?_
  rintro e w' ⟨rfl, h1, h2⟩
  refine ⟨rfl, ⟨_, h1, fun i hi => ?_⟩, hc.trans' h2 (fun i hi => .inr (hF i hi))⟩
  have := hc.size
  rcases hi with hi | hi
  · exact hF i hi
  · omega
theorem BallB.busy {A : Option Addr} {n c : Nat} {vs : List Int} (h : BallB w0 w b to now G) (epoch t : Int) (hv : Ints w A n vs) (hs : standB vs epoch t = true) (hb' : (atNow now t).isSome = true) :
    Calls Try.prog 44 #[.pointer (some ⟨b, 0, none⟩), .int .i64 epoch, .slice A n c, .int .i64 t] w (BallR w0 b to now G (.int .i64 21)) := by
  have h0 := h
  obtain ⟨⟨F, hb, hF⟩, hc⟩ := h
  refine (stand_busy epoch t w hb hv hs hb').mono ?_
  rintro e w' ⟨rfl, h2⟩
  exact ⟨rfl, h0.chg h2⟩
theorem BallB.bad {A : Option Addr} {n c : Nat} {vs : List Int} (h : BallB w0 w b to now G) (epoch t : Int) (hv : Ints w A n vs) (hn : n ≤ 17592186043904) (hs : standB vs epoch t = false) :
    Calls Try.prog 44 #[.pointer (some ⟨b, 0, none⟩), .int .i64 epoch, .slice A n c, .int .i64 t] w (BallR w0 b to now G (.int .i64 10)) := by
  have h0 := h
  obtain ⟨⟨F, hb, hF⟩, hc⟩ := h
  refine (stand_no epoch t w hv hn hs).mono ?_
  rintro e w' ⟨rfl, h2⟩
  exact ⟨rfl, h0.chg h2⟩
def BallNewB (w0 : World) (to : Int) (e : Ending) (w' : World) : Prop := ∃ b, e = .returned (.tuple #[.pointer (some ⟨b, 0, none⟩), .int .i64 0]) ∧ BallB w0 w' b to none []
theorem ballNew (to : Int) (w0 w : World) (hc : Chg (fun _ => False) w0 w) (h1 : 2 ≤ to) (h2 : to ≤ 1073741824) : Calls Try.prog 43 #[.int .i64 to] w (BallNewB w0 to) := by
  refine (ballotNew_yes to w h1 h2).mono ?_
  rintro e w' ⟨b, rfl, hb, hc'⟩
  have := hc.size
  exact ⟨b, rfl, ⟨_, hb, fun i hi => by omega⟩, hc.trans hc'⟩
end
end Go.Proofs.Ytgmekeeemimnpaa
