/- Two watches over a law's own memory; the statements' own 'same' of equal lists. (Printed by wip/gen/wshifts.py.) -/
import Derived.Test.YtgmekeeemimnpaaWAct
namespace Go.Proofs.Ytgmekeeemimnpaa
open Go Go.Maps Go.MapKept Go.RowKit

set_option maxRecDepth 100000 in
set_option maxHeartbeats 4000000 in
theorem same_eq {A B : Option Addr} {n m c d : Nat} {l : List Int} (w : World) (hl : Ints w A n l) (hm : Ints w B m l) (hn : n ≤ 1000000) :
    Calls Try.prog 71 #[.slice A n c, .slice B m d] w fun e w' => e = .returned (.bool true) ∧ Chg (fun _ => False) w w' := by
  obtain rfl : m = n := by rw [← hl.len, ← hm.len]
  have HL := hideIt hl
  have HM := hideIt hm
  clear hl hm
  go_enter Try.func71, Try.ntmps71
  go_wp2
  go_loop [14] (fun i => ∃ k : Nat, k ≤ m ∧ i = .int .i64 k) (fun i => m - (intOf i).toNat)
  case atStart => exact ⟨0, by omega, rfl⟩
  case round =>
    obtain ⟨k, hk, rfl⟩ := hrel
    by_cases hlt : k < m
    · obtain ⟨p, off, rfl, hbl, hcell⟩ := HM.out.at_ (by omega)
      obtain ⟨p2, off2, rfl, hbl2, hcell2⟩ := HL.out.at_ (by omega)
      have hx := hcell k hlt
      have hy := hcell2 k hlt
      obtain ⟨t, hT⟩ : ∃ t, l.getD k 0 = t := ⟨_, rfl⟩
      rw [hT] at hx hy
      clear hT hcell hcell2
      go_wp2
      exact ⟨⟨k + 1, by omega, by go_num⟩, by simp [intOf]; omega⟩
    · obtain rfl : k = m := by omega
      go_wp2
      go_ret
      exact ⟨rfl, Chg.refl _ _⟩

/-- Two watches, apart, that a law has made since the world w0. -/
def Wat2 (G : Nat → Prop) (w0 w : World) (a b : Nat) (to : Int) (La Lb : List (Int × Peer)) : Prop :=
  ∃ Fa Fb, WMem w Fa a to La ∧ WMem w Fb b to Lb ∧ (∀ i, G i → i < w.heap.size ∧ ¬ Fa i ∧ ¬ Fb i) ∧ (∀ i, Fa i → ¬ Fb i) ∧ (∀ i, Fa i → w0.heap.size ≤ i ∧ i < w.heap.size) ∧ (∀ i, Fb i → w0.heap.size ≤ i ∧ i < w.heap.size) ∧ WOk La ∧ WOk Lb ∧ (2 ≤ to ∧ to ≤ 1073741824) ∧ Chg (fun _ => False) w0 w
def Wat2R (G : Nat → Prop) (w0 w : World) (a b : Nat) (to : Int) (La Lb : List (Int × Peer)) (r : Value) (e : Ending) (w' : World) : Prop := e = .returned r ∧ Wat2 G w0 w' a b to La Lb ∧ Chg (fun i => ¬ G i) w w'
/-- A slice of ints that a call has made, beside two watches. -/
def Wat2S (G : Nat → Prop) (w0 w : World) (a b : Nat) (to : Int) (La Lb : List (Int × Peer)) (xs : List Int) (n : Nat) (e : Ending) (w' : World) : Prop := ∃ A c, e = .returned (.slice A n c) ∧ Ints w' A n xs ∧ Wat2 G w0 w' a b to La Lb ∧ Chg (fun _ => False) w w'
section
variable {G : Nat → Prop} {w0 w w' : World} {a b : Nat} {to : Int} {La Lb La' Lb' : List (Int × Peer)} {Fa Fb : Nat → Prop}
theorem Wat2.swap (h : Wat2 G w0 w a b to La Lb) : Wat2 G w0 w b a to Lb La := by
  obtain ⟨Fa, Fb, ha, hb, hg, hd, hF, hG, ka, kb, ht, hc⟩ := h
  exact ⟨Fb, Fa, hb, ha, fun i hi => ⟨(hg i hi).1, (hg i hi).2.2, (hg i hi).2.1⟩, fun i h1 h2 => hd i h2 h1, hG, hF, kb, ka, ht, hc⟩
theorem Wat2.chg' (h : Wat2 G w0 w a b to La Lb) (hc' : Chg (fun _ => False) w w') : Wat2 G w0 w' a b to La Lb := by
  obtain ⟨Fa, Fb, ha, hb, hg, hd, hF, hG, ka, kb, ht, hc⟩ := h
  exact ⟨Fa, Fb, ha.chg hc' (fun _ _ h => h), hb.chg hc' (fun _ _ h => h), fun i hi => ⟨Nat.lt_of_lt_of_le (hg i hi).1 hc'.size, (hg i hi).2⟩, hd, fun i hi => ⟨(hF i hi).1, Nat.lt_of_lt_of_le (hF i hi).2 hc'.size⟩, fun i hi => ⟨(hG i hi).1, Nat.lt_of_lt_of_le (hG i hi).2 hc'.size⟩, ka, kb, ht, hc.trans hc'⟩
theorem Wat2.wokA (h : Wat2 G w0 w a b to La Lb) : WOk La := by
  obtain ⟨Fa, Fb, ha, hb, hg, hd, hF, hG, ka, kb, ht, hc⟩ := h; exact ka
theorem Wat2.wokB (h : Wat2 G w0 w a b to La Lb) : WOk Lb := h.swap.wokA
theorem Wat2.chg (h : Wat2 G w0 w a b to La Lb) : Chg (fun _ => False) w0 w := by
  obtain ⟨Fa, Fb, ha, hb, hg, hd, hF, hG, ka, kb, ht, hc⟩ := h; exact hc
theorem Wat2.one (h : Wat2 G w0 w a b to La Lb) : WatB w0 w a to La := by
  obtain ⟨Fa, Fb, ha, hb, hg, hd, hF, hG, ka, kb, ht, hc⟩ := h; exact ⟨⟨Fa, ha, hF⟩, ka, ht, hc⟩
theorem Wat2.endsA {r : Value} {e : Ending} (hb : WMem w Fb b to Lb) (hg : ∀ i, G i → i < w.heap.size ∧ ¬ Fa i ∧ ¬ Fb i) (hd : ∀ i, Fa i → ¬ Fb i) (hF : ∀ i, Fa i → w0.heap.size ≤ i ∧ i < w.heap.size) (hG : ∀ i, Fb i → w0.heap.size ≤ i ∧ i < w.heap.size) (ht : 2 ≤ to ∧ to ≤ 1073741824) (hc : Chg (fun _ => False) w0 w)
    (ka : WOk La') (kb : WOk Lb) (hr : WEnds w Fa a to La' r e w') : Wat2R G w0 w a b to La' Lb r e w' := by
  obtain ⟨rfl, h1, h2⟩ := hr
  have s1 := hc.size
  have s2 := h2.size
  refine ⟨rfl, ⟨_, Fb, h1, hb.chg h2 (fun i hi hi' => hd i hi' hi), fun i hi => ⟨Nat.lt_of_lt_of_le (hg i hi).1 s2, fun hi' => ?_, (hg i hi).2.2⟩, fun i hi hg => ?_, fun i hi => ?_, fun i hi => ⟨(hG i hi).1, Nat.lt_of_lt_of_le (hG i hi).2 s2⟩, ka, kb, ht, hc.trans' h2 (fun i hi => .inr (hF i hi).1)⟩, h2.mono (fun i hi hgi => (hg i hgi).2.1 hi)⟩
  · rcases hi' with hi' | hi'
    · exact (hg i hi).2.1 hi'
    · have := (hg i hi).1; omega
  · rcases hi with hi | hi
    · exact hd i hi hg
    · have := hG i hg; omega
  · rcases hi with hi | hi
    · have := hF i hi; omega
    · omega
theorem Wat2.addA (h : Wat2 G w0 w a b to La Lb) (id now : Int) (hid : okI id) (r : Int) (La' : List (Int × Peer)) (hr : addW La id now = (r, La')) :
    Calls Try.prog 50 #[.pointer (some ⟨a, 0, none⟩), .int .i64 id, .int .i64 now] w (Wat2R G w0 w a b to La' Lb (.int .i64 r)) := by
  obtain ⟨Fa, Fb, ha, hb, hg, hd, hF, hG, ka, kb, ht, hc⟩ := h
  have hk' := ka.add (id := id) (now := now)
  have := wadd_calls id now w ha ka hid
  rw [hr] at this hk'
  exact this.mono fun e w' he => Wat2.endsA hb hg hd hF hG ht hc hk' kb he
theorem Wat2.addB (h : Wat2 G w0 w a b to La Lb) (id now : Int) (hid : okI id) (r : Int) (Lb' : List (Int × Peer)) (hr : addW Lb id now = (r, Lb')) :
    Calls Try.prog 50 #[.pointer (some ⟨b, 0, none⟩), .int .i64 id, .int .i64 now] w (Wat2R G w0 w a b to La Lb' (.int .i64 r)) :=
  (h.swap.addA id now hid r Lb' hr).mono fun _ _ he => ⟨he.1, he.2.1.swap, he.2.2⟩
theorem Wat2.pingA (h : Wat2 G w0 w a b to La Lb) (id now : Int) (hid : okI id) (r : Int) (La' : List (Int × Peer)) (hr : pingW La id now = (r, La')) :
    Calls Try.prog 51 #[.pointer (some ⟨a, 0, none⟩), .int .i64 id, .int .i64 now] w (Wat2R G w0 w a b to La' Lb (.int .i64 r)) := by
  obtain ⟨Fa, Fb, ha, hb, hg, hd, hF, hG, ka, kb, ht, hc⟩ := h
  have hk' := ka.ping (id := id) (now := now)
  have := wping_calls id now w ha hid
  rw [hr] at this hk'
  exact this.mono fun e w' he => Wat2.endsA hb hg hd hF hG ht hc hk' kb he
theorem Wat2.pingB (h : Wat2 G w0 w a b to La Lb) (id now : Int) (hid : okI id) (r : Int) (Lb' : List (Int × Peer)) (hr : pingW Lb id now = (r, Lb')) :
    Calls Try.prog 51 #[.pointer (some ⟨b, 0, none⟩), .int .i64 id, .int .i64 now] w (Wat2R G w0 w a b to La Lb' (.int .i64 r)) :=
  (h.swap.pingA id now hid r Lb' hr).mono fun _ _ he => ⟨he.1, he.2.1.swap, he.2.2⟩
theorem Wat2.pongA (h : Wat2 G w0 w a b to La Lb) (id now : Int) (hid : okI id) (r : Int) (La' : List (Int × Peer)) (hr : pongW La id now = (r, La')) :
    Calls Try.prog 54 #[.pointer (some ⟨a, 0, none⟩), .int .i64 id, .int .i64 now] w (Wat2R G w0 w a b to La' Lb (.int .i64 r)) := by
  obtain ⟨Fa, Fb, ha, hb, hg, hd, hF, hG, ka, kb, ht, hc⟩ := h
  have hk' := ka.pong (id := id) (now := now)
  have := wpong_calls id now w ha hid
  rw [hr] at this hk'
  exact this.mono fun e w' he => Wat2.endsA hb hg hd hF hG ht hc hk' kb he
theorem Wat2.pongB (h : Wat2 G w0 w a b to La Lb) (id now : Int) (hid : okI id) (r : Int) (Lb' : List (Int × Peer)) (hr : pongW Lb id now = (r, Lb')) :
    Calls Try.prog 54 #[.pointer (some ⟨b, 0, none⟩), .int .i64 id, .int .i64 now] w (Wat2R G w0 w a b to La Lb' (.int .i64 r)) :=
  (h.swap.pongA id now hid r Lb' hr).mono fun _ _ he => ⟨he.1, he.2.1.swap, he.2.2⟩
theorem Wat2.removeA (h : Wat2 G w0 w a b to La Lb) (id : Int) (hid : okI id) (r : Bool) (La' : List (Int × Peer)) (hr : (aget La id).isSome = r) (hL : adel La id = La') :
    Calls Try.prog 70 #[.pointer (some ⟨a, 0, none⟩), .int .i64 id] w (Wat2R G w0 w a b to La' Lb (.bool r)) := by
  obtain ⟨Fa, Fb, ha, hb, hg, hd, hF, hG, ka, kb, ht, hc⟩ := h
  have hk' := ka.del (id := id)
  have := wremove_calls id w ha hid
  rw [hr, hL] at this; rw [hL] at hk'
  exact this.mono fun e w' he => Wat2.endsA hb hg hd hF hG ht hc hk' kb he
theorem Wat2.removeB (h : Wat2 G w0 w a b to La Lb) (id : Int) (hid : okI id) (r : Bool) (Lb' : List (Int × Peer)) (hr : (aget Lb id).isSome = r) (hL : adel Lb id = Lb') :
    Calls Try.prog 70 #[.pointer (some ⟨b, 0, none⟩), .int .i64 id] w (Wat2R G w0 w a b to La Lb' (.bool r)) :=
  (h.swap.removeA id hid r Lb' hr hL).mono fun _ _ he => ⟨he.1, he.2.1.swap, he.2.2⟩
theorem Wat2.dueA (h : Wat2 G w0 w a b to La Lb) (now : Int) (hn : okI now) (xs : List Int) (hx : whichW (dueB to now) La = xs) (n : Nat) (hl : xs.length = n) :
    Calls Try.prog 52 #[.pointer (some ⟨a, 0, none⟩), .int .i64 now] w (Wat2S G w0 w a b to La Lb xs n) :=
  (h.one.due now hn xs hx n hl).mono fun e w' he => by
    obtain ⟨A, c, he, hi, _, _, hc⟩ := he
    exact ⟨A, c, he, hi, h.chg' hc, hc⟩
theorem Wat2.dueB (h : Wat2 G w0 w a b to La Lb) (now : Int) (hn : okI now) (xs : List Int) (hx : whichW (dueB to now) Lb = xs) (n : Nat) (hl : xs.length = n) :
    Calls Try.prog 52 #[.pointer (some ⟨b, 0, none⟩), .int .i64 now] w (Wat2S G w0 w a b to La Lb xs n) :=
  (h.swap.dueA now hn xs hx n hl).mono fun e w' he => by
    obtain ⟨A, c, he, hi, hw, hc⟩ := he
    exact ⟨A, c, he, hi, hw.swap, hc⟩
theorem Wat2.lateA (h : Wat2 G w0 w a b to La Lb) (now : Int) (hn : okI now) (xs : List Int) (hx : whichW (lateB to now) La = xs) (n : Nat) (hl : xs.length = n) :
    Calls Try.prog 53 #[.pointer (some ⟨a, 0, none⟩), .int .i64 now] w (Wat2S G w0 w a b to La Lb xs n) :=
  (h.one.late now hn xs hx n hl).mono fun e w' he => by
    obtain ⟨A, c, he, hi, _, _, hc⟩ := he
    exact ⟨A, c, he, hi, h.chg' hc, hc⟩
theorem Wat2.lateB (h : Wat2 G w0 w a b to La Lb) (now : Int) (hn : okI now) (xs : List Int) (hx : whichW (lateB to now) Lb = xs) (n : Nat) (hl : xs.length = n) :
    Calls Try.prog 53 #[.pointer (some ⟨b, 0, none⟩), .int .i64 now] w (Wat2S G w0 w a b to La Lb xs n) :=
  (h.swap.lateA now hn xs hx n hl).mono fun e w' he => by
    obtain ⟨A, c, he, hi, hw, hc⟩ := he
    exact ⟨A, c, he, hi, hw.swap, hc⟩
theorem Wat2.peersA (h : Wat2 G w0 w a b to La Lb) (xs : List Int) (hx : sortI (La.map (·.1)) = xs) (n : Nat) (hl : xs.length = n) :
    Calls Try.prog 69 #[.pointer (some ⟨a, 0, none⟩)] w (Wat2S G w0 w a b to La Lb xs n) :=
  (h.one.peers xs hx n hl).mono fun e w' he => by
    obtain ⟨A, c, he, hi, _, _, hc⟩ := he
    exact ⟨A, c, he, hi, h.chg' hc, hc⟩
theorem Wat2.peersB (h : Wat2 G w0 w a b to La Lb) (xs : List Int) (hx : sortI (Lb.map (·.1)) = xs) (n : Nat) (hl : xs.length = n) :
    Calls Try.prog 69 #[.pointer (some ⟨b, 0, none⟩)] w (Wat2S G w0 w a b to La Lb xs n) :=
  (h.swap.peersA xs hx n hl).mono fun e w' he => by
    obtain ⟨A, c, he, hi, hw, hc⟩ := he
    exact ⟨A, c, he, hi, hw.swap, hc⟩
theorem Wat2.guard (h : Wat2 G w0 w a b to La Lb) (hc' : Chg (fun _ => False) w w') (hs : w.heap.size < w'.heap.size) : Wat2 (fun i => i = w.heap.size) w0 w' a b to La Lb := by
  obtain ⟨Fa, Fb, ha, hb, hg, hd, hF, hG, ka, kb, ht, hc⟩ := h
  exact ⟨Fa, Fb, ha.chg hc' (fun _ _ h => h), hb.chg hc' (fun _ _ h => h), fun i hi => ⟨by omega, fun h => by have := hF i h; omega, fun h => by have := hG i h; omega⟩, hd, fun i hi => ⟨(hF i hi).1, by have := hF i hi; omega⟩, fun i hi => ⟨(hG i hi).1, by have := hG i hi; omega⟩, ka, kb, ht, hc.trans hc'⟩
theorem Wat2.free (h : Wat2 G w0 w a b to La Lb) : Wat2 (fun _ => False) w0 w a b to La Lb := by
  obtain ⟨Fa, Fb, ha, hb, hg, r⟩ := h
  exact ⟨Fa, Fb, ha, hb, fun _ h => h.elim, r⟩
theorem WatB.two (h : WatB w0 w a to La) {e : Ending} (hn : WatNewB w w to e w') : ∃ b, e = .returned (.tuple #[.pointer (some ⟨b, 0, none⟩), .int .i64 0]) ∧ Wat2 (fun _ => False) w0 w' a b to La [] := by
  obtain ⟨b, he, ⟨⟨Fb, hb, hG⟩, kb, _, hc'⟩, _, _⟩ := hn
  obtain ⟨⟨Fa, ha, hF⟩, ka, ht, hc⟩ := h
  have s1 := hc.size
  have s2 := hc'.size
  exact ⟨b, he, Fa, Fb, ha.chg hc' (fun _ _ h => h), hb, fun _ h => h.elim, fun i h1 h2 => by have := hF i h1; have := hG i h2; omega, fun i hi => ⟨(hF i hi).1, by have := hF i hi; omega⟩, fun i hi => ⟨by have := hG i hi; omega, (hG i hi).2⟩, ka, kb, ht, hc.trans hc'⟩
end
end Go.Proofs.Ytgmekeeemimnpaa
