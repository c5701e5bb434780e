/- A watch over a law's own memory; the anchor of layer 9's statements, walked. -/
import Derived.Test.YtgmekeeemimnpaaW3
namespace Go.Proofs.Ytgmekeeemimnpaa
open Go Go.Maps Go.MapKept Go.RowKit

/-- A watch that a law has made since the world w0: nothing that was there has turned. -/
def WatB (w0 w : World) (b : Nat) (to : Int) (L : List (Int × Peer)) : Prop :=
  (∃ F, WMem w F b to L ∧ ∀ i, F i → w0.heap.size ≤ i ∧ i < w.heap.size) ∧ WOk L ∧ (2 ≤ to ∧ to ≤ 1073741824) ∧ Chg (fun _ => False) w0 w
theorem WatB.chg' {w0 w w' : World} {b : Nat} {to : Int} {L : List (Int × Peer)} (h : WatB w0 w b to L) (hc : Chg (fun _ => False) w w') : WatB w0 w' b to L := by
  obtain ⟨⟨F, hb, hF⟩, hk, ht, c0⟩ := h
  exact ⟨⟨F, hb.chg hc (fun _ _ h => h), fun i hi => ⟨(hF i hi).1, Nat.lt_of_lt_of_le (hF i hi).2 hc.size⟩⟩, hk, ht, c0.trans hc⟩
def WatR (w0 : World) (b : Nat) (to : Int) (L : List (Int × Peer)) (r : Value) (e : Ending) (w' : World) : Prop := e = .returned r ∧ WatB w0 w' b to L
/-- A slice of ints that a call has made, beside a watch. -/
def WatS (w0 w : World) (b : Nat) (to : Int) (L : List (Int × Peer)) (xs : List Int) (n : Nat) (e : Ending) (w' : World) : Prop := ∃ A c, e = .returned (.slice A n c) ∧ Ints w' A n xs ∧ (∀ b off, A = some ⟨b, off, none⟩ → w.heap.size ≤ b) ∧ WatB w0 w' b to L ∧ Chg (fun _ => False) w w'
section
variable {w0 w : World} {b : Nat} {to : Int} {L : List (Int × Peer)}
theorem WatB.wok (h : WatB w0 w b to L) : WOk L := h.2.1
theorem WatB.below (h : WatB w0 w b to L) : Below w0.heap.size w0 w := h.2.2.2.none_below
theorem WatB.ends {F : Nat → Prop} {L' : List (Int × Peer)} {r : Value} {e : Ending} {w' : World} (hF : ∀ i, F i → w0.heap.size ≤ i ∧ i < w.heap.size) (ht : 2 ≤ to ∧ to ≤ 1073741824) (hc : Chg (fun _ => False) w0 w) (hk : WOk L') (hr : WEnds w F b to L' r e w') : WatR w0 b to L' r e w' := by
  obtain ⟨rfl, h1, h2⟩ := hr
  have s1 := hc.size
  have s2 := h2.size
  refine ⟨rfl, ⟨_, h1, fun i hi => ?_⟩, hk, ht, hc.trans' h2 (fun i hi => .inr (hF i hi).1)⟩
  rcases hi with hi | hi
  · have := hF i hi; omega
  · omega
theorem WatB.add (h : WatB w0 w b to L) (id now : Int) (hid : okI id) (r : Int) (L' : List (Int × Peer)) (hr : addW L id now = (r, L')) :
    Calls Try.prog 50 #[.pointer (some ⟨b, 0, none⟩), .int .i64 id, .int .i64 now] w (WatR w0 b to L' (.int .i64 r)) := by
  obtain ⟨⟨F, hb, hF⟩, hk, ht, hc⟩ := h
  have hk' := hk.add (id := id) (now := now)
  have := wadd_calls id now w hb hk hid
  rw [hr] at this hk'
  exact this.mono fun e w' he => WatB.ends hF ht hc hk' he
theorem WatB.ping (h : WatB w0 w b to L) (id now : Int) (hid : okI id) (r : Int) (L' : List (Int × Peer)) (hr : pingW L id now = (r, L')) :
    Calls Try.prog 51 #[.pointer (some ⟨b, 0, none⟩), .int .i64 id, .int .i64 now] w (WatR w0 b to L' (.int .i64 r)) := by
  obtain ⟨⟨F, hb, hF⟩, hk, ht, hc⟩ := h
  have hk' := hk.ping (id := id) (now := now)
  have := wping_calls id now w hb hid
  rw [hr] at this hk'
  exact this.mono fun e w' he => WatB.ends hF ht hc hk' he
theorem WatB.pong (h : WatB w0 w b to L) (id now : Int) (hid : okI id) (r : Int) (L' : List (Int × Peer)) (hr : pongW L id now = (r, L')) :
    Calls Try.prog 54 #[.pointer (some ⟨b, 0, none⟩), .int .i64 id, .int .i64 now] w (WatR w0 b to L' (.int .i64 r)) := by
  obtain ⟨⟨F, hb, hF⟩, hk, ht, hc⟩ := h
  have hk' := hk.pong (id := id) (now := now)
  have := wpong_calls id now w hb hid
  rw [hr] at this hk'
  exact this.mono fun e w' he => WatB.ends hF ht hc hk' he
theorem WatB.remove (h : WatB w0 w b to L) (id : Int) (hid : okI id) (r : Bool) (L' : List (Int × Peer)) (hr : (aget L id).isSome = r) (hL : adel L id = L') :
    Calls Try.prog 70 #[.pointer (some ⟨b, 0, none⟩), .int .i64 id] w (WatR w0 b to L' (.bool r)) := by
  obtain ⟨⟨F, hb, hF⟩, hk, ht, hc⟩ := h
  have hk' := hk.del (id := id)
  have := wremove_calls id w hb hid
  rw [hr, hL] at this
  rw [hL] at hk'
  exact this.mono fun e w' he => WatB.ends hF ht hc hk' he
theorem okI_ids (h : WOk L) {hB : Peer → Bool} : ∀ x ∈ whichW hB L, okI x := by
  intro x hx
  unfold whichW at hx
  rw [mem_sortI] at hx
  obtain ⟨q, hq, rfl⟩ := List.mem_map.1 hx
  have := (h.2.2 q (List.mem_filter.1 hq).1).1
  exact okI_iff.2 (by omega)
theorem okI_peers (h : WOk L) : ∀ x ∈ sortI (L.map (·.1)), okI x := by
  intro x hx
  rw [mem_sortI] at hx
  obtain ⟨q, hq, rfl⟩ := List.mem_map.1 hx
  have := (h.2.2 q hq).1
  exact okI_iff.2 (by omega)
theorem WatB.slice {wm w' : World} {xs : List Int} {n : Nat} {A : Option Addr} {n' c : Nat} (h : WatB w0 w b to L) (hx : ∀ x ∈ xs, okI x) (hn : xs.length = n) (hcm : Chg (fun _ => False) w wm) (ho : OwnI w' wm.heap.size 3 (.slice A n' c) xs) (hc : Chg (fun _ => False) wm w') :
    WatS w0 w b to L xs n (.returned (.slice A n' c)) w' := by
  obtain ⟨A', c', hv, _, _, hb⟩ := ho.slice
  cases hv
  subst hn
  have hcc := hcm.trans hc
  exact ⟨A, c, rfl, ho.ints hx rfl, fun b off e => Nat.le_trans hcm.size (hb b off e), h.chg' hcc, hcc⟩
theorem WatB.due (h : WatB w0 w b to L) (now : Int) (hn : okI now) (xs : List Int) (hx : whichW (dueB to now) L = xs) (n : Nat) (hl : xs.length = n) :
    Calls Try.prog 52 #[.pointer (some ⟨b, 0, none⟩), .int .i64 now] w (WatS w0 w b to L xs n) := by
  have h0 := h
  have hok := okI_ids h.wok (hB := dueB to now)
  rw [hx] at hok
  obtain ⟨⟨F, hb, hF⟩, hk, ht, hc⟩ := h
  refine (due_calls w now hb hk ht hn).mono ?_
  rintro e w' ⟨A, n', c, rfl, ho, hc'⟩
  unfold whichW at hx
  rw [hx] at ho
  exact h0.slice hok hl (((Chg.refl _ w).alloc _).alloc _) ho hc'
theorem WatB.late (h : WatB w0 w b to L) (now : Int) (hn : okI now) (xs : List Int) (hx : whichW (lateB to now) L = xs) (n : Nat) (hl : xs.length = n) :
    Calls Try.prog 53 #[.pointer (some ⟨b, 0, none⟩), .int .i64 now] w (WatS w0 w b to L xs n) := by
  have h0 := h
  have hok := okI_ids h.wok (hB := lateB to now)
  rw [hx] at hok
  obtain ⟨⟨F, hb, hF⟩, hk, ht, hc⟩ := h
  refine (late_calls w now hb hk ht hn).mono ?_
  rintro e w' ⟨A, n', c, rfl, ho, hc'⟩
  unfold whichW at hx
  rw [hx] at ho
  exact h0.slice hok hl (((Chg.refl _ w).alloc _).alloc _) ho hc'
theorem WatB.peers (h : WatB w0 w b to L) (xs : List Int) (hx : sortI (L.map (·.1)) = xs) (n : Nat) (hl : xs.length = n) :
    Calls Try.prog 69 #[.pointer (some ⟨b, 0, none⟩)] w (WatS w0 w b to L xs n) := by
  have h0 := h
  have hok := okI_peers h.wok
  rw [hx] at hok
  obtain ⟨⟨F, hb, hF⟩, hk, ht, hc⟩ := h
  refine (peers_calls w hb (by have := hk.1; omega)).mono ?_
  rintro e w' ⟨A, n', c, rfl, ho, hc'⟩
  rw [hx] at ho
  exact h0.slice hok hl (Chg.refl _ w) ho hc'
theorem WatB.waits (h : WatB w0 w b to L) (id : Int) (hid : okI id) (s : Int) (r : Bool) (hr : waitsW L id = (s, r)) :
    Calls Try.prog 112 #[.pointer (some ⟨b, 0, none⟩), .int .i64 id] w fun e w' => e = .returned (.tuple #[.int .i64 s, .bool r]) ∧ Chg (fun _ => False) w w' := by
  obtain ⟨⟨F, hb, hF⟩, hk, ht, hc⟩ := h
  have := waits_calls id w hb hid
  rw [hr] at this
  exact this
def WatNewB (w0 w : World) (to : Int) (e : Ending) (w' : World) : Prop := ∃ b, e = .returned (.tuple #[.pointer (some ⟨b, 0, none⟩), .int .i64 0]) ∧ WatB w0 w' b to [] ∧ w.heap.size ≤ b ∧ Chg (fun _ => False) w w'
theorem watchNew (to : Int) (w0 w : World) (hc : Chg (fun _ => False) w0 w) (h1 : 2 ≤ to) (h2 : to ≤ 1073741824) : Calls Try.prog 49 #[.int .i64 to] w (WatNewB w0 w to) := by
  refine (watchNew_yes to w h1 h2).mono ?_
  rintro e w' ⟨b, rfl, hb, hc'⟩
  have := hc.size
  have hF : w.heap.size ≤ b := by obtain ⟨g, PL, st, _, _, _, _, f1, _⟩ := hb; exact f1.1
  exact ⟨b, rfl, ⟨⟨_, hb, fun i hi => by omega⟩, WOk.nil, ⟨h1, h2⟩, hc.trans hc'⟩, hF, hc'⟩
end

theorem whichW_sing (hB : Peer → Bool) (id : Int) (p : Peer) : whichW hB [(id, p)] = if hB p then [id] else [] := by
  unfold whichW
  cases h : hB p <;> simp [h, sortI]

set_option maxRecDepth 100000 in
set_option maxHeartbeats 4000000 in
theorem anchor09 (w : World) : Calls Try.prog 48 #[] w fun e w' => e = .returned (.bool true) ∧ Chg (fun _ => False) w w' := by
  have HN := hideIt (watchNew 10 w w (Chg.refl _ _) (by omega) (by omega))
  have k1 : okI 1 := okI_iff.2 (by omega)
  have hk : ∀ n : Int, 0 ≤ n → n ≤ 100 → okI n := fun n _ _ => okI_iff.2 (by omega)
  have HK := hideIt hk
  clear hk
  have p1 := hideIt (show addW [] 1 0 = (0, [(1, (0, false, 0))]) by decide)
  have p2 := hideIt (show whichW (dueB 10 4) [(1, (0, false, 0))] = [] by rw [whichW_sing]; decide)
  have p3 := hideIt (show whichW (dueB 10 5) [(1, (0, false, 0))] = [1] by rw [whichW_sing]; decide)
  have p4 := hideIt (show pingW [(1, (0, false, 0))] 1 5 = (0, [(1, (5, true, 5))]) by decide)
  have p5 := hideIt (show whichW (lateB 10 15) [(1, (5, true, 5))] = [] by rw [whichW_sing]; decide)
  have p6 := hideIt (show whichW (lateB 10 16) [(1, (5, true, 5))] = [1] by rw [whichW_sing]; decide)
  have p7 := hideIt (show pongW [(1, (5, true, 5))] 1 16 = (0, [(1, (0, false, 16))]) by decide)
  have p8 := hideIt (show whichW (lateB 10 99) [(1, (0, false, 16))] = [] by rw [whichW_sing]; decide)
  have p9 := hideIt (show whichW (dueB 10 21) [(1, (0, false, 16))] = [1] by rw [whichW_sing]; decide)
  go_enter Try.func48, Try.ntmps48
  go_wp2_with fail
  refine HN.out.mono ?_
  rintro e w1 ⟨b, rfl, b1, _, _⟩
  go_wp2_with fail
  refine (b1.add 1 0 k1 _ _ p1.out).mono ?_
  rintro e w2 ⟨rfl, b2⟩
  go_wp2_with fail
  refine (b2.due 4 (HK.out 4 (by omega) (by omega)) _ p2.out 0 rfl).mono ?_
  rintro e w3 ⟨A3, n3, rfl, i3, a3, b3, c3⟩
  clear i3 a3 c3 b2
  go_wp2_with fail
  refine (b3.due 5 (HK.out 5 (by omega) (by omega)) _ p3.out 1 rfl).mono ?_
  rintro e w4 ⟨A4, n4, rfl, i4, a4, b4, c4⟩
  clear i4 a4 c4 b3
  go_wp2_with fail
  refine (b4.ping 1 5 k1 _ _ p4.out).mono ?_
  rintro e w5 ⟨rfl, b5⟩
  go_wp2_with fail
  refine (b5.late 15 (HK.out 15 (by omega) (by omega)) _ p5.out 0 rfl).mono ?_
  rintro e w6 ⟨A6, n6, rfl, i6, a6, b6, c6⟩
  clear i6 a6 c6 b5
  go_wp2_with fail
  refine (b6.late 16 (HK.out 16 (by omega) (by omega)) _ p6.out 1 rfl).mono ?_
  rintro e w7 ⟨A7, n7, rfl, i7, a7, b7, c7⟩
  clear i7 a7 c7 b6
  go_wp2_with fail
  refine (b7.pong 1 16 k1 _ _ p7.out).mono ?_
  rintro e w8 ⟨rfl, b8⟩
  go_wp2_with fail
  refine (b8.late 99 (HK.out 99 (by omega) (by omega)) _ p8.out 0 rfl).mono ?_
  rintro e w9 ⟨A9, n9, rfl, i9, a9, b9, c9⟩
  clear i9 a9 c9 b8
  go_wp2_with fail
  refine (b9.due 21 (HK.out 21 (by omega) (by omega)) _ p9.out 1 rfl).mono ?_
  rintro e w10 ⟨A10, n10, rfl, i10, a10, b10, c10⟩
  clear i10 a10 c10 b9
  go_wp2_with fail
  go_ret
  exact ⟨rfl, b10.2.2.2⟩
end Go.Proofs.Ytgmekeeemimnpaa
