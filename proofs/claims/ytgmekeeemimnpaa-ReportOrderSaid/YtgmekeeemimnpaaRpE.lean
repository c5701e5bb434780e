/- Two books of one law, apart; a map's list under a filter of its keys. -/
import Derived.Test.YtgmekeeemimnpaaRpD
namespace Go.Proofs.Ytgmekeeemimnpaa
open Go Go.Maps Go.MapKept Go.RowKit

section
variable {κ α : Type} [DecidableEq κ]
theorem aget_filter (q : κ → Bool) (L : List (κ × α)) (x : κ) (h : q x = true) : aget (L.filter (fun p => q p.1)) x = aget L x := by
  unfold aget
  rw [List.find?_filter]
  congr 2
  funext p
  by_cases e : p.1 = x
  · simp [e, h]
  · simp [e]
theorem filter_aput (q : κ → Bool) (L : List (κ × α)) (x : κ) (v : α) : (aput L x v).filter (fun p => q p.1) = if q x then aput (L.filter (fun p => q p.1)) x v else L.filter (fun p => q p.1) := by
  unfold aput
  by_cases hs : (aget L x).isSome
  · rw [if_pos hs, List.filter_map]
    have hc : ((fun p : κ × α => q p.1) ∘ fun p => if p.1 = x then (x, v) else p) = fun p => q p.1 := by
      funext p
      simp only [Function.comp]
      split
      · next e => rw [e]
      · rfl
    rw [hc]
    by_cases hq : q x = true
    · rw [if_pos hq, aget_filter q L x hq, if_pos hs]
    · rw [if_neg hq]
      refine (List.map_congr_left (g := id) fun p hp => ?_).trans (List.map_id _)
      have := (List.mem_filter.1 hp).2
      rw [if_neg (fun e => hq (by rw [← e]; exact this))]
      rfl
  · rw [if_neg hs, List.filter_append]
    by_cases hq : q x = true
    · rw [if_pos hq, aget_filter q L x hq, if_neg hs]
      simp [hq]
    · rw [if_neg hq]
      simp [hq]
end

section
variable {w0 w w' : World} {b1 m1 b2 m2 : Nat} {win : Int} {L1 L2 : List (Pr × Int)}
theorem BookB.far {b m g : Nat} {L : List (Pr × Int)} (h : BookB w0 w b m win L) (hc : Chg (fun i => i = g) w w') (h1 : g ≠ b) (h2 : g ≠ m) (h3 : w0.heap.size ≤ g) : BookB w0 w' b m win L :=
  ⟨h.1.chg hc (fun e => h1 e.symm) (fun e => h2 e.symm), h.2.1, h.2.2.1, h.2.2.2.trans' hc (fun i hi => .inr (by subst hi; exact h3))⟩
/-- Two books, apart. -/
def Two (w0 w : World) (b1 m1 b2 m2 : Nat) (win : Int) (L1 L2 : List (Pr × Int)) : Prop := BookB w0 w b1 m1 win L1 ∧ BookB w0 w b2 m2 win L2 ∧ m1 ≠ m2 ∧ m1 ≠ b2 ∧ m2 ≠ b1
theorem Two.symm (h : Two w0 w b1 m1 b2 m2 win L1 L2) : Two w0 w b2 m2 b1 m1 win L2 L1 := ⟨h.2.1, h.1, h.2.2.1.symm, h.2.2.2.2, h.2.2.2.1⟩
theorem Two.new (h : Two w0 w b1 m1 b2 m2 win L1 L2) (hc : Chg (fun _ => False) w w') : Two w0 w' b1 m1 b2 m2 win L1 L2 := ⟨h.1.new hc, h.2.1.new hc, h.2.2⟩
theorem Two.chg (h : Two w0 w b1 m1 b2 m2 win L1 L2) : Chg (fun _ => False) w0 w := h.1.chg
theorem Two.turn {L : List (Pr × Int)} (h : Two w0 w b1 m1 b2 m2 win L1 L2) (hb : BookB w0 w' b1 m1 win L) (hc : Chg (fun i => i = m1) w w') : Two w0 w' b1 m1 b2 m2 win L L2 :=
  ⟨hb, h.2.1.far hc h.2.2.2.1 h.2.2.1 h.1.2.2.1, h.2.2⟩
def TwoR (w0 w : World) (b1 m1 b2 m2 : Nat) (win : Int) (L1 L2 : List (Pr × Int)) (g : Nat) (r : Value) (e : Ending) (w' : World) : Prop := e = .returned r ∧ Two w0 w' b1 m1 b2 m2 win L1 L2 ∧ Chg (fun i => i = g) w w'
theorem Two.note1 (h : Two w0 w b1 m1 b2 m2 win L1 L2) (a y t : Int) (ha : okI a) (hy : okI y) (ht : okI t) (L' : List (Pr × Int)) (hL : noteP L1 a y t = L') :
    Calls Try.prog 58 #[.pointer (some ⟨b1, 0, none⟩), .int .i64 a, .int .i64 y, .int .i64 t] w (TwoR w0 w b1 m1 b2 m2 win L' L2 m1 (.int .i64 (noteE a y t))) := by
  refine (h.1.note a y t ha hy ht _ _ rfl hL).mono ?_
  rintro e w' ⟨rfl, hb, hc⟩
  exact ⟨rfl, h.turn hb hc, hc⟩
theorem Two.note2 (h : Two w0 w b1 m1 b2 m2 win L1 L2) (a y t : Int) (ha : okI a) (hy : okI y) (ht : okI t) (L' : List (Pr × Int)) (hL : noteP L2 a y t = L') :
    Calls Try.prog 58 #[.pointer (some ⟨b2, 0, none⟩), .int .i64 a, .int .i64 y, .int .i64 t] w (TwoR w0 w b1 m1 b2 m2 win L1 L' m2 (.int .i64 (noteE a y t))) := by
  refine (h.symm.note1 a y t ha hy ht _ hL).mono ?_
  rintro e w' ⟨rfl, hb, hc⟩
  exact ⟨rfl, hb.symm, hc⟩
theorem Two.forget1 (h : Two w0 w b1 m1 b2 m2 win L1 L2) (id : Int) (hL : L1.length ≤ 1000000) (L' : List (Pr × Int)) (hL' : L1.filter (fun p => !forgB id p) = L') (r : Nat) (hr : r + L'.length = L1.length) :
    Calls Try.prog 67 #[.pointer (some ⟨b1, 0, none⟩), .int .i64 id] w (TwoR w0 w b1 m1 b2 m2 win L' L2 m1 (.int .i64 (r : Int))) := by
  refine (h.1.forget id hL L' hL' r hr).mono ?_
  rintro e w' ⟨rfl, hb, hc⟩
  exact ⟨rfl, h.turn hb hc, hc⟩
theorem Two.expire1 (h : Two w0 w b1 m1 b2 m2 win L1 L2) (now : Int) (hn : -9223372036854775808 ≤ now ∧ now ≤ 9223372036854775807) (hL : L1.length ≤ 1000000) (L' : List (Pr × Int)) (hL' : L1.filter (fun p => !expB win now p) = L') (r : Nat) (hr : r + L'.length = L1.length) :
    Calls Try.prog 66 #[.pointer (some ⟨b1, 0, none⟩), .int .i64 now] w (TwoR w0 w b1 m1 b2 m2 win L' L2 m1 (.int .i64 (r : Int))) := by
  refine (h.1.expire now hn hL L' hL' r hr).mono ?_
  rintro e w' ⟨rfl, hb, hc⟩
  exact ⟨rfl, h.turn hb hc, hc⟩
theorem Two.expire2 (h : Two w0 w b1 m1 b2 m2 win L1 L2) (now : Int) (hn : -9223372036854775808 ≤ now ∧ now ≤ 9223372036854775807) (hL : L2.length ≤ 1000000) (L' : List (Pr × Int)) (hL' : L2.filter (fun p => !expB win now p) = L') (r : Nat) (hr : r + L'.length = L2.length) :
    Calls Try.prog 66 #[.pointer (some ⟨b2, 0, none⟩), .int .i64 now] w (TwoR w0 w b1 m1 b2 m2 win L1 L' m2 (.int .i64 (r : Int))) := by
  refine (h.symm.expire1 now hn hL L' hL' r hr).mono ?_
  rintro e w' ⟨rfl, hb, hc⟩
  exact ⟨rfl, hb.symm, hc⟩
def TwoBy (w0 w : World) (b1 m1 b2 m2 : Nat) (win : Int) (L1 L2 : List (Pr × Int)) (xs : List Int) (n : Nat) (e : Ending) (w' : World) : Prop :=
  ∃ A c, e = .returned (.slice A n c) ∧ Ints w' A n xs ∧ Two w0 w' b1 m1 b2 m2 win L1 L2 ∧ Chg (fun _ => False) w w'
theorem Two.by1 (h : Two w0 w b1 m1 b2 m2 win L1 L2) (about now : Int) (hn : -9223372036854775808 ≤ now ∧ now ≤ 9223372036854775807) (hL : L1.length ≤ 1000000) (xs : List Int) (hx : sortI (byL win L1 about now) = xs) (n : Nat) (hn' : xs.length = n) :
    Calls Try.prog 63 #[.pointer (some ⟨b1, 0, none⟩), .int .i64 about, .int .i64 now] w (TwoBy w0 w b1 m1 b2 m2 win L1 L2 xs n) := by
  refine (h.1.by_ about now hn hL xs hx n hn').mono ?_
  rintro e w' ⟨A, c, rfl, hi, h1, h2, hb, hc⟩
  exact ⟨A, c, rfl, hi, h.new hc, hc⟩
theorem Two.by2 (h : Two w0 w b1 m1 b2 m2 win L1 L2) (about now : Int) (hn : -9223372036854775808 ≤ now ∧ now ≤ 9223372036854775807) (hL : L2.length ≤ 1000000) (xs : List Int) (hx : sortI (byL win L2 about now) = xs) (n : Nat) (hn' : xs.length = n) :
    Calls Try.prog 63 #[.pointer (some ⟨b2, 0, none⟩), .int .i64 about, .int .i64 now] w (TwoBy w0 w b1 m1 b2 m2 win L1 L2 xs n) := by
  refine (h.symm.by1 about now hn hL xs hx n hn').mono ?_
  rintro e w' ⟨A, c, rfl, hi, h1, hc⟩
  exact ⟨A, c, rfl, hi, h1.symm, hc⟩
theorem bookNew2 (win : Int) (w0 w : World) (hb : BookB w0 w b1 m1 win L1) (h1 : 1 ≤ win) (h2 : win ≤ 1073741824) : Calls Try.prog 57 #[.int .i64 win] w fun e w' => ∃ b m, e = .returned (.tuple #[.pointer (some ⟨b, 0, none⟩), .int .i64 0]) ∧ Two w0 w' b1 m1 b m win L1 [] := by
  refine (bookNew win w0 w hb.chg h1 h2).mono ?_
  rintro e w' ⟨b, m, rfl, hb', s1, s2, hc⟩
  have l1 := hb.1.1.lt
  have l2 := hb.1.2.1.lt
  exact ⟨b, m, rfl, hb.new hc, hb', by omega, by omega, by omega⟩
end
end Go.Proofs.Ytgmekeeemimnpaa
