/- Package report: Failing; the statements' own 'same' of equal lists; the book over a law's memory; the document's example. -/
import Derived.Test.YtgmekeeemimnpaaRp4
import Derived.Test.YtgmekeeemimnpaaQ6
import Derived.Test.YtgmekeeemimnpaaQGrows
namespace Go.Proofs.Ytgmekeeemimnpaa
open Go Go.Maps Go.MapKept Go.RowKit

section
variable {w0 w w' : World} {b m : Nat} {win : Int} {L : List (Pr × Int)}
/-- A book that a law has made since the world w0. -/
def BookB (w0 w : World) (b m : Nat) (win : Int) (L : List (Pr × Int)) : Prop := BookAt w b m win L ∧ w0.heap.size ≤ b ∧ w0.heap.size ≤ m ∧ Chg (fun _ => False) w0 w
def BookR (w0 : World) (b m : Nat) (win : Int) (L : List (Pr × Int)) (r : Value) (e : Ending) (w' : World) : Prop := e = .returned r ∧ BookB w0 w' b m win L
def BookRG (w0 w : World) (b m : Nat) (win : Int) (L : List (Pr × Int)) (r : Value) (e : Ending) (w' : World) : Prop := e = .returned r ∧ BookB w0 w' b m win L ∧ Chg (fun i => i = m) w w'
theorem BookB.new (h : BookB w0 w b m win L) (hc : Chg (fun _ => False) w w') : BookB w0 w' b m win L := ⟨h.1.new hc, h.2.1, h.2.2.1, h.2.2.2.trans hc⟩
theorem BookB.chg (h : BookB w0 w b m win L) : Chg (fun _ => False) w0 w := h.2.2.2
theorem bookNew (win : Int) (w0 w : World) (hc : Chg (fun _ => False) w0 w) (h1 : 1 ≤ win) (h2 : win ≤ 1073741824) : Calls Try.prog 57 #[.int .i64 win] w fun e w' => ∃ b m, e = .returned (.tuple #[.pointer (some ⟨b, 0, none⟩), .int .i64 0]) ∧ BookB w0 w' b m win [] ∧ w.heap.size ≤ b ∧ w.heap.size ≤ m ∧ Chg (fun _ => False) w w' := by
  refine (rnew_yes win w h1 h2).mono ?_
  rintro e w' ⟨b, m, rfl, hb, s1, s2, hc'⟩
  have := hc.size
  exact ⟨b, m, rfl, ⟨hb, by omega, by omega, hc.trans hc'⟩, s1, s2, hc'⟩
theorem BookB.note (h : BookB w0 w b m win L) (a y t : Int) (ha : okI a) (hy : okI y) (ht : okI t) (r : Int) (L' : List (Pr × Int)) (hr : noteE a y t = r) (hL : noteP L a y t = L') :
    Calls Try.prog 58 #[.pointer (some ⟨b, 0, none⟩), .int .i64 a, .int .i64 y, .int .i64 t] w (BookRG w0 w b m win L' (.int .i64 r)) := by
  subst hr hL
  refine (note_calls a y t ha hy ht h.1).mono ?_
  rintro e w' ⟨rfl, hb, hc⟩
  exact ⟨rfl, ⟨hb, h.2.1, h.2.2.1, h.2.2.2.trans' hc (fun i hi => .inr (by subst hi; exact h.2.2.1))⟩, hc⟩
theorem BookB.clear (h : BookB w0 w b m win L) (a y : Int) (ha : okI a) (hy : okI y) (r : Bool) (L' : List (Pr × Int)) (hr : (aget L (a, y)).isSome = r) (hL : adel L (a, y) = L') :
    Calls Try.prog 64 #[.pointer (some ⟨b, 0, none⟩), .int .i64 a, .int .i64 y] w (BookRG w0 w b m win L' (.bool r)) := by
  subst hr hL
  refine (clear_calls a y ha hy h.1).mono ?_
  rintro e w' ⟨rfl, hb, hc⟩
  exact ⟨rfl, ⟨hb, h.2.1, h.2.2.1, h.2.2.2.trans' hc (fun i hi => .inr (by subst hi; exact h.2.2.1))⟩, hc⟩
theorem BookB.len (h : BookB w0 w b m win L) (n : Nat) (hn : L.length = n) : Calls Try.prog 62 #[.pointer (some ⟨b, 0, none⟩)] w fun e w' => e = .returned (.int .i64 (n : Int)) ∧ w = w' := by
  subst hn; exact rlen_calls h.1
/-- Who told: a new slice. -/
def ByR (w0 w : World) (b m : Nat) (win : Int) (L : List (Pr × Int)) (xs : List Int) (n : Nat) (e : Ending) (w' : World) : Prop := ∃ A c, e = .returned (.slice A n c) ∧ Ints w' A n xs ∧ n ≤ c ∧ c ≤ maxLen ∧ BookB w0 w' b m win L ∧ Chg (fun _ => False) w w'
theorem BookB.by_ (h : BookB w0 w b m win L) (about now : Int) (hn : -9223372036854775808 ≤ now ∧ now ≤ 9223372036854775807) (hL : L.length ≤ 1000000) (xs : List Int) (hx : sortI (byL win L about now) = xs) (n : Nat) (hn' : xs.length = n) :
    Calls Try.prog 63 #[.pointer (some ⟨b, 0, none⟩), .int .i64 about, .int .i64 now] w (ByR w0 w b m win L xs n) := by
  subst hx
  have hok : ∀ x ∈ sortI (byL win L about now), okI x := by
    intro x hx
    rw [mem_sortI] at hx
    obtain ⟨p, hp, rfl⟩ := List.mem_map.1 hx
    have := (h.1.2.2.2 p (List.mem_filter.1 hp).1).2.1
    exact okI_iff.2 (by omega)
  refine (by_calls about now hn hL h.1).mono ?_
  rintro e w' ⟨A, n', c, rfl, ho, hc⟩
  obtain ⟨A0, c0, hv, h1, h2, _⟩ := ho.slice
  cases hv
  rw [hn'] at h1 ⊢
  have hi := ho.ints hok rfl
  rw [hn'] at hi
  exact ⟨A, c, rfl, hi, h1, h2, h.new hc, hc⟩
set_option maxHeartbeats 1000000 in
theorem BookB.failing (h : BookB w0 w b m win L) (about now : Int) (hn : -9223372036854775808 ≤ now ∧ now ≤ 9223372036854775807) (hL : L.length ≤ 1000000) {V : Option Addr} {nv cv : Nat} {vs : List Int} (hv : Ints w V nv vs) (hnv : nv ≤ 17592186043904) (r : Bool) (hr : majB vs (sortI (byL win L about now)) = r) :
    Calls Try.prog 60 #[.pointer (some ⟨b, 0, none⟩), .int .i64 about, .int .i64 now, .slice V nv cv] w fun e w' => e = .returned (.bool r) ∧ Chg (fun _ => False) w w' := by
  obtain ⟨xs, hx⟩ : ∃ xs, sortI (byL win L about now) = xs := ⟨_, rfl⟩
  obtain ⟨n, hn'⟩ : ∃ n, xs.length = n := ⟨_, rfl⟩
  have HB := hideIt (h.by_ about now hn hL xs hx n hn')
  rw [hx] at hr
  have hnb : n ≤ 1000000 := by
    rw [← hn', ← hx, sortI_len]
    unfold byL
    rw [List.length_map]
    exact Nat.le_trans (List.length_filter_le _ _) hL
  have HR := hideIt hr
  have HV := hideIt hv
  clear hx hn' hr hv h
  go_enter Try.func60, Try.ntmps60
  go_wp2_with (first
    | (go_at_call 63; refine HB.out.mono ?_; rintro e w1 ⟨A, c, rfl, hi, h1, h2, hb, hc⟩)
    | (go_at_call 37; refine (maj_as V A nv n cv c vs xs w1 (HV.out.new hc) hi (by omega) (by omega) r HR.out).mono ?_; rintro e w2 ⟨rfl, c2⟩))
  go_ret
  exact ⟨rfl, hc.trans c2⟩
end

set_option maxRecDepth 100000 in
set_option maxHeartbeats 4000000 in
theorem same8_eq {A B : Option Addr} {n m c d : Nat} {l : List Int} (w : World) (hl : Ints w A n l) (hm : Ints w B m l) (hn : n ≤ 1000000) :
    Calls Try.prog 65 #[.slice A n c, .slice B m d] w fun e w' => e = .returned (.bool true) ∧ w = w' := by
  obtain rfl : m = n := by rw [← hl.len, ← hm.len]
  have HL := hideIt hl
  have HM := hideIt hm
  clear hl hm
  go_enter Try.func65, Try.ntmps65
  go_wp2
  go_loop [14] (fun i => ∃ k : Nat, k ≤ m ∧ i = .int .i64 k) (fun i => m - (intOf i).toNat)
  case atStart => exact ⟨0, by omega, rfl⟩
  case round =>
    obtain ⟨k, hk, rfl⟩ := hrel
    by_cases hlt : k < m
    · obtain ⟨p, off, rfl, hbl, hcell⟩ := HM.out.at_ (by omega)
      obtain ⟨p2, off2, rfl, hbl2, hcell2⟩ := HL.out.at_ (by omega)
      have hx := hcell k hlt
      have hy := hcell2 k hlt
      obtain ⟨t, hT⟩ : ∃ t, l.getD k 0 = t := ⟨_, rfl⟩
      rw [hT] at hx hy
      clear hT hcell hcell2
      go_wp2
      exact ⟨⟨k + 1, by omega, by go_num⟩, by simp [intOf]; omega⟩
    · obtain rfl : k = m := by omega
      go_wp2
      go_ret
      exact ⟨rfl, rfl⟩
end Go.Proofs.Ytgmekeeemimnpaa
