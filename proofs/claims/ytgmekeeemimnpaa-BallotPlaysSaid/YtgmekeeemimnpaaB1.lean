/- The ballot, walked: New, at, time, May, Gave, Standing, Stop, Ack, Stand. -/
import Derived.Test.YtgmekeeemimnpaaQP
import Derived.Test.YtgmekeeemimnpaaQ5
namespace Go.Proofs.Ytgmekeeemimnpaa
open Go Go.Maps Go.MapKept Go.RowKit

theorem Blk.ne {w : World} {a b : Nat} {t t' : TypeId} {cs cs' : Array Value} (h : Blk w a t cs) (h' : Blk w b t' cs') (hne : t ≠ t') : a ≠ b := by
  rintro rfl
  unfold Blk at h h'
  rw [h] at h'
  injection h' with h'
  injection h' with _ ht
  exact hne ht
theorem zeroInt (w : World) : (zeroValue 3).run Try.prog w = .ok (.int .i64 0) w := by kernel_rfl

/-- A stand: its epoch, until when, and who has granted. -/
abbrev StandSt := Int × Int × List (Int × Bool)
/-- What the ballot's field 'now' holds. -/
def StandIs (w : World) (F : Nat → Prop) (g : Nat) (v : Value) : Option StandSt → Prop
  | none => v = .pointer none
  | some (e, u, L) => ∃ s p m, v = .pointer (some ⟨s, 0, none⟩) ∧ Blk w s 126 #[.pointer (some ⟨p, 0, none⟩), .int .i64 e, .int .i64 u] ∧ TallyAt w p m L ∧ F s ∧ F p ∧ F m ∧ m ≠ g
/-- A ballot at block b, all its blocks in F. -/
def Ball (w : World) (F : Nat → Prop) (b : Nat) (to : Int) (now : Option StandSt) (G : List (Int × Int)) : Prop :=
  ∃ v g, Blk w b 123 #[.int .i64 to, v, .map (some g)] ∧ StandIs w F g v now ∧ MapIs (Value.int .i64) (Value.int .i64) okI w g G ∧ F b ∧ F g ∧ (2 ≤ to ∧ to ≤ 1073741824) ∧ ∀ p ∈ G, 0 ≤ p.2

section
variable {w w' : World} {F F' S : Nat → Prop} {b g : Nat} {to : Int} {now : Option StandSt} {G : List (Int × Int)} {v : Value}
theorem StandIs.chg (h : StandIs w F g v now) (hc : Chg S w w') (hS : ∀ i, F i → ¬ S i) : StandIs w' F g v now := by
  cases now with
  | none => exact h
  | some x =>
    obtain ⟨e, u, L⟩ := x
    obtain ⟨s, p, m, hv, hb, ht, f1, f2, f3, hm⟩ := h
    exact ⟨s, p, m, hv, hb.chg hc (hS s f1), ht.chg hc (hS p f2) (hS m f3), f1, f2, f3, hm⟩
theorem StandIs.mono (h : StandIs w F g v now) (hF : ∀ i, F i → F' i) : StandIs w F' g v now := by
  cases now with
  | none => exact h
  | some x =>
    obtain ⟨e, u, L⟩ := x
    obtain ⟨s, p, m, hv, hb, ht, f1, f2, f3, hm⟩ := h
    exact ⟨s, p, m, hv, hb, ht, hF _ f1, hF _ f2, hF _ f3, hm⟩
theorem Ball.chg (h : Ball w F b to now G) (hc : Chg S w w') (hS : ∀ i, F i → ¬ S i) : Ball w' F b to now G := by
  obtain ⟨v, g, hb, hs, hm, f1, f2, r⟩ := h
  exact ⟨v, g, hb.chg hc (hS b f1), hs.chg hc hS, hm.chg hc (hS g f2), f1, f2, r⟩
theorem Ball.mono (h : Ball w F b to now G) (hF : ∀ i, F i → F' i) : Ball w F' b to now G := by
  obtain ⟨v, g, hb, hs, hm, f1, f2, r⟩ := h
  exact ⟨v, g, hb, hs.mono hF, hm, hF _ f1, hF _ f2, r⟩
end

/-- A time of the document's. -/
def timeB (n : Int) : Bool := decide (0 ≤ n ∧ n ≤ 1099511627776)
theorem timeB_true {n : Int} (h : timeB n = true) : 0 ≤ n ∧ n ≤ 1099511627776 := of_decide_eq_true h

set_option maxHeartbeats 400000 in
theorem time_calls (n : Int) (w : World) : Calls Try.prog 95 #[.int .i64 n] w fun e w' => e = .returned (.bool (timeB n)) ∧ w = w' := by
  by_cases h1 : 0 ≤ n
  · by_cases h2 : n ≤ 1099511627776
    · have H : Hid (timeB n = true) := hideIt (by unfold timeB; simp [h1, h2])
      go_enter Try.func95, Try.ntmps95
      go_wp2
      go_ret
      exact ⟨ret_bool H.out.symm, rfl⟩
    · have H : Hid (timeB n = false) := hideIt (by unfold timeB; simp [h2])
      go_enter Try.func95, Try.ntmps95
      go_wp2
      go_ret
      exact ⟨ret_bool H.out.symm, rfl⟩
  · have H : Hid (timeB n = false) := hideIt (by unfold timeB; simp [h1])
    go_enter Try.func95, Try.ntmps95
    go_wp2
    go_ret
    exact ⟨ret_bool H.out.symm, rfl⟩

set_option maxHeartbeats 400000 in
theorem ballotNew_no (to : Int) (w : World) (h : ¬ (2 ≤ to ∧ to ≤ 1073741824)) : Calls Try.prog 43 #[.int .i64 to] w fun e w' => e = .returned (.tuple #[.pointer none, .int .i64 10]) ∧ w = w' := by
  by_cases h1 : to < 2
  · go_enter Try.func43, Try.ntmps43
    go_wp2
    go_ret2
    exact ⟨rfl, rfl⟩
  · have h2 : 1073741824 < to := by omega
    go_enter Try.func43, Try.ntmps43
    go_wp2
    go_ret2
    exact ⟨rfl, rfl⟩

/-- What New answers. -/
def BallNew (w : World) (to : Int) (e : Ending) (w' : World) : Prop :=
  ∃ b, e = .returned (.tuple #[.pointer (some ⟨b, 0, none⟩), .int .i64 0]) ∧ Ball w' (fun i => w.heap.size ≤ i ∧ i < w'.heap.size) b to none [] ∧ Chg (fun _ => False) w w'
set_option maxHeartbeats 400000 in
theorem ballotNew_yes (to : Int) (w : World) (h1 : 2 ≤ to) (h2 : to ≤ 1073741824) : Calls Try.prog 43 #[.int .i64 to] w (BallNew w to) := by
  have hmm := @run_makeMap Try.prog
  go_enter Try.func43, Try.ntmps43
  go_wp2
  go_ret2
  refine ⟨w.heap.size + 1, rfl, ⟨.pointer none, w.heap.size, ?_, rfl, (MapIs.made w).alloc _, by simp, by simp; omega, ⟨h1, h2⟩, by simp⟩, ((Chg.refl _ w).alloc _).alloc _⟩
  have := Blk.new (w.alloc (.map #[] 0)) 123 #[.int .i64 to, .pointer none, .map (some w.heap.size)]
  simpa using this

section
variable (b s : Nat) (to e u : Int) (vp vm : Value) (t : Int) (w : World)
set_option maxHeartbeats 400000 in
theorem at_none (hb : Blk w b 123 #[.int .i64 to, .pointer none, vm]) : Calls Try.prog 96 #[.pointer (some ⟨b, 0, none⟩), .int .i64 t] w fun e w' => e = .returned (.pointer none) ∧ w = w' := by
  have c1 : w.cell? ⟨b, 1, none⟩ = some (.pointer none) := hb.cell 1
  go_enter Try.func96, Try.ntmps96
  go_wp2
  go_ret
  exact ⟨rfl, rfl⟩
set_option maxHeartbeats 400000 in
theorem at_past (hb : Blk w b 123 #[.int .i64 to, .pointer (some ⟨s, 0, none⟩), vm]) (hs : Blk w s 126 #[vp, .int .i64 e, .int .i64 u]) (ht : u < t) : Calls Try.prog 96 #[.pointer (some ⟨b, 0, none⟩), .int .i64 t] w fun e w' => e = .returned (.pointer none) ∧ w = w' := by
  have c1 : w.cell? ⟨b, 1, none⟩ = some (.pointer (some ⟨s, 0, none⟩)) := hb.cell 1
  have c2 : w.cell? ⟨s, 2, none⟩ = some (.int .i64 u) := hs.cell 2
  go_enter Try.func96, Try.ntmps96
  go_wp2
  go_ret
  exact ⟨rfl, rfl⟩
set_option maxHeartbeats 400000 in
theorem at_on (hb : Blk w b 123 #[.int .i64 to, .pointer (some ⟨s, 0, none⟩), vm]) (hs : Blk w s 126 #[vp, .int .i64 e, .int .i64 u]) (ht : ¬ u < t) : Calls Try.prog 96 #[.pointer (some ⟨b, 0, none⟩), .int .i64 t] w fun e w' => e = .returned (.pointer (some ⟨s, 0, none⟩)) ∧ w = w' := by
  have c1 : w.cell? ⟨b, 1, none⟩ = some (.pointer (some ⟨s, 0, none⟩)) := hb.cell 1
  have c2 : w.cell? ⟨s, 2, none⟩ = some (.int .i64 u) := hs.cell 2
  go_enter Try.func96, Try.ntmps96
  go_wp2
  go_ret
  exact ⟨rfl, rfl⟩
end

/-- The stand at a time. -/
def atNow (now : Option StandSt) (t : Int) : Option StandSt := now.bind fun x => if x.2.1 < t then none else some x

/-- The call of 'at', whatever the stand: which pointer it answers. -/
theorem at_calls {F : Nat → Prop} {b g : Nat} {to : Int} {now : Option StandSt} {v : Value} (t : Int) (w : World) (hb : Blk w b 123 #[.int .i64 to, v, .map (some g)]) (hs : StandIs w F g v now) :
    Calls Try.prog 96 #[.pointer (some ⟨b, 0, none⟩), .int .i64 t] w fun e w' => e = .returned (if (atNow now t).isSome then v else .pointer none) ∧ w = w' := by
  cases now with
  | none =>
    obtain rfl : v = .pointer none := hs
    exact at_none b to _ t w hb
  | some x =>
    obtain ⟨e, u, L⟩ := x
    obtain ⟨s, p, m, rfl, h1, _⟩ := hs
    by_cases ht : u < t
    · have : (atNow (some (e, u, L)) t).isSome = false := by simp [atNow, ht]
      rw [this]
      exact at_past b s to e u _ _ t w hb h1 ht
    · have : (atNow (some (e, u, L)) t).isSome = true := by simp [atNow, ht]
      rw [this]
      exact at_on b s to e u _ _ t w hb h1 ht

/-- May a vote be given? -/
def mayB (to : Int) (G : List (Int × Int)) (master t : Int) : Bool := match aget G master with
  | none => true
  | some a => decide (a < t ∧ 2 * to < t - a)
set_option maxHeartbeats 1000000 in
theorem may_calls {F : Nat → Prop} {b : Nat} {to : Int} {now : Option StandSt} {G : List (Int × Int)} (master t : Int) (w : World) (h : Ball w F b to now G) (hm : okI master) (ht : okI t) :
    Calls Try.prog 46 #[.pointer (some ⟨b, 0, none⟩), .int .i64 master, .int .i64 t] w fun e w' => e = .returned (.bool (mayB to G master t)) ∧ w = w' := by
  obtain ⟨v, g, hb, _, hg, _, _, ⟨b1, b2⟩, hG⟩ := h
  obtain ⟨t1, t2⟩ := okI_iff.1 ht
  have c0 : w.cell? ⟨b, 0, none⟩ = some (.int .i64 to) := hb.cell 0
  have c2 : w.cell? ⟨b, 2, none⟩ = some (.map (some g)) := hb.cell 2
  have hl := hg.look encInt Try.underlying120 (zeroInt w) hm true
  cases ha : aget G master with
  | none =>
    have H : Hid (mayB to G master t = true) := hideIt (by unfold mayB; rw [ha])
    rw [ha] at hl
    simp only [Option.map_none, Option.getD_none, Option.isSome_none, if_true] at hl
    clear ha
    go_enter Try.func46, Try.ntmps46
    go_wp2
    go_ret
    exact ⟨ret_bool H.out.symm, rfl⟩
  | some a =>
    have ha0 : 0 ≤ a := hG _ (aget_some_mem ha)
    have hH : mayB to G master t = decide (a < t ∧ 2 * to < t - a) := by unfold mayB; rw [ha]
    rw [ha] at hl
    simp only [Option.map_some, Option.getD_some, Option.isSome_some, if_true] at hl
    clear ha
    by_cases h1 : a < t
    · by_cases h2 : 2 * to < t - a
      · have H : Hid (mayB to G master t = true) := hideIt (by rw [hH]; simp [h1, h2])
        clear hH
        go_enter Try.func46, Try.ntmps46
        go_wp2
        go_ret
        exact ⟨ret_bool H.out.symm, rfl⟩
      · have H : Hid (mayB to G master t = false) := hideIt (by rw [hH]; simp [h2])
        clear hH
        go_enter Try.func46, Try.ntmps46
        go_wp2
        go_ret
        exact ⟨ret_bool H.out.symm, rfl⟩
    · have H : Hid (mayB to G master t = false) := hideIt (by rw [hH]; simp [h1])
      clear hH
      go_enter Try.func46, Try.ntmps46
      go_wp2
      go_ret
      exact ⟨ret_bool H.out.symm, rfl⟩

/-- Is it remembered? -/
def gaveB (master t : Int) : Bool := decide (1 ≤ master ∧ master ≤ 4294967296) && timeB t
set_option maxHeartbeats 1000000 in
theorem gave_no (b : Nat) (master t : Int) (w : World) (h : gaveB master t = false) :
    Calls Try.prog 47 #[.pointer (some ⟨b, 0, none⟩), .int .i64 master, .int .i64 t] w fun e w' => e = .returned (.int .i64 10) ∧ w = w' := by
  have HT := hideIt (time_calls t w)
  by_cases h1 : master < 1
  · clear h
    go_enter Try.func47, Try.ntmps47
    go_wp2_with (go_at_call 95; refine HT.out.mono ?_; rintro e w1 ⟨rfl, rfl⟩)
    go_ret
    exact ⟨rfl, rfl⟩
  · by_cases h2 : 4294967296 < master
    · clear h
      go_enter Try.func47, Try.ntmps47
      go_wp2_with (go_at_call 95; refine HT.out.mono ?_; rintro e w1 ⟨rfl, rfl⟩)
      go_ret
      exact ⟨rfl, rfl⟩
    · have h3 : timeB t = false := by
        unfold gaveB at h
        rw [show decide (1 ≤ master ∧ master ≤ 4294967296) = true from by simp; omega] at h
        simpa using h
      rw [h3] at HT
      clear h h3
      go_enter Try.func47, Try.ntmps47
      go_wp2_with (go_at_call 95; refine HT.out.mono ?_; rintro e w1 ⟨rfl, rfl⟩)
      go_ret
      exact ⟨rfl, rfl⟩
set_option maxHeartbeats 1000000 in
theorem gave_yes {F : Nat → Prop} {b : Nat} {to : Int} {now : Option StandSt} {G : List (Int × Int)} (master t : Int) (w : World) (h : Ball w F b to now G) (hg : gaveB master t = true) :
    Calls Try.prog 47 #[.pointer (some ⟨b, 0, none⟩), .int .i64 master, .int .i64 t] w fun e w' => e = .returned (.int .i64 0) ∧ Ball w' F b to now (aput G master t) ∧ Chg F w w' := by
  obtain ⟨v, g, hb, hs, hm, f1, f2, hto, hG⟩ := h
  have HT := hideIt (time_calls t w)
  unfold gaveB at hg
  rw [Bool.and_eq_true, decide_eq_true_eq] at hg
  obtain ⟨⟨m1, m2⟩, ht⟩ := hg
  have htb := timeB_true ht
  rw [ht] at HT
  clear ht
  have hok : okI master := okI_iff.2 (by omega)
  have c2 : w.cell? ⟨b, 2, none⟩ = some (.map (some g)) := hb.cell 2
  go_enter Try.func47, Try.ntmps47
  go_wp2_with (first
    | (go_at_call 95; refine HT.out.mono ?_; rintro e w1 ⟨rfl, rfl⟩)
    | (at_mapUpdate; refine wpList_store _ rfl _ _ _ 120 rfl 3 encInt Try.underlying120 hm rfl master rfl hok t rfl ?_; intro w1 hm1 ht1))
  go_ret
  refine ⟨rfl, ⟨v, g, hb.turned ht1, ?_, hm1, f1, f2, hto, ?_⟩, (Chg.mapTurned ht1).mono (fun i hi => hi ▸ f2)⟩
  · have hc := Chg.mapTurned ht1
    cases now with
    | none => exact hs
    | some x =>
      obtain ⟨e, u, L⟩ := x
      obtain ⟨s, p, m, hv, hb', ht, f1, f2, f3, hmg⟩ := hs
      exact ⟨s, p, m, hv, hb'.turned ht1, ⟨ht.blk.turned ht1, ht.map.chg hc hmg, ht.small⟩, f1, f2, f3, hmg⟩
  · intro p hp
    rcases mem_aput.1 hp with rfl | ⟨hp, _⟩
    · exact htb.1
    · exact hG p hp
end Go.Proofs.Ytgmekeeemimnpaa
