/- The ballot, walked on: Standing, Stop, Ack, Stand. -/
import Derived.Test.YtgmekeeemimnpaaB1
namespace Go.Proofs.Ytgmekeeemimnpaa
open Go Go.Maps Go.MapKept Go.RowKit

/-- What Standing answers. -/
def standingV (now : Option StandSt) (t : Int) : Value := match atNow now t with
  | none => .tuple #[.int .i64 0, .bool false]
  | some (e, _, _) => .tuple #[.int .i64 e, .bool true]
set_option maxHeartbeats 1000000 in
theorem standing_calls {F : Nat → Prop} {b : Nat} {to : Int} {now : Option StandSt} {G : List (Int × Int)} (t : Int) (w : World) (h : Ball w F b to now G) :
    Calls Try.prog 73 #[.pointer (some ⟨b, 0, none⟩), .int .i64 t] w fun e w' => e = .returned (standingV now t) ∧ w = w' := by
  obtain ⟨v, g, hb, hs, _⟩ := h
  have HA := hideIt (at_calls t w hb hs)
  cases ha : atNow now t with
  | none =>
    have H : Hid (standingV now t = .tuple #[.int .i64 0, .bool false]) := hideIt (by unfold standingV; rw [ha])
    rw [ha] at HA
    simp only [Option.isSome_none, Bool.false_eq_true, if_false] at HA
    clear ha
    go_enter Try.func73, Try.ntmps73
    go_wp2_with (go_at_call 96; refine HA.out.mono ?_; rintro e w1 ⟨rfl, rfl⟩)
    go_ret2
    exact ⟨by rw [H.out]; rfl, rfl⟩
  | some x =>
    cases now with
    | none => cases ha
    | some y =>
      obtain ⟨e, u, L⟩ := y
      have hx : x = (e, u, L) := by
        simp only [atNow, Option.bind_some] at ha
        split at ha
        · cases ha
        · cases ha; rfl
      subst hx
      obtain ⟨s, p, m, rfl, h1, _⟩ := hs
      have H : Hid (standingV (some (e, u, L)) t = .tuple #[.int .i64 e, .bool true]) := hideIt (by unfold standingV; rw [ha])
      have c1 : w.cell? ⟨s, 1, none⟩ = some (.int .i64 e) := h1.cell 1
      rw [ha] at HA
      simp only [Option.isSome_some, if_true] at HA
      clear ha
      go_enter Try.func73, Try.ntmps73
      go_wp2_with (go_at_call 96; refine HA.out.mono ?_; rintro e w1 ⟨rfl, rfl⟩)
      go_ret2
      exact ⟨by rw [H.out]; rfl, rfl⟩

set_option maxHeartbeats 400000 in
theorem stop_calls {F : Nat → Prop} {b : Nat} {to : Int} {now : Option StandSt} {G : List (Int × Int)} (w : World) (h : Ball w F b to now G) :
    Calls Try.prog 79 #[.pointer (some ⟨b, 0, none⟩)] w fun e w' => e = .returned (.tuple #[]) ∧ Ball w' F b to none G ∧ Chg F w w' := by
  obtain ⟨v, g, hb, hs, hm, f1, f2, r⟩ := h
  have c1 : w.cell? ⟨b, 1, none⟩ = some v := hb.cell 1
  have fr : w.frozen? ⟨b, 1, none⟩ = false := hb.frozen 1
  have hne := map_ne_blk hm hb
  go_enter Try.func79, Try.ntmps79
  go_wp2
  go_end0
  refine ⟨rfl, ⟨.pointer none, g, ?_, rfl, hm.setCell hne _, f1, f2, r⟩, Chg.setCell (p := ⟨b, 1, none⟩) (Chg.refl F w) (.inl f1) _⟩
  have := hb.set_ 1 (.pointer none)
  simpa using this

/-- What Ack comes to: the stand behind it, and whether it is won. -/
def ackNow (now : Option StandSt) (from_ epoch t : Int) : Option StandSt × Bool := match atNow now t with
  | none => (now, false)
  | some (e, u, L) =>
    if e = epoch then if grantB L from_ then if wonB (grantL L from_) then (none, true) else (some (e, u, grantL L from_), false) else (now, false)
    else (now, false)
/-- What the ballot's contracts say of the ballot behind the call. -/
def BallOk (w : World) (F : Nat → Prop) (b : Nat) (to : Int) (now : Option StandSt) (G : List (Int × Int)) (r : Value) (e : Ending) (w' : World) : Prop :=
  e = .returned r ∧ Ball w' F b to now G ∧ Chg F w w'
set_option maxHeartbeats 2000000 in
theorem ack_calls {F : Nat → Prop} {b : Nat} {to : Int} {now : Option StandSt} {G : List (Int × Int)} (from_ epoch t : Int) (w : World) (h : Ball w F b to now G) (hf : okI from_) :
    Calls Try.prog 45 #[.pointer (some ⟨b, 0, none⟩), .int .i64 from_, .int .i64 epoch, .int .i64 t] w (BallOk w F b to (ackNow now from_ epoch t).1 G (.bool (ackNow now from_ epoch t).2)) := by
  have h0 := h
  obtain ⟨v, g, hb, hs, hm, f1, f2, r⟩ := h
  have HA := hideIt (at_calls t w hb hs)
  cases ha : atNow now t with
  | none =>
    have H : Hid (ackNow now from_ epoch t = (now, false)) := hideIt (by unfold ackNow; rw [ha])
    rw [ha] at HA
    simp only [Option.isSome_none, Bool.false_eq_true, if_false] at HA
    clear ha
    go_enter Try.func45, Try.ntmps45
    go_wp2_with (go_at_call 96; refine HA.out.mono ?_; rintro e w1 ⟨rfl, rfl⟩)
    go_ret
    rw [H.out]
    exact ⟨rfl, h0, Chg.refl _ _⟩
  | some x =>
    cases now with
    | none => cases ha
    | some y =>
      obtain ⟨e, u, L⟩ := y
      have hx : x = (e, u, L) := by
        simp only [atNow, Option.bind_some] at ha
        split at ha
        · cases ha
        · cases ha; rfl
      subst hx
      obtain ⟨s, p, m, rfl, h1, ht, f3, f4, f5, hmg⟩ := hs
      have H0 : ackNow (some (e, u, L)) from_ epoch t = if e = epoch then if grantB L from_ then if wonB (grantL L from_) then (none, true) else (some (e, u, grantL L from_), false) else (some (e, u, L), false) else (some (e, u, L), false) := by unfold ackNow; rw [ha]
      have c1 : w.cell? ⟨s, 1, none⟩ = some (.int .i64 e) := h1.cell 1
      have c0 : w.cell? ⟨s, 0, none⟩ = some (.pointer (some ⟨p, 0, none⟩)) := h1.cell 0
      rw [ha] at HA
      simp only [Option.isSome_some, if_true] at HA
      clear ha
      by_cases he : e = epoch
      · subst he
        rw [if_pos rfl] at H0
        have hee : (e != e) = false := by simp
        have HG := hideIt (grant_calls p m L from_ w ht hf)
        cases hgb : grantB L from_ with
        | false =>
          have hgl : grantL L from_ = L := by
            unfold grantB at hgb
            unfold grantL
            rw [if_neg (by simpa using hgb)]
          have H : Hid (ackNow (some (e, u, L)) from_ e t = (some (e, u, L), false)) := hideIt (by rw [H0, hgb]; rfl)
          rw [hgb, hgl] at HG
          clear H0 hgb hgl
          go_enter Try.func45, Try.ntmps45
          go_wp2_with (first
            | (go_at_call 96; refine HA.out.mono ?_; rintro e1 w1 ⟨rfl, rfl⟩)
            | (go_at_call 34; refine HG.out.mono ?_; rintro e1 w2 ⟨rfl, t2, k2, s2⟩; clear s2))
          go_ret
          rw [H.out]
          have n1 := hb.ne ht.blk (by decide)
          have n2 := h1.ne ht.blk (by decide)
          have n3 := map_ne_blk ht.map hb
          have n4 := map_ne_blk ht.map h1
          have n5 := map_ne_blk hm ht.blk
          exact ⟨rfl, ⟨_, g, hb.chg k2 (by omega), ⟨s, p, m, rfl, h1.chg k2 (by omega), t2, f3, f4, f5, hmg⟩, hm.chg k2 (by omega), f1, f2, r⟩, k2.mono (fun i hi => by rcases hi with rfl | rfl <;> assumption)⟩
        | true =>
          rw [hgb, if_pos rfl] at H0
          rw [hgb] at HG
          clear hgb
          cases hwb : wonB (grantL L from_) with
          | false =>
            have H : Hid (ackNow (some (e, u, L)) from_ e t = (some (e, u, grantL L from_), false)) := hideIt (by rw [H0, hwb]; rfl)
            have HW : Hid (∀ W, TallyAt W p m (grantL L from_) → Calls Try.prog 35 #[.pointer (some ⟨p, 0, none⟩)] W fun e w' => e = .returned (.bool false) ∧ ∃ n, w' = W.drewN n) := hideIt (fun W hW => won_as p m _ W hW false hwb)
            have n1 := hb.ne ht.blk (by decide)
            have n2 := h1.ne ht.blk (by decide)
            have n3 := map_ne_blk ht.map hb
            have n4 := map_ne_blk ht.map h1
            have n5 := map_ne_blk hm ht.blk
            clear H0 hwb
            go_enter Try.func45, Try.ntmps45
            go_wp2_with (first
              | (go_at_call 96; refine HA.out.mono ?_; rintro e1 w1 ⟨rfl, rfl⟩)
              | (go_at_call 34; refine HG.out.mono ?_; rintro e1 w2 ⟨rfl, t2, k2, s2⟩; clear s2; have h2 := h1.chg k2 (by omega); have c2 : w2.cell? ⟨s, 0, none⟩ = some (.pointer (some ⟨p, 0, none⟩)) := h2.cell 0)
              | (go_at_call 35; refine (HW.out _ t2).mono ?_; rintro e1 w3 ⟨rfl, nq, rfl⟩))
            go_ret
            rw [H.out]
            have k3 := k2.drewN nq
            exact ⟨rfl, ⟨_, g, hb.chg k3 (by omega), ⟨s, p, m, rfl, h1.chg k3 (by omega), t2.drewN nq, f3, f4, f5, hmg⟩, hm.chg k3 (by omega), f1, f2, r⟩, k3.mono (fun i hi => by rcases hi with rfl | rfl <;> assumption)⟩
          | true =>
            have H : Hid (ackNow (some (e, u, L)) from_ e t = (none, true)) := hideIt (by rw [H0, hwb]; rfl)
            have HW : Hid (∀ W, TallyAt W p m (grantL L from_) → Calls Try.prog 35 #[.pointer (some ⟨p, 0, none⟩)] W fun e w' => e = .returned (.bool true) ∧ ∃ n, w' = W.drewN n) := hideIt (fun W hW => won_as p m _ W hW true hwb)
            have n1 := hb.ne ht.blk (by decide)
            have n2 := h1.ne ht.blk (by decide)
            have n3 := map_ne_blk ht.map hb
            have n4 := map_ne_blk ht.map h1
            have n5 := map_ne_blk hm ht.blk
            have n6 := map_ne_blk hm hb
            clear H0 hwb
            go_enter Try.func45, Try.ntmps45
            go_wp2_with (first
              | (go_at_call 96; refine HA.out.mono ?_; rintro e1 w1 ⟨rfl, rfl⟩)
              | (go_at_call 34; refine HG.out.mono ?_; rintro e1 w2 ⟨rfl, t2, k2, s2⟩; clear s2; have h2 := h1.chg k2 (by omega); have c2 : w2.cell? ⟨s, 0, none⟩ = some (.pointer (some ⟨p, 0, none⟩)) := h2.cell 0)
              | (go_at_call 35; refine (HW.out _ t2).mono ?_; rintro e1 w3 ⟨rfl, nq, rfl⟩; have k3 := k2.drewN nq; have hb3 := hb.chg k3 (by omega); have cb : (w2.drewN nq).cell? ⟨b, 1, none⟩ = some (.pointer (some ⟨s, 0, none⟩)) := hb3.cell 1; have fb : (w2.drewN nq).frozen? ⟨b, 1, none⟩ = false := hb3.frozen 1))
            go_ret
            rw [H.out]
            refine ⟨rfl, ⟨.pointer none, g, ?_, rfl, (hm.chg k3 (by omega)).setCell n6 _, f1, f2, r⟩, Chg.setCell (p := ⟨b, 1, none⟩) (k3.mono (fun i hi => by rcases hi with rfl | rfl <;> assumption)) (.inl f1) _⟩
            have := hb3.set_ 1 (.pointer none)
            simpa using this
      · rw [if_neg he] at H0
        have H := hideIt H0
        have hee : (e != epoch) = true := by simpa using he
        clear H0 he
        go_enter Try.func45, Try.ntmps45
        go_wp2_with (go_at_call 96; refine HA.out.mono ?_; rintro e1 w1 ⟨rfl, rfl⟩)
        go_ret
        rw [H.out]
        exact ⟨rfl, h0, Chg.refl _ _⟩
end Go.Proofs.Ytgmekeeemimnpaa
