/- The watch, walked: right, New, find, Add, Remove, Ping, Pong, Waits. -/
import Derived.Test.YtgmekeeemimnpaaW1
namespace Go.Proofs.Ytgmekeeemimnpaa
open Go Go.Maps Go.MapKept Go.RowKit

set_option maxHeartbeats 400000 in
theorem wright_calls (id now : Int) (w : World) : Calls Try.prog 97 #[.int .i64 id, .int .i64 now] w fun e w' => e = .returned (.bool (rightW id now)) ∧ w = w' := by
  by_cases h1 : id ≥ 1
  · by_cases h2 : id ≤ 4294967296
    · by_cases h3 : now ≥ 0
      · by_cases h4 : now ≤ 1099511627776
        · have H : Hid (rightW id now = true) := hideIt (by unfold rightW; simp [h2, h3, h4]; omega)
          go_enter Try.func97, Try.ntmps97
          go_wp2
          go_ret
          exact ⟨ret_bool H.out.symm, rfl⟩
        · have H : Hid (rightW id now = false) := hideIt (by unfold rightW; simp [h4])
          go_enter Try.func97, Try.ntmps97
          go_wp2
          go_ret
          exact ⟨ret_bool H.out.symm, rfl⟩
      · have H : Hid (rightW id now = false) := hideIt (by unfold rightW; simp; omega)
        go_enter Try.func97, Try.ntmps97
        go_wp2
        go_ret
        exact ⟨ret_bool H.out.symm, rfl⟩
    · have H : Hid (rightW id now = false) := hideIt (by unfold rightW; simp [h2])
      go_enter Try.func97, Try.ntmps97
      go_wp2
      go_ret
      exact ⟨ret_bool H.out.symm, rfl⟩
  · have H : Hid (rightW id now = false) := hideIt (by unfold rightW; simp; omega)
    go_enter Try.func97, Try.ntmps97
    go_wp2
    go_ret
    exact ⟨ret_bool H.out.symm, rfl⟩

set_option maxHeartbeats 400000 in
theorem watchNew_no (to : Int) (w : World) (h : ¬ (2 ≤ to ∧ to ≤ 1073741824)) : Calls Try.prog 49 #[.int .i64 to] w fun e w' => e = .returned (.tuple #[.pointer none, .int .i64 10]) ∧ w = w' := by
  by_cases h1 : to < 2
  · go_enter Try.func49, Try.ntmps49
    go_wp2
    go_ret2
    exact ⟨rfl, rfl⟩
  · have h2 : 1073741824 < to := by omega
    go_enter Try.func49, Try.ntmps49
    go_wp2
    go_ret2
    exact ⟨rfl, rfl⟩
/-- What New answers. -/
def WatchNew (w : World) (to : Int) (e : Ending) (w' : World) : Prop :=
  ∃ b, e = .returned (.tuple #[.pointer (some ⟨b, 0, none⟩), .int .i64 0]) ∧ WMem w' (fun i => w.heap.size ≤ i ∧ i < w'.heap.size) b to [] ∧ Chg (fun _ => False) w w'
set_option maxHeartbeats 400000 in
theorem watchNew_yes (to : Int) (w : World) (h1 : 2 ≤ to) (h2 : to ≤ 1073741824) : Calls Try.prog 49 #[.int .i64 to] w (WatchNew w to) := by
  have hmm := @run_makeMap Try.prog
  go_enter Try.func49, Try.ntmps49
  go_wp2
  go_ret2
  refine ⟨w.heap.size + 1, rfl, ⟨w.heap.size, [], fun _ => (0, false, 0), ?_, (MapIs.made w).alloc _, by simp, by simp, by simp, by simp; omega, rfl⟩, ((Chg.refl _ w).alloc _).alloc _⟩
  have := Blk.new (w.alloc (.map #[] 0)) 129 #[.int .i64 to, .map (some w.heap.size)]
  simpa using this

theorem zeroPeer (w : World) : (zeroValue 130).run Try.prog w = .ok (.pointer none) w := by kernel_rfl

section
variable {F : Nat → Prop} {b : Nat} {to : Int} {L : List (Int × Peer)} (id now : Int) (w : World)
/-- What find answers. -/
def FindIs (w : World) (F : Nat → Prop) (b : Nat) (to : Int) (L : List (Int × Peer)) (id now : Int) (e : Ending) (w' : World) : Prop :=
  w = w' ∧ ((rightW id now = false ∧ e = .returned (.tuple #[.pointer none, .int .i64 10])) ∨ (rightW id now = true ∧ aget L id = none ∧ e = .returned (.tuple #[.pointer none, .int .i64 30])) ∨
    ∃ p x, rightW id now = true ∧ aget L id = some x ∧ e = .returned (.tuple #[.pointer (some ⟨p, 0, none⟩), .int .i64 0]) ∧ Blk w p 132 (encP x) ∧ F p ∧
      ∀ (w1 : World) (v : Peer), Blk w1 p 132 (encP v) → Chg (fun i => i = p) w w1 → WMem w1 F b to (aput L id v))
set_option maxHeartbeats 1000000 in
theorem find_calls (h : WMem w F b to L) (hid : okI id) : Calls Try.prog 98 #[.pointer (some ⟨b, 0, none⟩), .int .i64 id, .int .i64 now] w (FindIs w F b to L id now) := by
  obtain ⟨g, PL, st, hb, hm, hp, hn, f1, f2, hL⟩ := h
  have c1 : w.cell? ⟨b, 1, none⟩ = some (.map (some g)) := hb.cell 1
  have HR := hideIt (wright_calls id now w)
  have hl := hm.look encInt Try.underlying127 (zeroPeer w) hid false
  have hLa := aget_map2 PL st id
  rw [← hL] at hLa
  have HL := hideIt hL
  clear hL
  cases hr : rightW id now with
  | false =>
    rw [hr] at HR
    have H := hideIt hr
    have HLK := hideIt hLa
    cases ha : aget PL id with
    | none =>
      rw [ha] at hl
      simp only [Option.map_none, Option.getD_none, Bool.false_eq_true, if_false] at hl
      clear hr ha hLa
      go_enter Try.func98, Try.ntmps98
      go_wp2_with (go_at_call 97; refine HR.out.mono ?_; rintro e w1 ⟨rfl, rfl⟩)
      go_ret2
      exact ⟨rfl, .inl ⟨H.out, rfl⟩⟩
    | some p =>
      rw [ha] at hl
      simp only [Option.map_some, Option.getD_some, Bool.false_eq_true, if_false] at hl
      clear hr ha hLa
      go_enter Try.func98, Try.ntmps98
      go_wp2_with (go_at_call 97; refine HR.out.mono ?_; rintro e w1 ⟨rfl, rfl⟩)
      go_ret2
      exact ⟨rfl, .inl ⟨H.out, rfl⟩⟩
  | true =>
    rw [hr] at HR
    have H := hideIt hr
    cases ha : aget PL id with
    | none =>
      rw [ha] at hl hLa
      simp only [Option.map_none, Option.getD_none, Bool.false_eq_true, if_false] at hl hLa
      have HLA := hideIt hLa
      clear hr ha hLa
      go_enter Try.func98, Try.ntmps98
      go_wp2_with (go_at_call 97; refine HR.out.mono ?_; rintro e w1 ⟨rfl, rfl⟩)
      go_ret2
      exact ⟨rfl, .inr (.inl ⟨H.out, HLA.out, rfl⟩)⟩
    | some p =>
      have HA := hideIt ha
      rw [ha] at hl hLa
      simp only [Option.map_some, Option.getD_some, Bool.false_eq_true, if_false] at hl hLa
      have HLA := hideIt hLa
      clear hr ha hLa
      go_enter Try.func98, Try.ntmps98
      go_wp2_with (go_at_call 97; refine HR.out.mono ?_; rintro e w1 ⟨rfl, rfl⟩)
      go_ret2
      have hm' := aget_some_mem HA.out
      refine ⟨rfl, .inr (.inr ⟨p, st p, H.out, HLA.out, rfl, (hp _ hm').1, (hp _ hm').2, fun w1 v hv hc => ?_⟩)⟩
      refine ⟨g, PL, fun q => if q = p then v else st q, hb.chg hc (blk_ne hb (hp _ hm').1 (by decide)), hm.chg hc (map_ne_blk hm (hp _ hm').1), fun q hq => ⟨?_, (hp q hq).2⟩, hn, f1, f2, ?_⟩
      · simp only []
        by_cases e : q.2 = p
        · rw [if_pos e, e]; exact hv
        · rw [if_neg e]; exact (hp q hq).1.chg hc e
      · rw [HL.out]
        exact (wmap_put hm.nodup hn HA.out v).symm

/-- What a call that turns a watch leaves: its answer, its peers; new blocks at most are its own beside the old. -/
def WEnds (w : World) (F : Nat → Prop) (b : Nat) (to : Int) (L : List (Int × Peer)) (r : Value) (e : Ending) (w' : World) : Prop :=
  e = .returned r ∧ WMem w' (fun i => F i ∨ w.heap.size ≤ i ∧ i < w'.heap.size) b to L ∧ Chg F w w'
theorem WEnds.same {r : Value} (h : WMem w F b to L) : WEnds w F b to L r (.returned r) w := ⟨rfl, h.mono (fun _ h => .inl h), Chg.refl _ _⟩

theorem max_if (a b : Int) : (if a < b then b else a) = max a b := by omega
set_option maxHeartbeats 1000000 in
theorem wping_calls (h : WMem w F b to L) (hid : okI id) : Calls Try.prog 51 #[.pointer (some ⟨b, 0, none⟩), .int .i64 id, .int .i64 now] w (WEnds w F b to (pingW L id now).2 (.int .i64 (pingW L id now).1)) := by
  have HF := hideIt (find_calls id now w h hid)
  cases hr : rightW id now with
  | false =>
    have HP := hideIt (show pingW L id now = (10, L) by unfold pingW; rw [hr]; rfl)
    have H := hideIt hr
    clear hr
    go_enter Try.func51, Try.ntmps51
    go_wp2_with fail
    refine HF.out.mono ?_
    rintro e w1 ⟨rfl, ⟨_, rfl⟩ | ⟨h1, _⟩ | ⟨p, x, h1, _⟩⟩
    · go_wp2_with fail
      go_ret
      rw [HP.out]
      exact WEnds.same w h
    · rw [H.out] at h1; cases h1
    · rw [H.out] at h1; cases h1
  | true =>
    have H := hideIt hr
    clear hr
    cases ha : aget L id with
    | none =>
      have HP := hideIt (show pingW L id now = (30, L) by unfold pingW; rw [H.out, ha]; rfl)
      have HA := hideIt ha
      clear ha
      go_enter Try.func51, Try.ntmps51
      go_wp2_with fail
      refine HF.out.mono ?_
      rintro e w1 ⟨rfl, ⟨h1, _⟩ | ⟨h1, _, rfl⟩ | ⟨p, x, h1, h2, _⟩⟩
      · rw [H.out] at h1; cases h1
      · clear h1
        go_wp2_with fail
        go_ret
        rw [HP.out]
        exact WEnds.same w h
      · rw [HA.out] at h2; cases h2
    | some x =>
      have HP := hideIt (show pingW L id now = (0, aput L id (pinged x now)) by unfold pingW; rw [H.out, ha]; rfl)
      have HA := hideIt ha
      clear ha
      obtain ⟨s, wt, l⟩ := x
      cases wt with
      | false =>
        have HM : Hid (max l now = if l < now then now else l) := hideIt (by omega)
        by_cases hlt : l < now
        all_goals
          go_enter Try.func51, Try.ntmps51
          go_wp2_with fail
          refine HF.out.mono ?_
          rintro e w1 ⟨rfl, ⟨h1, _⟩ | ⟨h1, h2, _⟩ | ⟨p, x, _, h2, rfl, hb, hF, hK⟩⟩
          · rw [H.out] at h1; cases h1
          · rw [HA.out] at h2; cases h2
          rw [HA.out] at h2
          cases h2
          have HB := hideIt hb
          have HK := hideIt hK
          have c0 : w.cell? ⟨p, 0, none⟩ = some (.int .i64 s) := hb.cell 0
          have c1 : w.cell? ⟨p, 1, none⟩ = some (.bool false) := hb.cell 1
          have c2 : w.cell? ⟨p, 2, none⟩ = some (.int .i64 l) := hb.cell 2
          have f0 := hb.frozen 0
          have f1 := hb.frozen 1
          have f2 := hb.frozen 2
          clear hb hK
          go_wp2_with fail
          go_ret
          rw [HP.out]
          have hmx := HM.out
          first | rw [if_pos hlt] at hmx | rw [if_neg (by omega)] at hmx
          refine ⟨rfl, (HK.out _ _ ?_ ?_).mono (fun _ h => Or.inl h), ?_⟩
          · have hb2 := ((HB.out.set_ 2 (.int .i64 (max l now))).set_ 0 (.int .i64 now)).set_ 1 (.bool true)
            rw [hmx] at hb2
            simpa [encP, pinged, hmx] using hb2
          · exact ((((Chg.refl (fun i => i = p) w).setCell (p := ⟨p, 2, none⟩) (Or.inl rfl) _).setCell (p := ⟨p, 0, none⟩) (Or.inl rfl) _).setCell (p := ⟨p, 1, none⟩) (Or.inl rfl) _)
          · exact ((((Chg.refl F w).setCell (p := ⟨p, 2, none⟩) (Or.inl hF) _).setCell (p := ⟨p, 0, none⟩) (Or.inl hF) _).setCell (p := ⟨p, 1, none⟩) (Or.inl hF) _)
      | true =>
        have HM : Hid (max l now = if l < now then now else l) := hideIt (by omega)
        by_cases hlt : l < now
        all_goals
          go_enter Try.func51, Try.ntmps51
          go_wp2_with fail
          refine HF.out.mono ?_
          rintro e w1 ⟨rfl, ⟨h1, _⟩ | ⟨h1, h2, _⟩ | ⟨p, x, _, h2, rfl, hb, hF, hK⟩⟩
          · rw [H.out] at h1; cases h1
          · rw [HA.out] at h2; cases h2
          rw [HA.out] at h2
          cases h2
          have HB := hideIt hb
          have HK := hideIt hK
          have c0 : w.cell? ⟨p, 0, none⟩ = some (.int .i64 s) := hb.cell 0
          have c1 : w.cell? ⟨p, 1, none⟩ = some (.bool true) := hb.cell 1
          have c2 : w.cell? ⟨p, 2, none⟩ = some (.int .i64 l) := hb.cell 2
          have f0 := hb.frozen 0
          have f1 := hb.frozen 1
          have f2 := hb.frozen 2
          clear hb hK
          go_wp2_with fail
          go_ret
          rw [HP.out]
          have hmx := HM.out
          first | rw [if_pos hlt] at hmx | rw [if_neg (by omega)] at hmx
          refine ⟨rfl, (HK.out _ _ ?_ ?_).mono (fun _ h => Or.inl h), ?_⟩
          · have hb2 := HB.out.set_ 2 (.int .i64 (max l now))
            rw [hmx] at hb2
            simpa [encP, pinged, hmx] using hb2
          · exact ((Chg.refl (fun i => i = p) w).setCell (p := ⟨p, 2, none⟩) (Or.inl rfl) _)
          · exact ((Chg.refl F w).setCell (p := ⟨p, 2, none⟩) (Or.inl hF) _)

set_option maxHeartbeats 1000000 in
theorem wpong_calls (h : WMem w F b to L) (hid : okI id) : Calls Try.prog 54 #[.pointer (some ⟨b, 0, none⟩), .int .i64 id, .int .i64 now] w (WEnds w F b to (pongW L id now).2 (.int .i64 (pongW L id now).1)) := by
  have HF := hideIt (find_calls id now w h hid)
  cases hr : rightW id now with
  | false =>
    have HP := hideIt (show pongW L id now = (10, L) by unfold pongW; rw [hr]; rfl)
    have H := hideIt hr
    clear hr
    go_enter Try.func54, Try.ntmps54
    go_wp2_with fail
    refine HF.out.mono ?_
    rintro e w1 ⟨rfl, ⟨_, rfl⟩ | ⟨h1, _⟩ | ⟨p, x, h1, _⟩⟩
    · go_wp2_with fail
      go_ret
      rw [HP.out]
      exact WEnds.same w h
    · rw [H.out] at h1; cases h1
    · rw [H.out] at h1; cases h1
  | true =>
    have H := hideIt hr
    clear hr
    cases ha : aget L id with
    | none =>
      have HP := hideIt (show pongW L id now = (30, L) by unfold pongW; rw [H.out, ha]; rfl)
      have HA := hideIt ha
      clear ha
      go_enter Try.func54, Try.ntmps54
      go_wp2_with fail
      refine HF.out.mono ?_
      rintro e w1 ⟨rfl, ⟨h1, _⟩ | ⟨h1, _, rfl⟩ | ⟨p, x, h1, h2, _⟩⟩
      · rw [H.out] at h1; cases h1
      · clear h1
        go_wp2_with fail
        go_ret
        rw [HP.out]
        exact WEnds.same w h
      · rw [HA.out] at h2; cases h2
    | some x =>
      have HP := hideIt (show pongW L id now = (0, aput L id (ponged x now)) by unfold pongW; rw [H.out, ha]; rfl)
      have HA := hideIt ha
      clear ha
      obtain ⟨s, wt, l⟩ := x
      cases wt with
      | false =>
        have HM : Hid (max l now = if l < now then now else l) := hideIt (by omega)
        by_cases hlt : l < now
        all_goals
          go_enter Try.func54, Try.ntmps54
          go_wp2_with fail
          refine HF.out.mono ?_
          rintro e w1 ⟨rfl, ⟨h1, _⟩ | ⟨h1, h2, _⟩ | ⟨p, x, _, h2, rfl, hb, hF, hK⟩⟩
          · rw [H.out] at h1; cases h1
          · rw [HA.out] at h2; cases h2
          rw [HA.out] at h2
          cases h2
          have HB := hideIt hb
          have HK := hideIt hK
          have c0 : w.cell? ⟨p, 0, none⟩ = some (.int .i64 s) := hb.cell 0
          have c1 : w.cell? ⟨p, 1, none⟩ = some (.bool false) := hb.cell 1
          have c2 : w.cell? ⟨p, 2, none⟩ = some (.int .i64 l) := hb.cell 2
          have f0 := hb.frozen 0
          have f1 := hb.frozen 1
          have f2 := hb.frozen 2
          clear hb hK
          go_wp2_with fail
          go_ret
          rw [HP.out]
          have hmx := HM.out
          first | rw [if_pos hlt] at hmx | rw [if_neg (by omega)] at hmx
          refine ⟨rfl, (HK.out _ _ ?_ ?_).mono (fun _ h => Or.inl h), ?_⟩
          · have hb2 := ((HB.out.set_ 0 (.int .i64 0)).set_ 1 (.bool false)).set_ 2 (.int .i64 (max l now))
            rw [hmx] at hb2
            simpa [encP, ponged, hmx] using hb2
          · exact ((((Chg.refl (fun i => i = p) w).setCell (p := ⟨p, 0, none⟩) (Or.inl rfl) _).setCell (p := ⟨p, 1, none⟩) (Or.inl rfl) _).setCell (p := ⟨p, 2, none⟩) (Or.inl rfl) _)
          · exact ((((Chg.refl F w).setCell (p := ⟨p, 0, none⟩) (Or.inl hF) _).setCell (p := ⟨p, 1, none⟩) (Or.inl hF) _).setCell (p := ⟨p, 2, none⟩) (Or.inl hF) _)
      | true =>
        have HM : Hid (max l now = if l < now then now else l) := hideIt (by omega)
        by_cases hlt : l < now
        all_goals
          go_enter Try.func54, Try.ntmps54
          go_wp2_with fail
          refine HF.out.mono ?_
          rintro e w1 ⟨rfl, ⟨h1, _⟩ | ⟨h1, h2, _⟩ | ⟨p, x, _, h2, rfl, hb, hF, hK⟩⟩
          · rw [H.out] at h1; cases h1
          · rw [HA.out] at h2; cases h2
          rw [HA.out] at h2
          cases h2
          have HB := hideIt hb
          have HK := hideIt hK
          have c0 : w.cell? ⟨p, 0, none⟩ = some (.int .i64 s) := hb.cell 0
          have c1 : w.cell? ⟨p, 1, none⟩ = some (.bool true) := hb.cell 1
          have c2 : w.cell? ⟨p, 2, none⟩ = some (.int .i64 l) := hb.cell 2
          have f0 := hb.frozen 0
          have f1 := hb.frozen 1
          have f2 := hb.frozen 2
          clear hb hK
          go_wp2_with fail
          go_ret
          rw [HP.out]
          have hmx := HM.out
          first | rw [if_pos hlt] at hmx | rw [if_neg (by omega)] at hmx
          refine ⟨rfl, (HK.out _ _ ?_ ?_).mono (fun _ h => Or.inl h), ?_⟩
          · have hb2 := ((HB.out.set_ 0 (.int .i64 0)).set_ 1 (.bool false)).set_ 2 (.int .i64 (max l now))
            rw [hmx] at hb2
            simpa [encP, ponged, hmx] using hb2
          · exact ((((Chg.refl (fun i => i = p) w).setCell (p := ⟨p, 0, none⟩) (Or.inl rfl) _).setCell (p := ⟨p, 1, none⟩) (Or.inl rfl) _).setCell (p := ⟨p, 2, none⟩) (Or.inl rfl) _)
          · exact ((((Chg.refl F w).setCell (p := ⟨p, 0, none⟩) (Or.inl hF) _).setCell (p := ⟨p, 1, none⟩) (Or.inl hF) _).setCell (p := ⟨p, 2, none⟩) (Or.inl hF) _)

set_option maxRecDepth 100000 in
set_option maxHeartbeats 1000000 in
theorem wremove_calls (h : WMem w F b to L) (hid : okI id) : Calls Try.prog 70 #[.pointer (some ⟨b, 0, none⟩), .int .i64 id] w (WEnds w F b to (adel L id) (.bool (aget L id).isSome)) := by
  obtain ⟨g, PL, st, hb, hm, hp, hn, f1, f2, rfl⟩ := h
  have c1 : w.cell? ⟨b, 1, none⟩ = some (.map (some g)) := hb.cell 1
  have hl := hm.look encInt Try.underlying127 (zeroPeer w) hid true
  simp only [if_true] at hl
  rw [aget_map2 PL st id]
  obtain ⟨v0, hv0⟩ : ∃ v0, ((aget PL id).map fun p : Nat => Value.pointer (some ⟨p, 0, none⟩)).getD (.pointer none) = v0 := ⟨_, rfl⟩
  obtain ⟨r0, hr0⟩ : ∃ r0, (aget PL id).isSome = r0 := ⟨_, rfl⟩
  rw [hv0, hr0] at hl
  have HR0 := hideIt hr0
  clear hr0 hv0
  go_enter Try.func70, Try.ntmps70
  go_wp2_with (at_delete; refine wpList_drop _ rfl _ _ 127 rfl 130 encInt Try.underlying127 hm rfl id rfl hid ?_; intro w1 hm1 ht1)
  go_ret
  have hc := Chg.mapTurned ht1
  refine ⟨by rw [Option.isSome_map, HR0.out]; rfl, ⟨g, adel PL id, st, hb.turned ht1, hm1, fun q hq => ?_, ?_, .inl f1, .inl f2, (wmap_del PL st id).symm⟩, hc.mono (fun i hi => hi ▸ f2)⟩
  · have := hp q (mem_adel.1 hq).1
    exact ⟨this.1.turned ht1, .inl this.2⟩
  · exact (List.filter_sublist.map _).nodup hn

set_option maxRecDepth 100000 in
set_option maxHeartbeats 1000000 in
theorem wadd_calls (h : WMem w F b to L) (hk : WOk L) (hid : okI id) : Calls Try.prog 50 #[.pointer (some ⟨b, 0, none⟩), .int .i64 id, .int .i64 now] w (WEnds w F b to (addW L id now).2 (.int .i64 (addW L id now).1)) := by
  have h0 := h
  obtain ⟨g, PL, st, hb, hm, hp, hn, f1, f2, hL⟩ := h
  have c1 : w.cell? ⟨b, 1, none⟩ = some (.map (some g)) := hb.cell 1
  have hl := hm.look encInt Try.underlying127 (zeroPeer w) hid false
  have hLa := aget_map2 PL st id
  rw [← hL] at hLa
  have HR := hideIt (wright_calls id now w)
  have hlen : PL.length = L.length := by rw [hL]; simp
  have hlm := fun ty => MapIs.len (P := Try.prog) (w := w) hm Try.underlying127 ty
  rw [hlen] at hlm
  have HL := hideIt hL
  have hk16 := hk.1
  clear hL hlen
  cases hr : rightW id now with
  | false =>
    rw [hr] at HR
    have HP := hideIt (show addW L id now = (10, L) by unfold addW; rw [if_pos hr])
    clear hr hLa
    go_enter Try.func50, Try.ntmps50
    go_wp2_with (go_at_call 97; refine HR.out.mono ?_; rintro e w1 ⟨rfl, rfl⟩)
    go_ret
    rw [HP.out]
    exact WEnds.same w h0
  | true =>
    rw [hr] at HR
    cases ha : aget PL id with
    | some p =>
      rw [ha] at hl hLa
      simp only [Option.map_some, Option.getD_some, Bool.false_eq_true, if_false] at hl hLa
      have HP := hideIt (show addW L id now = (32, L) by unfold addW; rw [if_neg (by rw [hr]; decide), hLa]; rfl)
      clear hr hLa ha
      go_enter Try.func50, Try.ntmps50
      go_wp2_with (go_at_call 97; refine HR.out.mono ?_; rintro e w1 ⟨rfl, rfl⟩)
      go_ret
      rw [HP.out]
      exact WEnds.same w h0
    | none =>
      rw [ha] at hl hLa
      simp only [Option.map_none, Option.getD_none, Bool.false_eq_true, if_false] at hl hLa
      by_cases h16 : L.length = 16
      · have HP := hideIt (show addW L id now = (31, L) by unfold addW; rw [if_neg (by rw [hr]; decide), hLa, if_pos h16]; rfl)
        have hz : ((L.length : Int) == 16) = true := by simp; omega
        clear hr hLa ha h16
        go_enter Try.func50, Try.ntmps50
        go_wp2_with (go_at_call 97; refine HR.out.mono ?_; rintro e w1 ⟨rfl, rfl⟩)
        go_ret
        rw [HP.out]
        exact WEnds.same w h0
      · have HP := hideIt (show addW L id now = (0, L ++ [(id, (0, false, now))]) by unfold addW; rw [if_neg (by rw [hr]; decide), hLa, if_neg h16]; rfl)
        have hz : ((L.length : Int) == 16) = false := by simp; omega
        have HA := hideIt ha
        clear hr hLa ha h16
        go_enter Try.func50, Try.ntmps50
        go_wp2_with (first
          | (go_at_call 97; refine HR.out.mono ?_; rintro e w1 ⟨rfl, rfl⟩)
          | (at_mapUpdate; refine wpList_store _ rfl _ _ _ 127 rfl 130 encInt Try.underlying127 (hm.alloc _) rfl id rfl hid w.heap.size rfl ?_; intro w1 hm1 ht1))
        go_ret
        rw [HP.out]
        have hc0 : Chg F w w1 := ((Chg.refl F w).alloc _).map ht1 (Or.inl f2)
        have hs := mapTurned_size ht1
        rw [World.size_alloc] at hs
        have hap : aput PL id w.heap.size = PL ++ [(id, w.heap.size)] := by unfold aput; rw [HA.out]; rfl
        rw [hap] at hm1
        have hnew : ∀ q ∈ PL, q.2 ≠ w.heap.size := fun q hq => by have := (hp q hq).1.lt; omega
        refine ⟨rfl, ⟨g, PL ++ [(id, w.heap.size)], fun q => if q = w.heap.size then (0, false, now) else st q, (hb.alloc _).turned ht1, hm1, fun q hq => ?_, ?_, .inl f1, .inl f2, ?_⟩, hc0⟩
        · rcases List.mem_append.1 hq with hq | hq
          · have := hp q hq
            refine ⟨?_, .inl this.2⟩
            simp only [if_neg (hnew q hq)]
            exact (this.1.alloc _).turned ht1
          · simp only [List.mem_singleton] at hq
            subst hq
            simp only [if_true]
            exact ⟨(Blk.new w _ _).turned ht1, .inr ⟨Nat.le_refl _, by omega⟩⟩
        · rw [List.map_append, List.nodup_append]
          exact ⟨hn, by simp, fun a ha c hc => by
            simp at hc
            subst hc
            obtain ⟨q, hq, rfl⟩ := List.mem_map.1 ha
            exact hnew q hq⟩
        · show L ++ [(id, ((0 : Int), false, now))] = _
          rw [HL.out, List.map_append]
          congr 1
          · exact List.map_congr_left fun q hq => by simp [hnew q hq]
          · simp

/-- Since when a ping waits. -/
def waitsW (L : List (Int × Peer)) (id : Int) : Int × Bool := match aget L id with
  | none => (0, false)
  | some p => (p.1, p.2.1)
set_option maxHeartbeats 1000000 in
theorem waits_calls (h : WMem w F b to L) (hid : okI id) : Calls Try.prog 112 #[.pointer (some ⟨b, 0, none⟩), .int .i64 id] w fun e w' => e = .returned (.tuple #[.int .i64 (waitsW L id).1, .bool (waitsW L id).2]) ∧ Chg (fun _ => False) w w' := by
  obtain ⟨g, PL, st, hb, hm, hp, hn, f1, f2, rfl⟩ := h
  have c1 : w.cell? ⟨b, 1, none⟩ = some (.map (some g)) := hb.cell 1
  have hl := hm.look encInt Try.underlying127 (zeroPeer w) hid false
  have hLa := aget_map2 PL st id
  unfold waitsW
  cases ha : aget PL id with
  | none =>
    rw [ha] at hl hLa
    rw [hLa]
    simp only [Option.map_none, Option.getD_none, Bool.false_eq_true, if_false] at hl ⊢
    clear ha hLa
    go_enter Try.func112, Try.ntmps112
    go_wp2
    go_ret2
    exact ⟨rfl, Chg.refl _ _⟩
  | some p =>
    have hq := (hp _ (aget_some_mem ha)).1
    rw [ha] at hl hLa
    rw [hLa]
    simp only [Option.map_some, Option.getD_some, Bool.false_eq_true, if_false] at hl ⊢
    obtain ⟨⟨s, wt, l⟩, hx⟩ : ∃ x, st p = x := ⟨_, rfl⟩
    simp only [hx] at hq ⊢
    have c0 : w.cell? ⟨p, 0, none⟩ = some (.int .i64 s) := hq.cell 0
    have c2 : w.cell? ⟨p, 1, none⟩ = some (.bool wt) := hq.cell 1
    clear ha hLa hx hq
    go_enter Try.func112, Try.ntmps112
    go_wp2
    go_quiet (fail)
    go_wp2
    go_ret2
    exact ⟨rfl, (Chg.refl _ _).drewN _⟩
end
end Go.Proofs.Ytgmekeeemimnpaa
