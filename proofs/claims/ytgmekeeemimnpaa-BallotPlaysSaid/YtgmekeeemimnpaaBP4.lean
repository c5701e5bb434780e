/- Layer 15's twin, walked: gave where it counts. -/
import Derived.Test.YtgmekeeemimnpaaBP3
namespace Go.Proofs.Ytgmekeeemimnpaa
open Go Go.Maps Go.MapKept Go.RowKit

section
variable {base t : Nat} {F : Nat → Prop} {s : TwSt} {m : Nat} {master now : Int}
theorem infoIntB : (Try.prog.info? 3).map (fun i => (i.zero, i.size, i.bytes)) = some (some (.int .i64 0), 1, 8) := by kernel_rfl
theorem TwOk.gset (h : TwOk s m) {k : Nat} (h1 : 0 ≤ now) (h2 : now ≤ 1099511627776) : TwOk { s with ws := s.ws, ts := s.ts.set k now } (m + 1) :=
  ⟨h.vs_ok, h.ys_ok, h.ws_ok, fun x hx => by
    rcases List.mem_or_eq_of_mem_set hx with hx | rfl
    · exact h.ts_ok x hx
    · exact ⟨h1, h2⟩, by simpa using h.len, Nat.le_succ_of_le h.small, h.vl, Nat.le_succ_of_le h.yl, h.nd⟩
theorem TwOk.gadd (h : TwOk s m) (h0 : okI master) (h1 : 0 ≤ now) (h2 : now ≤ 1099511627776) (hn : master ∉ s.ws) : TwOk { s with ws := s.ws ++ [master], ts := s.ts ++ [now] } (m + 1) :=
  ⟨h.vs_ok, h.ys_ok, fun x hx => by
    rcases List.mem_append.1 hx with hx | hx
    · exact h.ws_ok x hx
    · simp at hx; subst hx; exact h0, fun x hx => by
    rcases List.mem_append.1 hx with hx | hx
    · exact h.ts_ok x hx
    · simp at hx; subst hx; exact ⟨h1, h2⟩, by simpa using h.len, by have := h.small; simp; omega, h.vl, Nat.le_succ_of_le h.yl, by
    show (s.ws ++ [master]).Nodup
    rw [List.nodup_append]
    exact ⟨h.nd, by simp, fun a ha b hb => by simp at hb; subst hb; exact fun e => hn (e ▸ ha)⟩⟩

section
variable {G : Nat → Prop} {w w' wc : World} {base e : Nat} {v1 v2 v3 v4 v' : Value} {x1 x2 x3 x4 ys : List Int}
theorem Own4.app1 (h : Own4 G w base e v1 x1 v2 x2 v3 x3 v4 x4) (hG : ∀ i, G i → i < w.heap.size) (hc : Chg (fun _ => False) w wc) (ho : OwnI w' base e v' ys) (hg : wc.grownBy w' v1.ownBlock) (hl : v'.ownBlock = v1.ownBlock ∨ v'.ownBlock = some wc.heap.size) :
    Own4 G w' base e v' ys v2 x2 v3 x3 v4 x4 ∧ Chg (fun i => ¬ G i ∧ base ≤ i) w w' := by
  have k' : Chg (fun i => v1.ownBlock = some i) w w' := (hc.mono (fun _ h => h.elim)).trans (Chg.of_grown hg)
  refine ⟨h.put hG k' ho (fun g hg' => ?_), k'.mono (fun i hi => ⟨h.g1 i hi, h.o1.base_le hi⟩)⟩
  rcases hl with hl | hl
  · rw [hl] at hg'; exact .inl hg'
  · rw [hl] at hg'; cases hg'; exact .inr hc.size
theorem Own4.app3 (h : Own4 G w base e v1 x1 v2 x2 v3 x3 v4 x4) (hG : ∀ i, G i → i < w.heap.size) (hc : Chg (fun _ => False) w wc) (ho : OwnI w' base e v' ys) (hg : wc.grownBy w' v3.ownBlock) (hl : v'.ownBlock = v3.ownBlock ∨ v'.ownBlock = some wc.heap.size) :
    Own4 G w' base e v1 x1 v2 x2 v' ys v4 x4 ∧ Chg (fun i => ¬ G i ∧ base ≤ i) w w' := by
  obtain ⟨a, b⟩ := h.rot.rot.app1 hG hc ho hg hl
  exact ⟨a.rot.rot, b⟩
theorem Own4.app4 (h : Own4 G w base e v1 x1 v2 x2 v3 x3 v4 x4) (hG : ∀ i, G i → i < w.heap.size) (hc : Chg (fun _ => False) w wc) (ho : OwnI w' base e v' ys) (hg : wc.grownBy w' v4.ownBlock) (hl : v'.ownBlock = v4.ownBlock ∨ v'.ownBlock = some wc.heap.size) :
    Own4 G w' base e v1 x1 v2 x2 v3 x3 v' ys ∧ Chg (fun i => ¬ G i ∧ base ≤ i) w w' := by
  obtain ⟨a, b⟩ := h.rot.rot.rot.app1 hG hc ho hg hl
  exact ⟨a.rot, b⟩
/-- A literal that was laid is kept by an append onto an older slice. -/
theorem lit_kept {A : Option Addr} {x : Int} {xs : List Int} {v : Value} (h : Ints wc A 1 [x]) (hA : ∀ b off, A = some ⟨b, off, none⟩ → w.heap.size ≤ b) (hg : wc.grownBy w' v.ownBlock) (ho : OwnI w base e v xs) : Ints w' A 1 [x] :=
  h.chg (Chg.of_grown hg) (fun b off hb _ hs => by have := hA b off hb; have := ho.lt hs; omega)
end

theorem tgave_fin {w w' : World} {v1 v2 v3 v4 u3 u4 : Value} (hs : TwOk s m) (hbt : base ≤ t) (hFt : ¬ F t) (hFl : ∀ i, F i → i < w.heap.size) (hno : ∀ j, j < s.ws.length → s.ws.getD j 0 ≠ master) (hm : okI master) (h1 : 0 ≤ now) (h2 : now ≤ 1099511627776)
    (hb : Blk w t 88 #[.bool s.on, .int .i64 s.ep, .int .i64 s.un, v1, v2, v3, v4]) (C : Chg (fun i => ¬ (F i ∨ i = t) ∧ base ≤ i) w w') (H : Own4 (fun i => F i ∨ i = t) w' base 3 v1 s.vs v2 s.ys u3 (s.ws ++ [master]) u4 (s.ts ++ [now])) :
    TGave w base F t s m master now (.returned (.int .i64 0)) ((w'.setCell ⟨t, 5, none⟩ u3).setCell ⟨t, 6, none⟩ u4) := by
  have hb' := hb.chg C (fun h => h.1 (.inr rfl))
  have c1 : Chg (fun i => i = t) w' ((w'.setCell ⟨t, 5, none⟩ u3).setCell ⟨t, 6, none⟩ u4) := Chg.setCell (S := fun i => i = t) (Chg.setCell (S := fun i => i = t) (Chg.refl _ w') (p := ⟨t, 5, none⟩) (.inl rfl) _) (p := ⟨t, 6, none⟩) (.inl rfl) _
  refine ⟨rfl, s.ws ++ [master], s.ts ++ [now], aput_zip_new hs.len hno, ⟨⟨v1, v2, u3, u4, ?_, H.far (c1.mono (fun _ => .inr))⟩, hbt, hFt, fun i hi => Nat.lt_of_lt_of_le (hFl i hi) (Nat.le_trans C.size c1.size)⟩, hs.gadd hm h1 h2 (not_mem_getD hno), ?_⟩
  · have := (hb'.set_ 5 u3).set_ 6 u4
    simpa using this
  · exact (C.mono (fun i hi => ⟨fun h => hi.1 (.inl h), hi.2⟩)).trans (c1.mono (fun i hi => by subst hi; exact ⟨hFt, hbt⟩))

set_option maxRecDepth 100000 in
set_option maxHeartbeats 8000000 in
theorem tgave_yes (w : World) (h : Twin w base F t s) (hs : TwOk s m) (hm : m ≤ 1000) (hg : gaveB master now = true) :
    Calls Try.prog 80 #[.pointer (some ⟨t, 0, none⟩), .int .i64 master, .int .i64 now] w (TGave w base F t s m master now) := by
  obtain ⟨i0, hi, hz0, hz1, hz2⟩ := info_parts infoIntB
  unfold gaveB at hg
  rw [Bool.and_eq_true, decide_eq_true_eq] at hg
  obtain ⟨⟨m1, m2⟩, ht⟩ := hg
  obtain ⟨n1, n2⟩ := timeB_true ht
  obtain ⟨⟨v1, v2, v3, v4, hb, ho⟩, hbt, hFt, hFl⟩ := h
  have c5 : w.cell? ⟨t, 5, none⟩ = some v3 := hb.cell 5
  have c6 : w.cell? ⟨t, 6, none⟩ = some v4 := hb.cell 6
  obtain ⟨A3, k3, rfl, -, -, -⟩ := ho.o3.slice
  obtain ⟨A4, k4, rfl, -, -, -⟩ := ho.o4.slice
  have I3 := ho.o3.ints hs.ws_ok rfl
  obtain ⟨n, hn⟩ : ∃ n, s.ws.length = n := ⟨_, rfl⟩
  have hn' : s.ts.length = n := by rw [← hs.len]; exact hn
  rw [hn'] at c6
  rw [hn] at c5 I3
  rw [hn, hn'] at ho hb
  have HN := hideIt hn
  have HN' := hideIt hn'
  have HI3 := hideIt I3
  have HS := hideIt hs
  have HO := hideIt ho
  have HB := hideIt hb
  have HF := hideIt hFt
  have HFL := hideIt hFl
  have hn1 : n ≤ 1000 := by rw [← hn]; exact Nat.le_trans hs.small hm
  clear hn hn' I3 hs ht ho hb hFt hFl
  go_enter Try.func80, Try.ntmps80
  go_wp2
  go_loop [28] (fun i => ∃ k : Nat, k ≤ n ∧ i = .int .i64 k ∧ Hid (∀ j, j < k → s.ws.getD j 0 ≠ master)) (fun i => n - (intOf i).toNat)
  case atStart => exact ⟨0, by omega, rfl, hideIt (by omega)⟩
  case round =>
    obtain ⟨k, hk, rfl, hno⟩ := hrel
    by_cases hlt : k < n
    · obtain ⟨b3, off3, rfl, _, hc3⟩ := HI3.out.at_ (by omega)
      have x3 := hc3 k hlt
      obtain ⟨y, hy⟩ : ∃ y, s.ws.getD k 0 = y := ⟨_, rfl⟩
      rw [hy] at x3
      have HY := hideIt hy
      clear hc3 hy
      by_cases he : y = master
      · have de : (y == master) = true := by simpa using he
        obtain ⟨g4, hg4⟩ := HO.out.o4.addr (by rw [HN'.out]; omega)
        subst hg4
        have f4 : w.frozen? ⟨g4, k, none⟩ = false := HO.out.o4.free HN'.out.symm k
        have x4 : w.cell? ⟨g4, k, none⟩ = some (.int .i64 (s.ts.getD k 0)) := by
          obtain ⟨b', off', e', _, hc'⟩ := (HO.out.o4.ints HS.out.ts_okI rfl).at_ (by omega)
          cases e'
          have := hc' k hlt
          simpa using this
        have HE := hideIt he
        clear he
        go_wp2
        go_ret
        have hP := HO.out.rot.rot.rot.put (w' := w.setCell ⟨g4, k, none⟩ (.int .i64 now)) (ys := s.ts.set k now) (v' := .slice (some ⟨g4, 0, none⟩) n k4) (by
            intro i hi
            rcases hi with hi | rfl
            · exact HFL.out i hi
            · exact HB.out.lt) (Chg.setCell (S := fun i => (Value.slice (some ⟨g4, 0, none⟩) n k4).ownBlock = some i) (Chg.refl _ w) (p := ⟨g4, k, none⟩) (.inl rfl) _) (HO.out.o4.set_ HN'.out.symm k now) (fun g hg => .inl hg)
        have hne : g4 ≠ t := fun e => HO.out.g4 g4 rfl (.inr e)
        have hnf : ¬ F g4 := fun e => HO.out.g4 g4 rfl (.inl e)
        refine ⟨rfl, s.ws, s.ts.set k now, aput_zip_at HS.out.nd HS.out.len (by rw [HN.out]; exact hlt) hno.out (by rw [HY.out, HE.out]), ⟨⟨v1, v2, _, _, HB.out.far (p := ⟨g4, k, none⟩) (Ne.symm hne) _, hP.rot⟩, hbt, HF.out, fun i hi => by have := HFL.out i hi; simpa [World.setCell] using this⟩, HS.out.gset n1 n2, (Chg.refl _ w).setCell (p := ⟨g4, k, none⟩) (.inl ⟨hnf, HO.out.o4.base_le rfl⟩) _⟩
      · have de : (y == master) = false := by simpa using he
        have HNO : Hid (∀ j, j < k + 1 → s.ws.getD j 0 ≠ master) := hideIt (fun j hj => by
          rcases Nat.lt_or_ge j k with h1 | h1
          · exact hno.out j h1
          · obtain rfl : j = k := by omega
            rw [HY.out]; exact he)
        clear he hno
        go_wp2
        exact ⟨⟨k + 1, by omega, by go_num, HNO⟩, by simp [intOf]; omega⟩
    · obtain rfl : k = n := by omega
      have HNO : Hid (∀ j, j < s.ws.length → s.ws.getD j 0 ≠ master) := hideIt (fun j hj => hno.out j (by rw [HN.out] at hj; exact hj))
      have okm : okI master := okI_iff.2 (by omega)
      have okn : okI now := okI_iff.2 (by omega)
      clear hno
      go_wp2
      have HGl := hideIt (show ∀ i, (F i ∨ i = t) → i < w.heap.size from fun i hi => hi.elim (HFL.out i) (fun e => e ▸ HB.out.lt))
      have N1 : s.ws.length + 1 ≤ 17592186043904 := by rw [HN.out]; omega
      have N2 : s.ts.length + 1 ≤ 17592186043904 := by rw [HN'.out]; omega
      have La : Ints (w.drew.alloc (.cells #[.int .i64 master] 3)) (some ⟨w.heap.size, 0, none⟩) 1 [master] := Ints.one w.drew 3 master okm
      have Lb : Ints ((w.drew.alloc (.cells #[.int .i64 master] 3)).alloc (.cells #[.int .i64 now] 3)) (some ⟨w.heap.size, 0, none⟩) 1 [master] := La.alloc _
      have Lc : Ints ((w.drew.alloc (.cells #[.int .i64 now] 3)).alloc (.cells #[.int .i64 master] 3)) (some ⟨w.heap.size + 1, 0, none⟩) 1 [master] := by have := Ints.one (w.drew.alloc (.cells #[.int .i64 now] 3)) 3 master okm; simpa using this
      have Ma : Ints (w.drew.alloc (.cells #[.int .i64 now] 3)) (some ⟨w.heap.size, 0, none⟩) 1 [now] := Ints.one w.drew 3 now okn
      have Mb : Ints ((w.drew.alloc (.cells #[.int .i64 now] 3)).alloc (.cells #[.int .i64 master] 3)) (some ⟨w.heap.size, 0, none⟩) 1 [now] := Ma.alloc _
      have Mc : Ints ((w.drew.alloc (.cells #[.int .i64 master] 3)).alloc (.cells #[.int .i64 now] 3)) (some ⟨w.heap.size + 1, 0, none⟩) 1 [now] := by have := Ints.one (w.drew.alloc (.cells #[.int .i64 master] 3)) 3 now okn; simpa using this
      have htl : t < w.heap.size := HB.out.lt
      have ht1 : ¬ t = w.heap.size := by omega
      have ht2 : ¬ t = w.heap.size + 1 := by omega
      have hbw : base ≤ w.heap.size := Nat.le_of_lt (Nat.lt_of_le_of_lt hbt HB.out.lt)
      go_region_law (first
        | (refine step_append_ints (v := .slice A4 k k4) (xs := s.ts) rfl _ _ 25 rfl i0 _ Try.underlying25 hi hz0 hz1 hz2 rfl rfl (by first | exact H5.o4 | exact (H5.new ((Chg.refl _ _).alloc _)).o4) rfl (by first | exact m5 | exact Ints.one _ _ _ okn) N2 (by have := C5.size; simp; omega) ?_; intro v7 w7 o7 g7 q7; obtain ⟨A7, c7, e7, -, -, -⟩ := o7.slice; obtain ⟨n7, hn7⟩ : ∃ n, (s.ts ++ [now]).length = n := ⟨_, rfl⟩; rw [hn7] at e7; subst e7; clear hn7; obtain ⟨H7, C7⟩ := H5.app4 hG5 (by first | exact Chg.refl _ _ | exact (Chg.refl _ _).alloc _) o7 g7 q7; have D7 := C5.trans C7; have T7 := HB.out.chg D7 (fun h => h.1 (.inr rfl)); have y5 : w7.cell? ⟨t, 5, none⟩ = some (.slice A3 k k3) := T7.cell 5; have y6 : w7.cell? ⟨t, 6, none⟩ = some (.slice A4 k k4) := T7.cell 6; have x5 := T7.frozen 5; have x6 := T7.frozen 6; clear T7)
        | (refine step_append_ints (v := .slice A3 k k3) (xs := s.ws) rfl _ _ 25 rfl i0 _ Try.underlying25 hi hz0 hz1 hz2 rfl rfl (by first | exact H6.o3 | exact (H6.new ((Chg.refl _ _).alloc _)).o3) rfl (by first | exact m6 | exact Ints.one _ _ _ okm) N1 (by have := C6.size; simp; omega) ?_; intro v8 w8 o8 g8 q8; obtain ⟨A8, c8, e8, -, -, -⟩ := o8.slice; obtain ⟨n8, hn8⟩ : ∃ n, (s.ws ++ [master]).length = n := ⟨_, rfl⟩; rw [hn8] at e8; subst e8; clear hn8; obtain ⟨H8, C8⟩ := H6.app3 hG6 (by first | exact Chg.refl _ _ | exact (Chg.refl _ _).alloc _) o8 g8 q8; have D8 := C6.trans C8; have T8 := HB.out.chg D8 (fun h => h.1 (.inr rfl)); have y5 : w8.cell? ⟨t, 5, none⟩ = some (.slice A3 k k3) := T8.cell 5; have y6 : w8.cell? ⟨t, 6, none⟩ = some (.slice A4 k k4) := T8.cell 6; have x5 := T8.frozen 5; have x6 := T8.frozen 6; clear T8)
        | (refine step_append_ints (v := .slice A3 k k3) (xs := s.ws) rfl _ _ 25 rfl i0 _ Try.underlying25 hi hz0 hz1 hz2 rfl rfl (by first | exact (HO.out.new (((Chg.refl _ w).drew).alloc _)).o3 | exact (HO.out.new ((((Chg.refl _ w).drew).alloc _).alloc _)).o3) rfl (by first | exact La | exact Lb | exact Lc) N1 (by simp; omega) ?_; intro v5 w5 o5 g5 q5; obtain ⟨A5, k5, e5, -, -, -⟩ := o5.slice; obtain ⟨n5, hn5⟩ : ∃ n, (s.ws ++ [master]).length = n := ⟨_, rfl⟩; rw [hn5] at e5; subst e5; clear hn5; obtain ⟨H5, C5⟩ := HO.out.app3 HGl.out (by first | exact ((Chg.refl _ w).drew).alloc _ | exact (((Chg.refl _ w).drew).alloc _).alloc _) o5 g5 q5; have T5 := HB.out.chg C5 (fun h => h.1 (.inr rfl)); have b5 : w5.cell? ⟨t, 5, none⟩ = some (.slice A3 k k3) := T5.cell 5; have b6 : w5.cell? ⟨t, 6, none⟩ = some (.slice A4 k k4) := T5.cell 6; have z5 := T5.frozen 5; have z6 := T5.frozen 6; clear T5; have hG5 : ∀ i, (F i ∨ i = t) → i < w5.heap.size := (fun i hi => Nat.lt_of_lt_of_le (HGl.out i hi) C5.size); first | (have m5 := lit_kept Mb (fun b off h => by cases h; exact Nat.le_refl _) g5 HO.out.o3) | (have m5 := lit_kept Mc (fun b off h => by cases h; exact Nat.le_succ _) g5 HO.out.o3) | skip)
        | (refine step_append_ints (v := .slice A4 k k4) (xs := s.ts) rfl _ _ 25 rfl i0 _ Try.underlying25 hi hz0 hz1 hz2 rfl rfl (by first | exact (HO.out.new (((Chg.refl _ w).drew).alloc _)).o4 | exact (HO.out.new ((((Chg.refl _ w).drew).alloc _).alloc _)).o4) rfl (by first | exact Ma | exact Mb | exact Mc) N2 (by simp; omega) ?_; intro v6 w6 o6 g6 q6; obtain ⟨A6, k6, e6, -, -, -⟩ := o6.slice; obtain ⟨n6, hn6⟩ : ∃ n, (s.ts ++ [now]).length = n := ⟨_, rfl⟩; rw [hn6] at e6; subst e6; clear hn6; obtain ⟨H6, C6⟩ := HO.out.app4 HGl.out (by first | exact ((Chg.refl _ w).drew).alloc _ | exact (((Chg.refl _ w).drew).alloc _).alloc _) o6 g6 q6; have T6 := HB.out.chg C6 (fun h => h.1 (.inr rfl)); have b5 : w6.cell? ⟨t, 5, none⟩ = some (.slice A3 k k3) := T6.cell 5; have b6 : w6.cell? ⟨t, 6, none⟩ = some (.slice A4 k k4) := T6.cell 6; have z5 := T6.frozen 5; have z6 := T6.frozen 6; clear T6; have hG6 : ∀ i, (F i ∨ i = t) → i < w6.heap.size := (fun i hi => Nat.lt_of_lt_of_le (HGl.out i hi) C6.size); first | (have m6 := lit_kept Lb (fun b off h => by cases h; exact Nat.le_refl _) g6 HO.out.o4) | (have m6 := lit_kept Lc (fun b off h => by cases h; exact Nat.le_succ _) g6 HO.out.o4) | skip))
      all_goals
        go_wp2
        go_ret
        first
          | exact tgave_fin HS.out hbt HF.out HFL.out HNO.out okm n1 n2 HB.out D7 H7
          | exact tgave_fin HS.out hbt HF.out HFL.out HNO.out okm n1 n2 HB.out D8 H8
end
end Go.Proofs.Ytgmekeeemimnpaa
