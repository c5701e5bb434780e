/- Layer 8's own 'by', walked. (Printed by wip/gen/rby08.py.) -/
import Derived.Test.YtgmekeeemimnpaaRpF
import Derived.Deep.RegionHeld3
namespace Go.Proofs.Ytgmekeeemimnpaa
open Go Go.Maps Go.MapKept Go.RowKit

theorem ins_rise {xs : List Int} (hr : xs.Pairwise (fun a b => a < b)) {b : Int} (hb : b ∉ xs) {j : Nat} (h1 : ∀ i, i < j → xs.getD i 0 < b) (h2 : j < xs.length → ¬ xs.getD j 0 < b) : (xs.take j ++ [b] ++ xs.drop j).Pairwise (fun a b => a < b) := by
  have hg : ∀ i (h : i < xs.length), xs.getD i 0 = xs[i] := fun i h => getD_get xs i h
  have hp := List.pairwise_iff_getElem.1 hr
  rw [List.append_assoc, List.pairwise_append]
  have hdrop : ∀ y ∈ xs.drop j, b < y := by
    intro y hy
    obtain ⟨i, hi, rfl⟩ := List.mem_iff_getElem.1 hy
    rw [List.length_drop] at hi
    rw [List.getElem_drop]
    have hjl : j < xs.length := by omega
    have h3 := h2 hjl
    rw [hg j hjl] at h3
    have hne : b ≠ xs[j + i] := fun e => hb (by rw [e]; exact List.getElem_mem _)
    by_cases h0 : i = 0
    · subst h0
      simp only [Nat.add_zero] at hne ⊢
      omega
    · have := hp j (j + i) hjl (by omega) (by omega)
      omega
  have htake : ∀ y ∈ xs.take j, y < b := by
    intro y hy
    obtain ⟨i, hi, rfl⟩ := List.mem_iff_getElem.1 hy
    rw [List.length_take] at hi
    rw [List.getElem_take, ← hg i (by omega)]
    exact h1 i (by omega)
  refine ⟨hr.sublist (List.take_sublist _ _), ?_, ?_⟩
  · rw [List.singleton_append, List.pairwise_cons]
    exact ⟨hdrop, hr.sublist (List.drop_sublist _ _)⟩
  · intro a ha c hc
    rw [List.singleton_append, List.mem_cons] at hc
    rcases hc with rfl | hc
    · exact htake a ha
    · have := htake a ha
      have := hdrop c hc
      omega
theorem byL_snoc (win : Int) (l : List (Pr × Int)) (p : Pr × Int) (about now : Int) : byL win (l ++ [p]) about now = byL win l about now ++ (if tellsB win about now p then [p.1.2] else []) := by
  unfold byL
  rw [List.filter_append, List.map_append, List.filter_cons]
  split <;> rfl
theorem byL_nodup {L : List (Pr × Int)} (hn : keysNodup L) (win about now : Int) : (byL win L about now).Nodup := by
  unfold byL
  induction L with
  | nil => simp
  | cons p L ih =>
    unfold keysNodup at hn ih
    rw [List.map_cons, List.nodup_cons] at hn
    rw [List.filter_cons]
    split
    · next h =>
      rw [List.map_cons, List.nodup_cons]
      refine ⟨fun hm => ?_, ih hn.2⟩
      obtain ⟨q, hq, he⟩ := List.mem_map.1 hm
      obtain ⟨hq1, hq2⟩ := List.mem_filter.1 hq
      apply hn.1
      have e1 : p.1.1 = about := by unfold tellsB at h; simp at h; exact h.1
      have e2 : q.1.1 = about := by unfold tellsB at hq2; simp at hq2; exact hq2.1
      exact List.mem_map.2 ⟨q, hq1, Prod.ext (e2.trans e1.symm) he⟩
    · exact ih hn.2
/-- One more of those by whom reports count, put in its place. -/
theorem by_ins {L : List (Pr × Int)} (hn : keysNodup L) {k : Nat} (hk : k < L.length) {a b t win about now : Int} (hT : L.getD k d0Rp = ((a, b), t)) (ht : tellsB win about now ((a, b), t) = true) {xs : List Int} (hx : xs = sortI (byL win (L.take k) about now)) {j : Nat}
    (h1 : ∀ i, i < j → xs.getD i 0 < b) (h2 : j < xs.length → ¬ xs.getD j 0 < b) : xs.take j ++ [b] ++ xs.drop j = sortI (byL win (L.take (k + 1)) about now) := by
  have hn1 : keysNodup (L.take (k + 1)) := by
    unfold keysNodup at hn ⊢
    rw [List.map_take]
    exact hn.sublist (List.take_sublist _ _)
  have hd := byL_nodup hn1 win about now
  rw [take_succ_getD' L d0Rp k hk, hT, byL_snoc, ht, if_pos rfl] at hd ⊢
  obtain ⟨hd1, -, hd2⟩ := List.nodup_append.1 hd
  have hb : b ∉ xs := by
    rw [hx, mem_sortI]
    exact fun h => hd2 b h b (by simp) rfl
  have hr : xs.Pairwise (fun a b => a < b) := by rw [hx]; exact sortI_lt hd1
  refine rise_ext (ins_rise hr hb h1 h2) (sortI_lt hd) (fun y => ?_)
  rw [mem_sortI]
  have hxs : ∀ y, y ∈ xs ↔ y ∈ byL win (L.take k) about now := fun y => by rw [hx, mem_sortI]
  simp only [List.mem_append, List.mem_singleton, ← hxs]
  have : y ∈ xs ↔ y ∈ xs.take j ∨ y ∈ xs.drop j := by rw [← List.mem_append, List.take_append_drop]
  rw [this]
  constructor
  · rintro ((h | h) | h)
    · exact .inl (.inl h)
    · exact .inr h
    · exact .inl (.inr h)
  · rintro ((h | h) | h)
    · exact .inl (.inl h)
    · exact .inr h
    · exact .inl (.inr h)
theorem by_skip {L : List (Pr × Int)} {k : Nat} (hk : k < L.length) {p : Pr × Int} {win about now : Int} (hT : L.getD k d0Rp = p) (ht : tellsB win about now p = false) : byL win (L.take (k + 1)) about now = byL win (L.take k) about now := by
  rw [take_succ_getD' L d0Rp k hk, hT, byL_snoc, ht]
  simp
theorem byL_len_le (win : Int) (L : List (Pr × Int)) (about now : Int) : (byL win L about now).length ≤ L.length := by
  unfold byL
  rw [List.length_map]
  exact List.length_filter_le _ _

/-- A book's list within the document's bounds. -/
def okL (L : List (Pr × Int)) : Prop := ∀ p ∈ L, (1 ≤ p.1.1 ∧ p.1.1 ≤ 4294967296) ∧ (1 ≤ p.1.2 ∧ p.1.2 ≤ 4294967296) ∧ 0 ≤ p.2 ∧ p.2 ≤ 1099511627776
def By08 (w : World) (xs : List Int) (e : Ending) (w' : World) : Prop := ∃ A n c, e = .returned (.slice A n c) ∧ Ints w' A n xs ∧ Chg (fun _ => False) w w'
section
variable {w w' : World} {A : Option Addr} {n c : Nat} {L : List (Pr × Int)} {about now win : Int}
theorem by08_end {v : Value} {xs : List Int} (hL : okL L) (hx : xs = sortI (byL win L about now)) (ho : OwnI w' w.heap.size 3 v xs) (hc : Chg (fun _ => False) w w') : By08 w (sortI (byL win L about now)) (.returned v) w' := by
  subst hx
  have hok : ∀ x ∈ sortI (byL win L about now), okI x := by
    intro x hx
    rw [mem_sortI] at hx
    obtain ⟨p, hp, rfl⟩ := List.mem_map.1 hx
    have := (hL p (List.mem_filter.1 hp).1).2.1
    exact okI_iff.2 (by omega)
  obtain ⟨A, c, rfl, h1, h2, _⟩ := ho.slice
  exact ⟨A, _, c, rfl, ho.ints hok rfl, hc⟩
set_option maxRecDepth 100000 in
set_option maxHeartbeats 16000000 in
theorem by08_calls (hl : RecsP w A n L) (hn : n ≤ 1000) (hnd : keysNodup L) (hL : okL L) (hnow : -1125899906842624 ≤ now ∧ now ≤ 1125899906842624) (hwin : 1 ≤ win ∧ win ≤ 1073741824) :
    Calls Try.prog 61 #[.slice A n c, .int .i64 about, .int .i64 now, .int .i64 win] w (By08 w (sortI (byL win L about now))) := by
  obtain ⟨i0, hi, hz0, hz1, hz2⟩ : ∃ i, Try.prog.info? 3 = some i ∧ i.zero = some (.int .i64 0) ∧ i.size = 1 ∧ i.bytes = 8 := by
    have h := infoIntW
    cases he : Try.prog.info? 3 with
    | none => rw [he] at h; cases h
    | some i => rw [he] at h; simp at h; exact ⟨i, rfl, h.1, h.2.1, h.2.2⟩
  have HI := hideIt hi
  have HRC := hideIt hl
  have HLN := hideIt hl.len
  have HND := hideIt hnd
  have HOK := hideIt hL
  obtain ⟨now1, now2⟩ := hnow
  obtain ⟨win1, win2⟩ := hwin
  clear hi hl hnd hL
  go_enter Try.func61, Try.ntmps61
  go_wp2
  go_loopw [9, 15] (fun v i wr => ∃ (k : Nat) (xs : List Int), k ≤ n ∧ i = .int .i64 k ∧ OwnI wr w.heap.size 3 v xs ∧ Hid (xs = sortI (byL win (L.take k) about now)) ∧ Chg (fun _ => False) w wr) (fun _ i _ => n - (intOf i).toNat)
  case atStart => exact ⟨0, [], by omega, rfl, OwnI.nil _ _ _, hideIt (sortI_to rfl List.Pairwise.nil).symm, Chg.refl _ _⟩
  case round =>
    obtain ⟨k, xs, hk, rfl, ho, hxs, hch⟩ := hrel
    by_cases hlt : k < n
    · obtain ⟨p, off, rfl, hbl, _⟩ := HRC.out.at_ (by omega)
      have hload := (HRC.out.new hch).load (P := Try.prog) hlt 143 infoRp aggRp encRp_len
      have hokp := HOK.out _ (getD_mem' (d := d0Rp) (by rw [HLN.out]; exact hlt))
      obtain ⟨⟨⟨a, b⟩, t⟩, hT⟩ : ∃ t, L.getD k d0Rp = t := ⟨_, rfl⟩
      rw [hT] at hload hokp
      obtain ⟨-, ⟨hb1, hb2⟩, ht1, ht2⟩ := hokp
      simp only at hb1 hb2 ht1 ht2
      have hl2 : (encRp ((a, b), t)).toArray = #[.int .i64 a, .int .i64 b, .int .i64 t] := rfl
      rw [hl2] at hload
      obtain ⟨w4, s2, t2, k2, z2⟩ := keep_rec (P := Try.prog) wr infoRp (cs := #[.int .i64 0, .int .i64 0, .int .i64 0]) (cs' := #[.int .i64 a, .int .i64 b, .int .i64 t]) rfl rfl (by intro v hv; simp at hv; rcases hv with rfl | rfl | rfl <;> rfl)
      have f0 : w4.cell? ⟨wr.heap.size, 0, none⟩ = some (.int .i64 a) := t2.cell 0
      have f1 : w4.cell? ⟨wr.heap.size, 1, none⟩ = some (.int .i64 b) := t2.cell 1
      have f2 : w4.cell? ⟨wr.heap.size, 2, none⟩ = some (.int .i64 t) := t2.cell 2
      obtain ⟨A', c', hv0, hk0, hm0, -⟩ := ho.slice
      obtain ⟨N, hN⟩ : ∃ N, xs.length = N := ⟨_, rfl⟩
      rw [hN] at hv0 hk0
      subst hv0
      have HN := hideIt hN
      have hNb : N ≤ 1000 := by
        have h1 := byL_len_le win (L.take k) about now
        rw [List.length_take] at h1
        rw [← hN, hxs.out, sortI_len]
        omega
      have O4 := hideIt (ho.new k2)
      have C4 := hideIt (hch.trans k2)
      have T4 := hideIt t2
      have HT := hideIt hT
      have SZ := hideIt (show wr.heap.size < w4.heap.size by omega)
      clear hl2 hT ho hch t2 k2 z2 hN
      by_cases ha : a = about
      · have da : (a != about) = false := by simpa using ha
        by_cases htn : now ≤ t
        · have HTL := hideIt (show tellsB win about now ((a, b), t) = true by unfold tellsB countsB; simp [ha, htn])
          have d1 : decide (t < now) = false := by simpa using htn
          clear ha
          have OI : Hid (Ints w4 A' N xs) := hideIt (by
            refine O4.out.ints ?_ rfl
            intro y hy
            rw [hxs.out, mem_sortI] at hy
            obtain ⟨q, hq, rfl⟩ := List.mem_map.1 hy
            have := (HOK.out q (List.mem_of_mem_take (List.mem_filter.1 hq).1)).2.1
            exact okI_iff.2 (by omega))
          go_wp2_with (first
            | (refine wpList_loadv _ rfl 143 _ rfl rfl hload ?_)
            | (refine wpList_allocv _ rfl 143 rfl (zeroRp _) ?_)
            | (refine wpList_storev _ rfl 143 _ _ rfl rfl rfl s2 ?_))
          generalize wr.heap.size = gx at *
          go_loopw [12] (fun iv wq => ∃ j : Nat, j ≤ N ∧ iv = .int .i64 j ∧ Chg (fun _ => False) w4 wq ∧ Hid (∀ i, i < j → xs.getD i 0 < b)) (fun iv _ => N - (intOf iv).toNat)
          case atStart => exact ⟨0, by omega, rfl, Chg.refl _ _, hideIt (by omega)⟩
          case round =>
            obtain ⟨j, hjN, rfl, hc2, HALL⟩ := hrel
            have TQ := T4.out.chg hc2 (fun h => h)
            have g1 := TQ.cell 1
            clear TQ f0 f1 f2
            by_cases hj : j < N
            · obtain ⟨pb, po, hA', _, hcell⟩ := (OI.out.new hc2).at_ (by omega)
              have hcj := hcell j hj
              subst hA'
              obtain ⟨xj, hxj⟩ : ∃ x, xs.getD j 0 = x := ⟨_, rfl⟩
              rw [hxj] at hcj
              have HXJ := hideIt hxj
              clear hxj hcell
              have hd : decide ((j : Int) < (N : Int)) = true := by simp; omega
              by_cases hx : xj < b
              · have hd2 : decide (xj < b) = true := by simpa using hx
                have HA2 : Hid (∀ i, i < j + 1 → xs.getD i 0 < b) := hideIt (fun i hi => by
                  rcases Nat.lt_or_ge i j with h1 | h1
                  · exact HALL.out i h1
                  · obtain rfl : i = j := by omega
                    rw [HXJ.out]; exact hx)
                clear hx
                go_wp2
                go_quiet (fail)
                go_wp2
                go_roundw
                case rel => exact ⟨j + 1, by omega, by go_num, hc2.drewN _, HA2⟩
                case measure => simp [intOf]; omega
              · have hd2 : decide (xj < b) = false := by simpa using hx
                have HSTOP : Hid (j < xs.length → b ≤ xs.getD j 0) := hideIt (fun _ => by rw [HXJ.out]; omega)
                clear hx
                go_wp2
                go_quiet (fail)
                go_wp2
                have HW : Hid (Chg (fun _ => False) w4 (wr.drewN nq)) := hideIt (hc2.drewN _)
                generalize wr.drewN nq = W at *
                have TW := hideIt (T4.out.chg HW.out (fun h => h))
                have xb : W.cell? ⟨gx, 1, none⟩ = some (.int .i64 b) := TW.out.cell 1
                have IX := hideIt (OI.out.new HW.out)
                have okb : okI b := okI_iff.2 (by omega)
                obtain ⟨M, hM⟩ : ∃ M, N - j = M := ⟨_, rfl⟩
                have hcf : ∀ W' : World, (Instr.slice 25 (.slice (some ⟨pb, po, none⟩) N c') (some (.int .i64 (j : Int))) none none).run Try.prog W' = .ok (.slice (cutA (some ⟨pb, po, none⟩) c' j) M (c' - j)) W' := fun W' => by rw [← hM]; exact run_cut_from Try.underlying25 sizeInt W' (some ⟨pb, po, none⟩) N c' j hjN
                have IXD : Hid (∀ W' : World, Chg (fun _ => False) W W' → Ints W' (cutA (some ⟨pb, po, none⟩) c' j) M (xs.drop j)) := hideIt (fun W' hW' => by rw [← hM]; exact (IX.out.new hW').drop hjN hk0)
                have N3 : ([] ++ xs.take j ++ [b]).length + M ≤ 17592186043904 := by simp; omega
                clear hM
                have hct := fun W' => run_cut_to Try.underlying25 sizeInt W' (some ⟨pb, po, none⟩) N c' j (by omega)
                have N1 : ([] : List Int).length + j ≤ 17592186043904 := by simp; omega
                have N2 : ([] ++ xs.take j).length + 1 ≤ 17592186043904 := by simp; omega
                have tok1 : True := trivial
                have tok2 : True := trivial
                have o1a : OwnI ((W.drew).alloc (.cells #[] 3)) W.heap.size 3 (.slice (some ⟨W.heap.size, 0, none⟩) 0 0) [] := OwnI.empty W.drew _ _ (Nat.le_refl _)
                have i1a : Ints ((W.drew).alloc (.cells #[] 3)) (some ⟨pb, po, none⟩) j (xs.take j) := ((IX.out.take hjN).drew).alloc _
                have C1a := hideIt (((Chg.refl (fun _ => False) W).drew).alloc (.cells #[] 3))
                have B1a : W.heap.size ≤ ((W.drew).alloc (.cells #[] 3)).heap.size := by simp
                have o1b : OwnI (((W.drew).alloc (.cells #[] 3)).alloc (.cells #[.int .i64 b] 3)) W.heap.size 3 (.slice (some ⟨W.heap.size, 0, none⟩) 0 0) [] := o1a.alloc _
                have i1b : Ints (((W.drew).alloc (.cells #[] 3)).alloc (.cells #[.int .i64 b] 3)) (some ⟨pb, po, none⟩) j (xs.take j) := i1a.alloc _
                have C1b := hideIt (C1a.out.alloc (.cells #[.int .i64 b] 3))
                have B1b : W.heap.size ≤ (((W.drew).alloc (.cells #[] 3)).alloc (.cells #[.int .i64 b] 3)).heap.size := by simp; omega
                have IBb : Hid (Ints (((W.drew).alloc (.cells #[] 3)).alloc (.cells #[.int .i64 b] 3)) (some ⟨W.heap.size + 1, 0, none⟩) 1 [b]) := hideIt (by have := Ints.one ((W.drew).alloc (.cells #[] 3)) 3 b okb; simpa using this)
                have o1c : OwnI (((W.drew).alloc (.cells #[.int .i64 b] 3)).alloc (.cells #[] 3)) W.heap.size 3 (.slice (some ⟨W.heap.size + 1, 0, none⟩) 0 0) [] := by have := OwnI.empty ((W.drew).alloc (.cells #[.int .i64 b] 3)) W.heap.size 3 (by simp); simpa using this
                have i1c : Ints (((W.drew).alloc (.cells #[.int .i64 b] 3)).alloc (.cells #[] 3)) (some ⟨pb, po, none⟩) j (xs.take j) := (((IX.out.take hjN).drew).alloc _).alloc _
                have C1c := hideIt ((((Chg.refl (fun _ => False) W).drew).alloc (.cells #[.int .i64 b] 3)).alloc (.cells #[] 3))
                have B1c : W.heap.size ≤ (((W.drew).alloc (.cells #[.int .i64 b] 3)).alloc (.cells #[] 3)).heap.size := by simp; omega
                have IBc : Hid (Ints (((W.drew).alloc (.cells #[.int .i64 b] 3)).alloc (.cells #[] 3)) (some ⟨W.heap.size, 0, none⟩) 1 [b]) := hideIt ((Ints.one W.drew 3 b okb).alloc _)
                have hsx : ¬ gx = W.heap.size := by have := SZ.out; have := HW.out.size; omega
                have hsx1 : ¬ gx = W.heap.size + 1 := by have := SZ.out; have := HW.out.size; omega
                go_region_held3 (fun w' => w'.cell? ⟨gx, 1, none⟩ = some (.int .i64 b))
                  (first
                    | exact u1
                    | exact y1
                    | exact x1
                    | exact xb
                    | go_keep)
                  (first
                    | (have _t := tok1; refine step_append_ints rfl _ _ 25 rfl i0 _ Try.underlying25 HI.out hz0 hz1 hz2 rfl rfl o1a rfl i1a N1 B1a ?_; intro v2 w2 o2 g2 q2; clear tok1 _t; have C2 : Hid (Chg (fun _ => False) W w2) := hideIt (C1a.out.grown g2 (fun i e => .inr (by cases e; exact Nat.le_refl _))); have T2 := TW.out.chg C2.out (fun h => h); have x1 := T2.cell 1; clear T2)
                    | (have _t := tok1; refine step_append_ints rfl _ _ 25 rfl i0 _ Try.underlying25 HI.out hz0 hz1 hz2 rfl rfl o1b rfl i1b N1 B1b ?_; intro v2 w2 o2 g2 q2; clear tok1 _t; have C2 : Hid (Chg (fun _ => False) W w2) := hideIt (C1b.out.grown g2 (fun i e => .inr (by cases e; exact Nat.le_refl _))); have T2 := TW.out.chg C2.out (fun h => h); have x1 := T2.cell 1; have ib := hideIt (IBb.out.chg (Chg.of_grown g2) (fun b' off' e' _ e => by cases e'; have e2 : some W.heap.size = some (W.heap.size + 1) := e; injection e2 with e3; omega)); clear T2)
                    | (have _t := tok1; refine step_append_ints rfl _ _ 25 rfl i0 _ Try.underlying25 HI.out hz0 hz1 hz2 rfl rfl o1c rfl i1c N1 B1c ?_; intro v2 w2 o2 g2 q2; clear tok1 _t; have C2 : Hid (Chg (fun _ => False) W w2) := hideIt (C1c.out.grown g2 (fun i e => .inr (by cases e; simp))); have T2 := TW.out.chg C2.out (fun h => h); have x1 := T2.cell 1; have ib := hideIt (IBc.out.chg (Chg.of_grown g2) (fun b' off' e' _ e => by cases e'; have e2 : some (W.heap.size + 1) = some W.heap.size := e; injection e2 with e3; omega)); clear T2)
                    | (have _t := tok2; refine step_append_ints rfl _ _ 25 rfl i0 _ Try.underlying25 HI.out hz0 hz1 hz2 rfl rfl (o2.alloc _) rfl (Ints.one w2 3 b okb) N2 (by have := C2.out.size; simp; omega) ?_; intro v3 w3 o3 g3 q3; clear tok2 _t; have C3 : Hid (Chg (fun _ => False) W w3) := hideIt ((C2.out.alloc _).grown g3 (fun i e => .inr (o2.base_le e))); have T3 := TW.out.chg C3.out (fun h => h); have y1 := T3.cell 1; clear T3)
                    | (have _t := tok2; refine step_append_ints rfl _ _ 25 rfl i0 _ Try.underlying25 HI.out hz0 hz1 hz2 rfl rfl o2 rfl ib.out N2 C2.out.size ?_; intro v3 w3 o3 g3 q3; clear tok2 _t; have C3 : Hid (Chg (fun _ => False) W w3) := hideIt (C2.out.grown g3 (fun i e => .inr (o2.base_le e))); have T3 := TW.out.chg C3.out (fun h => h); have y1 := T3.cell 1; clear T3)
                    | (refine step_append_ints rfl _ _ 25 rfl i0 _ Try.underlying25 HI.out hz0 hz1 hz2 rfl rfl o3 rfl (IXD.out _ C3.out) N3 C3.out.size ?_; intro v4 w4' o4 g4 q4; have C5 : Hid (Chg (fun _ => False) W w4') := hideIt (C3.out.grown g4 (fun i e => .inr (o3.base_le e))); have T5 := TW.out.chg C5.out (fun h => h); have u1 := T5.cell 1; clear T5))
                all_goals
                  go_wp2
                  go_roundw
                  case rel => exact ⟨k + 1, _, by omega, by go_num, OwnI.low (o4) (Nat.le_trans C4.out.size HW.out.size), hideIt (by rw [List.nil_append]; exact by_ins HND.out (by rw [HLN.out]; exact hlt) HT.out HTL.out hxs.out HALL.out (fun h => by have := HSTOP.out h; omega)), C4.out.trans (HW.out.trans C5.out)⟩
                  case measure => simp [intOf]; omega
            · obtain rfl : j = N := by omega
              have HSTOP : Hid (j < xs.length → b ≤ xs.getD j 0) := hideIt (fun h => absurd h (by rw [HN.out]; omega))
              have hd : decide ((j : Int) < (j : Int)) = false := by simp
              go_wp2
              go_quiet (fail)
              go_wp2
              have HW : Hid (Chg (fun _ => False) w4 (wr.drewN nq)) := hideIt (hc2.drewN _)
              generalize wr.drewN nq = W at *
              have TW := hideIt (T4.out.chg HW.out (fun h => h))
              have xb : W.cell? ⟨gx, 1, none⟩ = some (.int .i64 b) := TW.out.cell 1
              have IX := hideIt (OI.out.new HW.out)
              have okb : okI b := okI_iff.2 (by omega)
              obtain ⟨M, hM⟩ : ∃ M, j - j = M := ⟨_, rfl⟩
              have hcf : ∀ W' : World, (Instr.slice 25 (.slice A' j c') (some (.int .i64 (j : Int))) none none).run Try.prog W' = .ok (.slice (cutA A' c' j) M (c' - j)) W' := fun W' => by rw [← hM]; exact run_cut_from Try.underlying25 sizeInt W' A' j c' j hjN
              have IXD : Hid (∀ W' : World, Chg (fun _ => False) W W' → Ints W' (cutA A' c' j) M (xs.drop j)) := hideIt (fun W' hW' => by rw [← hM]; exact (IX.out.new hW').drop hjN hk0)
              have N3 : ([] ++ xs.take j ++ [b]).length + M ≤ 17592186043904 := by simp; omega
              clear hM
              have hct := fun W' => run_cut_to Try.underlying25 sizeInt W' A' j c' j (by omega)
              have N1 : ([] : List Int).length + j ≤ 17592186043904 := by simp; omega
              have N2 : ([] ++ xs.take j).length + 1 ≤ 17592186043904 := by simp; omega
              have tok1 : True := trivial
              have tok2 : True := trivial
              have o1a : OwnI ((W.drew).alloc (.cells #[] 3)) W.heap.size 3 (.slice (some ⟨W.heap.size, 0, none⟩) 0 0) [] := OwnI.empty W.drew _ _ (Nat.le_refl _)
              have i1a : Ints ((W.drew).alloc (.cells #[] 3)) A' j (xs.take j) := ((IX.out.take hjN).drew).alloc _
              have C1a := hideIt (((Chg.refl (fun _ => False) W).drew).alloc (.cells #[] 3))
              have B1a : W.heap.size ≤ ((W.drew).alloc (.cells #[] 3)).heap.size := by simp
              have o1b : OwnI (((W.drew).alloc (.cells #[] 3)).alloc (.cells #[.int .i64 b] 3)) W.heap.size 3 (.slice (some ⟨W.heap.size, 0, none⟩) 0 0) [] := o1a.alloc _
              have i1b : Ints (((W.drew).alloc (.cells #[] 3)).alloc (.cells #[.int .i64 b] 3)) A' j (xs.take j) := i1a.alloc _
              have C1b := hideIt (C1a.out.alloc (.cells #[.int .i64 b] 3))
              have B1b : W.heap.size ≤ (((W.drew).alloc (.cells #[] 3)).alloc (.cells #[.int .i64 b] 3)).heap.size := by simp; omega
              have IBb : Hid (Ints (((W.drew).alloc (.cells #[] 3)).alloc (.cells #[.int .i64 b] 3)) (some ⟨W.heap.size + 1, 0, none⟩) 1 [b]) := hideIt (by have := Ints.one ((W.drew).alloc (.cells #[] 3)) 3 b okb; simpa using this)
              have o1c : OwnI (((W.drew).alloc (.cells #[.int .i64 b] 3)).alloc (.cells #[] 3)) W.heap.size 3 (.slice (some ⟨W.heap.size + 1, 0, none⟩) 0 0) [] := by have := OwnI.empty ((W.drew).alloc (.cells #[.int .i64 b] 3)) W.heap.size 3 (by simp); simpa using this
              have i1c : Ints (((W.drew).alloc (.cells #[.int .i64 b] 3)).alloc (.cells #[] 3)) A' j (xs.take j) := (((IX.out.take hjN).drew).alloc _).alloc _
              have C1c := hideIt ((((Chg.refl (fun _ => False) W).drew).alloc (.cells #[.int .i64 b] 3)).alloc (.cells #[] 3))
              have B1c : W.heap.size ≤ (((W.drew).alloc (.cells #[.int .i64 b] 3)).alloc (.cells #[] 3)).heap.size := by simp; omega
              have IBc : Hid (Ints (((W.drew).alloc (.cells #[.int .i64 b] 3)).alloc (.cells #[] 3)) (some ⟨W.heap.size, 0, none⟩) 1 [b]) := hideIt ((Ints.one W.drew 3 b okb).alloc _)
              have hsx : ¬ gx = W.heap.size := by have := SZ.out; have := HW.out.size; omega
              have hsx1 : ¬ gx = W.heap.size + 1 := by have := SZ.out; have := HW.out.size; omega
              go_region_held3 (fun w' => w'.cell? ⟨gx, 1, none⟩ = some (.int .i64 b))
                (first
                  | exact u1
                  | exact y1
                  | exact x1
                  | exact xb
                  | go_keep)
                (first
                  | (have _t := tok1; refine step_append_ints rfl _ _ 25 rfl i0 _ Try.underlying25 HI.out hz0 hz1 hz2 rfl rfl o1a rfl i1a N1 B1a ?_; intro v2 w2 o2 g2 q2; clear tok1 _t; have C2 : Hid (Chg (fun _ => False) W w2) := hideIt (C1a.out.grown g2 (fun i e => .inr (by cases e; exact Nat.le_refl _))); have T2 := TW.out.chg C2.out (fun h => h); have x1 := T2.cell 1; clear T2)
                  | (have _t := tok1; refine step_append_ints rfl _ _ 25 rfl i0 _ Try.underlying25 HI.out hz0 hz1 hz2 rfl rfl o1b rfl i1b N1 B1b ?_; intro v2 w2 o2 g2 q2; clear tok1 _t; have C2 : Hid (Chg (fun _ => False) W w2) := hideIt (C1b.out.grown g2 (fun i e => .inr (by cases e; exact Nat.le_refl _))); have T2 := TW.out.chg C2.out (fun h => h); have x1 := T2.cell 1; have ib := hideIt (IBb.out.chg (Chg.of_grown g2) (fun b' off' e' _ e => by cases e'; have e2 : some W.heap.size = some (W.heap.size + 1) := e; injection e2 with e3; omega)); clear T2)
                  | (have _t := tok1; refine step_append_ints rfl _ _ 25 rfl i0 _ Try.underlying25 HI.out hz0 hz1 hz2 rfl rfl o1c rfl i1c N1 B1c ?_; intro v2 w2 o2 g2 q2; clear tok1 _t; have C2 : Hid (Chg (fun _ => False) W w2) := hideIt (C1c.out.grown g2 (fun i e => .inr (by cases e; simp))); have T2 := TW.out.chg C2.out (fun h => h); have x1 := T2.cell 1; have ib := hideIt (IBc.out.chg (Chg.of_grown g2) (fun b' off' e' _ e => by cases e'; have e2 : some (W.heap.size + 1) = some W.heap.size := e; injection e2 with e3; omega)); clear T2)
                  | (have _t := tok2; refine step_append_ints rfl _ _ 25 rfl i0 _ Try.underlying25 HI.out hz0 hz1 hz2 rfl rfl (o2.alloc _) rfl (Ints.one w2 3 b okb) N2 (by have := C2.out.size; simp; omega) ?_; intro v3 w3 o3 g3 q3; clear tok2 _t; have C3 : Hid (Chg (fun _ => False) W w3) := hideIt ((C2.out.alloc _).grown g3 (fun i e => .inr (o2.base_le e))); have T3 := TW.out.chg C3.out (fun h => h); have y1 := T3.cell 1; clear T3)
                  | (have _t := tok2; refine step_append_ints rfl _ _ 25 rfl i0 _ Try.underlying25 HI.out hz0 hz1 hz2 rfl rfl o2 rfl ib.out N2 C2.out.size ?_; intro v3 w3 o3 g3 q3; clear tok2 _t; have C3 : Hid (Chg (fun _ => False) W w3) := hideIt (C2.out.grown g3 (fun i e => .inr (o2.base_le e))); have T3 := TW.out.chg C3.out (fun h => h); have y1 := T3.cell 1; clear T3)
                  | (refine step_append_ints rfl _ _ 25 rfl i0 _ Try.underlying25 HI.out hz0 hz1 hz2 rfl rfl o3 rfl (IXD.out _ C3.out) N3 C3.out.size ?_; intro v4 w4' o4 g4 q4; have C5 : Hid (Chg (fun _ => False) W w4') := hideIt (C3.out.grown g4 (fun i e => .inr (o3.base_le e))); have T5 := TW.out.chg C5.out (fun h => h); have u1 := T5.cell 1; clear T5))
              all_goals
                go_wp2
                go_roundw
                case rel => exact ⟨k + 1, _, by omega, by go_num, OwnI.low (o4) (Nat.le_trans C4.out.size HW.out.size), hideIt (by rw [List.nil_append]; exact by_ins HND.out (by rw [HLN.out]; exact hlt) HT.out HTL.out hxs.out HALL.out (fun h => by have := HSTOP.out h; omega)), C4.out.trans (HW.out.trans C5.out)⟩
                case measure => simp [intOf]; omega
        · by_cases hw : now - t ≤ win
          · have HTL := hideIt (show tellsB win about now ((a, b), t) = true by unfold tellsB countsB; simp [ha, hw])
            have d1 : decide (t < now) = true := by simp; omega
            have d2 : decide (win < now - t) = false := by simp; omega
            clear ha
            have OI : Hid (Ints w4 A' N xs) := hideIt (by
              refine O4.out.ints ?_ rfl
              intro y hy
              rw [hxs.out, mem_sortI] at hy
              obtain ⟨q, hq, rfl⟩ := List.mem_map.1 hy
              have := (HOK.out q (List.mem_of_mem_take (List.mem_filter.1 hq).1)).2.1
              exact okI_iff.2 (by omega))
            go_wp2_with (first
              | (refine wpList_loadv _ rfl 143 _ rfl rfl hload ?_)
              | (refine wpList_allocv _ rfl 143 rfl (zeroRp _) ?_)
              | (refine wpList_storev _ rfl 143 _ _ rfl rfl rfl s2 ?_))
            generalize wr.heap.size = gx at *
            go_loopw [12] (fun iv wq => ∃ j : Nat, j ≤ N ∧ iv = .int .i64 j ∧ Chg (fun _ => False) w4 wq ∧ Hid (∀ i, i < j → xs.getD i 0 < b)) (fun iv _ => N - (intOf iv).toNat)
            case atStart => exact ⟨0, by omega, rfl, Chg.refl _ _, hideIt (by omega)⟩
            case round =>
              obtain ⟨j, hjN, rfl, hc2, HALL⟩ := hrel
              have TQ := T4.out.chg hc2 (fun h => h)
              have g1 := TQ.cell 1
              clear TQ f0 f1 f2
              by_cases hj : j < N
              · obtain ⟨pb, po, hA', _, hcell⟩ := (OI.out.new hc2).at_ (by omega)
                have hcj := hcell j hj
                subst hA'
                obtain ⟨xj, hxj⟩ : ∃ x, xs.getD j 0 = x := ⟨_, rfl⟩
                rw [hxj] at hcj
                have HXJ := hideIt hxj
                clear hxj hcell
                have hd : decide ((j : Int) < (N : Int)) = true := by simp; omega
                by_cases hx : xj < b
                · have hd2 : decide (xj < b) = true := by simpa using hx
                  have HA2 : Hid (∀ i, i < j + 1 → xs.getD i 0 < b) := hideIt (fun i hi => by
                    rcases Nat.lt_or_ge i j with h1 | h1
                    · exact HALL.out i h1
                    · obtain rfl : i = j := by omega
                      rw [HXJ.out]; exact hx)
                  clear hx
                  go_wp2
                  go_quiet (fail)
                  go_wp2
                  go_roundw
                  case rel => exact ⟨j + 1, by omega, by go_num, hc2.drewN _, HA2⟩
                  case measure => simp [intOf]; omega
                · have hd2 : decide (xj < b) = false := by simpa using hx
                  have HSTOP : Hid (j < xs.length → b ≤ xs.getD j 0) := hideIt (fun _ => by rw [HXJ.out]; omega)
                  clear hx
                  go_wp2
                  go_quiet (fail)
                  go_wp2
                  have HW : Hid (Chg (fun _ => False) w4 (wr.drewN nq)) := hideIt (hc2.drewN _)
                  generalize wr.drewN nq = W at *
                  have TW := hideIt (T4.out.chg HW.out (fun h => h))
                  have xb : W.cell? ⟨gx, 1, none⟩ = some (.int .i64 b) := TW.out.cell 1
                  have IX := hideIt (OI.out.new HW.out)
                  have okb : okI b := okI_iff.2 (by omega)
                  obtain ⟨M, hM⟩ : ∃ M, N - j = M := ⟨_, rfl⟩
                  have hcf : ∀ W' : World, (Instr.slice 25 (.slice (some ⟨pb, po, none⟩) N c') (some (.int .i64 (j : Int))) none none).run Try.prog W' = .ok (.slice (cutA (some ⟨pb, po, none⟩) c' j) M (c' - j)) W' := fun W' => by rw [← hM]; exact run_cut_from Try.underlying25 sizeInt W' (some ⟨pb, po, none⟩) N c' j hjN
                  have IXD : Hid (∀ W' : World, Chg (fun _ => False) W W' → Ints W' (cutA (some ⟨pb, po, none⟩) c' j) M (xs.drop j)) := hideIt (fun W' hW' => by rw [← hM]; exact (IX.out.new hW').drop hjN hk0)
                  have N3 : ([] ++ xs.take j ++ [b]).length + M ≤ 17592186043904 := by simp; omega
                  clear hM
                  have hct := fun W' => run_cut_to Try.underlying25 sizeInt W' (some ⟨pb, po, none⟩) N c' j (by omega)
                  have N1 : ([] : List Int).length + j ≤ 17592186043904 := by simp; omega
                  have N2 : ([] ++ xs.take j).length + 1 ≤ 17592186043904 := by simp; omega
                  have tok1 : True := trivial
                  have tok2 : True := trivial
                  have o1a : OwnI ((W.drew).alloc (.cells #[] 3)) W.heap.size 3 (.slice (some ⟨W.heap.size, 0, none⟩) 0 0) [] := OwnI.empty W.drew _ _ (Nat.le_refl _)
                  have i1a : Ints ((W.drew).alloc (.cells #[] 3)) (some ⟨pb, po, none⟩) j (xs.take j) := ((IX.out.take hjN).drew).alloc _
                  have C1a := hideIt (((Chg.refl (fun _ => False) W).drew).alloc (.cells #[] 3))
                  have B1a : W.heap.size ≤ ((W.drew).alloc (.cells #[] 3)).heap.size := by simp
                  have o1b : OwnI (((W.drew).alloc (.cells #[] 3)).alloc (.cells #[.int .i64 b] 3)) W.heap.size 3 (.slice (some ⟨W.heap.size, 0, none⟩) 0 0) [] := o1a.alloc _
                  have i1b : Ints (((W.drew).alloc (.cells #[] 3)).alloc (.cells #[.int .i64 b] 3)) (some ⟨pb, po, none⟩) j (xs.take j) := i1a.alloc _
                  have C1b := hideIt (C1a.out.alloc (.cells #[.int .i64 b] 3))
                  have B1b : W.heap.size ≤ (((W.drew).alloc (.cells #[] 3)).alloc (.cells #[.int .i64 b] 3)).heap.size := by simp; omega
                  have IBb : Hid (Ints (((W.drew).alloc (.cells #[] 3)).alloc (.cells #[.int .i64 b] 3)) (some ⟨W.heap.size + 1, 0, none⟩) 1 [b]) := hideIt (by have := Ints.one ((W.drew).alloc (.cells #[] 3)) 3 b okb; simpa using this)
                  have o1c : OwnI (((W.drew).alloc (.cells #[.int .i64 b] 3)).alloc (.cells #[] 3)) W.heap.size 3 (.slice (some ⟨W.heap.size + 1, 0, none⟩) 0 0) [] := by have := OwnI.empty ((W.drew).alloc (.cells #[.int .i64 b] 3)) W.heap.size 3 (by simp); simpa using this
                  have i1c : Ints (((W.drew).alloc (.cells #[.int .i64 b] 3)).alloc (.cells #[] 3)) (some ⟨pb, po, none⟩) j (xs.take j) := (((IX.out.take hjN).drew).alloc _).alloc _
                  have C1c := hideIt ((((Chg.refl (fun _ => False) W).drew).alloc (.cells #[.int .i64 b] 3)).alloc (.cells #[] 3))
                  have B1c : W.heap.size ≤ (((W.drew).alloc (.cells #[.int .i64 b] 3)).alloc (.cells #[] 3)).heap.size := by simp; omega
                  have IBc : Hid (Ints (((W.drew).alloc (.cells #[.int .i64 b] 3)).alloc (.cells #[] 3)) (some ⟨W.heap.size, 0, none⟩) 1 [b]) := hideIt ((Ints.one W.drew 3 b okb).alloc _)
                  have hsx : ¬ gx = W.heap.size := by have := SZ.out; have := HW.out.size; omega
                  have hsx1 : ¬ gx = W.heap.size + 1 := by have := SZ.out; have := HW.out.size; omega
                  go_region_held3 (fun w' => w'.cell? ⟨gx, 1, none⟩ = some (.int .i64 b))
                    (first
                      | exact u1
                      | exact y1
                      | exact x1
                      | exact xb
                      | go_keep)
                    (first
                      | (have _t := tok1; refine step_append_ints rfl _ _ 25 rfl i0 _ Try.underlying25 HI.out hz0 hz1 hz2 rfl rfl o1a rfl i1a N1 B1a ?_; intro v2 w2 o2 g2 q2; clear tok1 _t; have C2 : Hid (Chg (fun _ => False) W w2) := hideIt (C1a.out.grown g2 (fun i e => .inr (by cases e; exact Nat.le_refl _))); have T2 := TW.out.chg C2.out (fun h => h); have x1 := T2.cell 1; clear T2)
                      | (have _t := tok1; refine step_append_ints rfl _ _ 25 rfl i0 _ Try.underlying25 HI.out hz0 hz1 hz2 rfl rfl o1b rfl i1b N1 B1b ?_; intro v2 w2 o2 g2 q2; clear tok1 _t; have C2 : Hid (Chg (fun _ => False) W w2) := hideIt (C1b.out.grown g2 (fun i e => .inr (by cases e; exact Nat.le_refl _))); have T2 := TW.out.chg C2.out (fun h => h); have x1 := T2.cell 1; have ib := hideIt (IBb.out.chg (Chg.of_grown g2) (fun b' off' e' _ e => by cases e'; have e2 : some W.heap.size = some (W.heap.size + 1) := e; injection e2 with e3; omega)); clear T2)
                      | (have _t := tok1; refine step_append_ints rfl _ _ 25 rfl i0 _ Try.underlying25 HI.out hz0 hz1 hz2 rfl rfl o1c rfl i1c N1 B1c ?_; intro v2 w2 o2 g2 q2; clear tok1 _t; have C2 : Hid (Chg (fun _ => False) W w2) := hideIt (C1c.out.grown g2 (fun i e => .inr (by cases e; simp))); have T2 := TW.out.chg C2.out (fun h => h); have x1 := T2.cell 1; have ib := hideIt (IBc.out.chg (Chg.of_grown g2) (fun b' off' e' _ e => by cases e'; have e2 : some (W.heap.size + 1) = some W.heap.size := e; injection e2 with e3; omega)); clear T2)
                      | (have _t := tok2; refine step_append_ints rfl _ _ 25 rfl i0 _ Try.underlying25 HI.out hz0 hz1 hz2 rfl rfl (o2.alloc _) rfl (Ints.one w2 3 b okb) N2 (by have := C2.out.size; simp; omega) ?_; intro v3 w3 o3 g3 q3; clear tok2 _t; have C3 : Hid (Chg (fun _ => False) W w3) := hideIt ((C2.out.alloc _).grown g3 (fun i e => .inr (o2.base_le e))); have T3 := TW.out.chg C3.out (fun h => h); have y1 := T3.cell 1; clear T3)
                      | (have _t := tok2; refine step_append_ints rfl _ _ 25 rfl i0 _ Try.underlying25 HI.out hz0 hz1 hz2 rfl rfl o2 rfl ib.out N2 C2.out.size ?_; intro v3 w3 o3 g3 q3; clear tok2 _t; have C3 : Hid (Chg (fun _ => False) W w3) := hideIt (C2.out.grown g3 (fun i e => .inr (o2.base_le e))); have T3 := TW.out.chg C3.out (fun h => h); have y1 := T3.cell 1; clear T3)
                      | (refine step_append_ints rfl _ _ 25 rfl i0 _ Try.underlying25 HI.out hz0 hz1 hz2 rfl rfl o3 rfl (IXD.out _ C3.out) N3 C3.out.size ?_; intro v4 w4' o4 g4 q4; have C5 : Hid (Chg (fun _ => False) W w4') := hideIt (C3.out.grown g4 (fun i e => .inr (o3.base_le e))); have T5 := TW.out.chg C5.out (fun h => h); have u1 := T5.cell 1; clear T5))
                  all_goals
                    go_wp2
                    go_roundw
                    case rel => exact ⟨k + 1, _, by omega, by go_num, OwnI.low (o4) (Nat.le_trans C4.out.size HW.out.size), hideIt (by rw [List.nil_append]; exact by_ins HND.out (by rw [HLN.out]; exact hlt) HT.out HTL.out hxs.out HALL.out (fun h => by have := HSTOP.out h; omega)), C4.out.trans (HW.out.trans C5.out)⟩
                    case measure => simp [intOf]; omega
              · obtain rfl : j = N := by omega
                have HSTOP : Hid (j < xs.length → b ≤ xs.getD j 0) := hideIt (fun h => absurd h (by rw [HN.out]; omega))
                have hd : decide ((j : Int) < (j : Int)) = false := by simp
                go_wp2
                go_quiet (fail)
                go_wp2
                have HW : Hid (Chg (fun _ => False) w4 (wr.drewN nq)) := hideIt (hc2.drewN _)
                generalize wr.drewN nq = W at *
                have TW := hideIt (T4.out.chg HW.out (fun h => h))
                have xb : W.cell? ⟨gx, 1, none⟩ = some (.int .i64 b) := TW.out.cell 1
                have IX := hideIt (OI.out.new HW.out)
                have okb : okI b := okI_iff.2 (by omega)
                obtain ⟨M, hM⟩ : ∃ M, j - j = M := ⟨_, rfl⟩
                have hcf : ∀ W' : World, (Instr.slice 25 (.slice A' j c') (some (.int .i64 (j : Int))) none none).run Try.prog W' = .ok (.slice (cutA A' c' j) M (c' - j)) W' := fun W' => by rw [← hM]; exact run_cut_from Try.underlying25 sizeInt W' A' j c' j hjN
                have IXD : Hid (∀ W' : World, Chg (fun _ => False) W W' → Ints W' (cutA A' c' j) M (xs.drop j)) := hideIt (fun W' hW' => by rw [← hM]; exact (IX.out.new hW').drop hjN hk0)
                have N3 : ([] ++ xs.take j ++ [b]).length + M ≤ 17592186043904 := by simp; omega
                clear hM
                have hct := fun W' => run_cut_to Try.underlying25 sizeInt W' A' j c' j (by omega)
                have N1 : ([] : List Int).length + j ≤ 17592186043904 := by simp; omega
                have N2 : ([] ++ xs.take j).length + 1 ≤ 17592186043904 := by simp; omega
                have tok1 : True := trivial
                have tok2 : True := trivial
                have o1a : OwnI ((W.drew).alloc (.cells #[] 3)) W.heap.size 3 (.slice (some ⟨W.heap.size, 0, none⟩) 0 0) [] := OwnI.empty W.drew _ _ (Nat.le_refl _)
                have i1a : Ints ((W.drew).alloc (.cells #[] 3)) A' j (xs.take j) := ((IX.out.take hjN).drew).alloc _
                have C1a := hideIt (((Chg.refl (fun _ => False) W).drew).alloc (.cells #[] 3))
                have B1a : W.heap.size ≤ ((W.drew).alloc (.cells #[] 3)).heap.size := by simp
                have o1b : OwnI (((W.drew).alloc (.cells #[] 3)).alloc (.cells #[.int .i64 b] 3)) W.heap.size 3 (.slice (some ⟨W.heap.size, 0, none⟩) 0 0) [] := o1a.alloc _
                have i1b : Ints (((W.drew).alloc (.cells #[] 3)).alloc (.cells #[.int .i64 b] 3)) A' j (xs.take j) := i1a.alloc _
                have C1b := hideIt (C1a.out.alloc (.cells #[.int .i64 b] 3))
                have B1b : W.heap.size ≤ (((W.drew).alloc (.cells #[] 3)).alloc (.cells #[.int .i64 b] 3)).heap.size := by simp; omega
                have IBb : Hid (Ints (((W.drew).alloc (.cells #[] 3)).alloc (.cells #[.int .i64 b] 3)) (some ⟨W.heap.size + 1, 0, none⟩) 1 [b]) := hideIt (by have := Ints.one ((W.drew).alloc (.cells #[] 3)) 3 b okb; simpa using this)
                have o1c : OwnI (((W.drew).alloc (.cells #[.int .i64 b] 3)).alloc (.cells #[] 3)) W.heap.size 3 (.slice (some ⟨W.heap.size + 1, 0, none⟩) 0 0) [] := by have := OwnI.empty ((W.drew).alloc (.cells #[.int .i64 b] 3)) W.heap.size 3 (by simp); simpa using this
                have i1c : Ints (((W.drew).alloc (.cells #[.int .i64 b] 3)).alloc (.cells #[] 3)) A' j (xs.take j) := (((IX.out.take hjN).drew).alloc _).alloc _
                have C1c := hideIt ((((Chg.refl (fun _ => False) W).drew).alloc (.cells #[.int .i64 b] 3)).alloc (.cells #[] 3))
                have B1c : W.heap.size ≤ (((W.drew).alloc (.cells #[.int .i64 b] 3)).alloc (.cells #[] 3)).heap.size := by simp; omega
                have IBc : Hid (Ints (((W.drew).alloc (.cells #[.int .i64 b] 3)).alloc (.cells #[] 3)) (some ⟨W.heap.size, 0, none⟩) 1 [b]) := hideIt ((Ints.one W.drew 3 b okb).alloc _)
                have hsx : ¬ gx = W.heap.size := by have := SZ.out; have := HW.out.size; omega
                have hsx1 : ¬ gx = W.heap.size + 1 := by have := SZ.out; have := HW.out.size; omega
                go_region_held3 (fun w' => w'.cell? ⟨gx, 1, none⟩ = some (.int .i64 b))
                  (first
                    | exact u1
                    | exact y1
                    | exact x1
                    | exact xb
                    | go_keep)
                  (first
                    | (have _t := tok1; refine step_append_ints rfl _ _ 25 rfl i0 _ Try.underlying25 HI.out hz0 hz1 hz2 rfl rfl o1a rfl i1a N1 B1a ?_; intro v2 w2 o2 g2 q2; clear tok1 _t; have C2 : Hid (Chg (fun _ => False) W w2) := hideIt (C1a.out.grown g2 (fun i e => .inr (by cases e; exact Nat.le_refl _))); have T2 := TW.out.chg C2.out (fun h => h); have x1 := T2.cell 1; clear T2)
                    | (have _t := tok1; refine step_append_ints rfl _ _ 25 rfl i0 _ Try.underlying25 HI.out hz0 hz1 hz2 rfl rfl o1b rfl i1b N1 B1b ?_; intro v2 w2 o2 g2 q2; clear tok1 _t; have C2 : Hid (Chg (fun _ => False) W w2) := hideIt (C1b.out.grown g2 (fun i e => .inr (by cases e; exact Nat.le_refl _))); have T2 := TW.out.chg C2.out (fun h => h); have x1 := T2.cell 1; have ib := hideIt (IBb.out.chg (Chg.of_grown g2) (fun b' off' e' _ e => by cases e'; have e2 : some W.heap.size = some (W.heap.size + 1) := e; injection e2 with e3; omega)); clear T2)
                    | (have _t := tok1; refine step_append_ints rfl _ _ 25 rfl i0 _ Try.underlying25 HI.out hz0 hz1 hz2 rfl rfl o1c rfl i1c N1 B1c ?_; intro v2 w2 o2 g2 q2; clear tok1 _t; have C2 : Hid (Chg (fun _ => False) W w2) := hideIt (C1c.out.grown g2 (fun i e => .inr (by cases e; simp))); have T2 := TW.out.chg C2.out (fun h => h); have x1 := T2.cell 1; have ib := hideIt (IBc.out.chg (Chg.of_grown g2) (fun b' off' e' _ e => by cases e'; have e2 : some (W.heap.size + 1) = some W.heap.size := e; injection e2 with e3; omega)); clear T2)
                    | (have _t := tok2; refine step_append_ints rfl _ _ 25 rfl i0 _ Try.underlying25 HI.out hz0 hz1 hz2 rfl rfl (o2.alloc _) rfl (Ints.one w2 3 b okb) N2 (by have := C2.out.size; simp; omega) ?_; intro v3 w3 o3 g3 q3; clear tok2 _t; have C3 : Hid (Chg (fun _ => False) W w3) := hideIt ((C2.out.alloc _).grown g3 (fun i e => .inr (o2.base_le e))); have T3 := TW.out.chg C3.out (fun h => h); have y1 := T3.cell 1; clear T3)
                    | (have _t := tok2; refine step_append_ints rfl _ _ 25 rfl i0 _ Try.underlying25 HI.out hz0 hz1 hz2 rfl rfl o2 rfl ib.out N2 C2.out.size ?_; intro v3 w3 o3 g3 q3; clear tok2 _t; have C3 : Hid (Chg (fun _ => False) W w3) := hideIt (C2.out.grown g3 (fun i e => .inr (o2.base_le e))); have T3 := TW.out.chg C3.out (fun h => h); have y1 := T3.cell 1; clear T3)
                    | (refine step_append_ints rfl _ _ 25 rfl i0 _ Try.underlying25 HI.out hz0 hz1 hz2 rfl rfl o3 rfl (IXD.out _ C3.out) N3 C3.out.size ?_; intro v4 w4' o4 g4 q4; have C5 : Hid (Chg (fun _ => False) W w4') := hideIt (C3.out.grown g4 (fun i e => .inr (o3.base_le e))); have T5 := TW.out.chg C5.out (fun h => h); have u1 := T5.cell 1; clear T5))
                all_goals
                  go_wp2
                  go_roundw
                  case rel => exact ⟨k + 1, _, by omega, by go_num, OwnI.low (o4) (Nat.le_trans C4.out.size HW.out.size), hideIt (by rw [List.nil_append]; exact by_ins HND.out (by rw [HLN.out]; exact hlt) HT.out HTL.out hxs.out HALL.out (fun h => by have := HSTOP.out h; omega)), C4.out.trans (HW.out.trans C5.out)⟩
                  case measure => simp [intOf]; omega
          · have HTL := hideIt (show tellsB win about now ((a, b), t) = false by unfold tellsB countsB; simp [htn, hw])
            have d1 : decide (t < now) = true := by simp; omega
            have d2 : decide (win < now - t) = true := by simp; omega
            clear ha
            go_wp2_with (first
              | (refine wpList_loadv _ rfl 143 _ rfl rfl hload ?_)
              | (refine wpList_allocv _ rfl 143 rfl (zeroRp _) ?_)
              | (refine wpList_storev _ rfl 143 _ _ rfl rfl rfl s2 ?_))
            go_roundw
            case rel => exact ⟨k + 1, xs, by omega, by go_num, O4.out, hideIt (hxs.out.trans (by rw [by_skip (by rw [HLN.out]; exact hlt) HT.out HTL.out])), C4.out⟩
            case measure => simp [intOf]; omega
      · have HTL := hideIt (show tellsB win about now ((a, b), t) = false by unfold tellsB; simp [ha])
        have da : (a != about) = true := by simpa using ha
        clear ha
        go_wp2_with (first
          | (refine wpList_loadv _ rfl 143 _ rfl rfl hload ?_)
          | (refine wpList_allocv _ rfl 143 rfl (zeroRp _) ?_)
          | (refine wpList_storev _ rfl 143 _ _ rfl rfl rfl s2 ?_))
        go_roundw
        case rel => exact ⟨k + 1, xs, by omega, by go_num, O4.out, hideIt (hxs.out.trans (by rw [by_skip (by rw [HLN.out]; exact hlt) HT.out HTL.out])), C4.out⟩
        case measure => simp [intOf]; omega
    · obtain rfl : k = n := by omega
      have HX : Hid (xs = sortI (byL win L about now)) := hideIt (by
        have h1 : L.take k = L := by rw [← HLN.out, List.take_length]
        have h2 := hxs.out
        rw [h1] at h2
        exact h2)
      have HO := hideIt ho
      have HC := hideIt hch
      clear hxs ho hch
      go_wp2
      go_ret
      exact by08_end HOK.out HX.out HO.out HC.out
end
end Go.Proofs.Ytgmekeeemimnpaa
