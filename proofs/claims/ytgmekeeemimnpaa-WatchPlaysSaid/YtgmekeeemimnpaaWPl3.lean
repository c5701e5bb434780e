/- The statements' own like (layer 9), walked. (Printed by wip/gen/wlike.py.) -/
import Derived.Test.YtgmekeeemimnpaaWPl1
import Derived.Test.YtgmekeeemimnpaaW5
import Derived.Test.YtgmekeeemimnpaaOwn3
namespace Go.Proofs.Ytgmekeeemimnpaa
open Go Go.Maps Go.MapKept Go.RowKit

theorem zeroD (w : World) : (zeroValue 153).run Try.prog w = .ok (.agg #[.int .i64 0, .int .i64 0, .int .i64 0, .bool false]) w := by kernel_rfl
/-- The document's peers: all, those due, those late. -/
def idsD (l : List DPeer) : List Int := l.map (·.1)
def dueD (to now : Int) (l : List DPeer) : List Int := (l.filter (fun p => dueB to now (toW p).2)).map (·.1)
def lateD (to now : Int) (l : List DPeer) : List Int := (l.filter (fun p => lateB to now (toW p).2)).map (·.1)
theorem idsD_snoc (l : List DPeer) (p : DPeer) : idsD (l ++ [p]) = idsD l ++ [p.1] := by simp [idsD]
theorem dueD_snoc (to now : Int) (l : List DPeer) (p : DPeer) : dueD to now (l ++ [p]) = dueD to now l ++ if dueB to now (toW p).2 then [p.1] else [] := by
  unfold dueD
  rw [List.filter_append, List.map_append]
  cases h : dueB to now (toW p).2 <;> simp [h]
theorem lateD_snoc (to now : Int) (l : List DPeer) (p : DPeer) : lateD to now (l ++ [p]) = lateD to now l ++ if lateB to now (toW p).2 then [p.1] else [] := by
  unfold lateD
  rw [List.filter_append, List.map_append]
  cases h : lateB to now (toW p).2 <;> simp [h]
theorem idsD_len (l : List DPeer) : (idsD l).length = l.length := by simp [idsD]
theorem dueD_len (to now : Int) (l : List DPeer) : (dueD to now l).length ≤ l.length := by unfold dueD; rw [List.length_map]; exact List.length_filter_le _ _
theorem lateD_len (to now : Int) (l : List DPeer) : (lateD to now l).length ≤ l.length := by unfold lateD; rw [List.length_map]; exact List.length_filter_le _ _
/-- What a watch's peers are, in the document's list. -/
theorem same_ok {l : List DPeer} {L : List (Int × Peer)} (h : SameD l L) (hk : WOk L) {p : DPeer} (hp : p ∈ l) : (1 ≤ p.1 ∧ p.1 ≤ 4294967296) ∧ okP (toW p).2 :=
  hk.2.2 (toW p) (h.2.mem_iff.1 (List.mem_map.2 ⟨p, hp, rfl⟩))
theorem ok_ids {l : List DPeer} {L : List (Int × Peer)} (h : SameD l L) (hk : WOk L) {xs : List Int} (hx : ∀ x ∈ xs, x ∈ idsD l) : ∀ x ∈ xs, okI x := by
  intro x hm
  obtain ⟨p, hp, rfl⟩ := List.mem_map.1 (hx x hm)
  have := (same_ok h hk hp).1
  exact okI_iff.2 (by omega)
theorem sub_ids {l : List DPeer} {f : DPeer → Bool} : ∀ x ∈ (l.filter f).map (·.1), x ∈ idsD l := by
  intro x hx
  obtain ⟨p, hp, rfl⟩ := List.mem_map.1 hx
  exact List.mem_map.2 ⟨p, (List.mem_filter.1 hp).1, rfl⟩

set_option maxRecDepth 100000 in
set_option maxHeartbeats 32000000 in
theorem like_calls {A : Option Addr} {n c b : Nat} {l : List DPeer} {to now : Int} {L : List (Int × Peer)} {w0 : World} (w : World) (hb : WatB w0 w b to L) (hl : RecsD w A n l) (hs : SameD l L) (on : okI now) :
    Calls Try.prog 76 #[.pointer (some ⟨b, 0, none⟩), .slice A n c, .int .i64 to, .int .i64 now] w fun e w' => e = .returned (.bool true) ∧ Chg (fun _ => False) w w' := by
  obtain ⟨i0, hi, hz0, hz1, hz2⟩ := info_parts infoIntW
  have HI := hideIt hi
  have HLN := hideIt hl.len
  have HL := hideIt hl
  have hk := hb.wok
  have hn16 : n ≤ 16 := by rw [← hl.len, hs.len]; exact hk.1
  obtain ⟨to1, to2⟩ := hb.2.2.1
  obtain ⟨on1, on2⟩ := okI_iff.1 on
  have HS := hideIt hs
  have HK := hideIt hk
  have HB := hideIt hb
  clear hi hl hs hk hb
  go_enter Try.func76, Try.ntmps76
  go_wp2_with fail
  go_loopw [9, 10, 11, 18] (fun v1 v2 v3 i wr => ∃ k : Nat, k ≤ n ∧ i = .int .i64 k ∧ Own3 (fun _ => False) wr w.heap.size 3 v1 (idsD (l.take k)) v2 (dueD to now (l.take k)) v3 (lateD to now (l.take k)) ∧ Chg (fun _ => False) w wr) (fun _ _ _ i _ => n - (intOf i).toNat)
  case atStart => exact ⟨0, Nat.zero_le _, rfl, Own3.nil _ _ _, Chg.refl _ _⟩
  case round =>
    obtain ⟨k, hk, rfl, hown, hch⟩ := hrel
    by_cases hlt : k < n
    · obtain ⟨p, off, rfl, hbl, _⟩ := HL.out.at_ (by omega)
      have hrec := HL.out.new hch
      have hload := hrec.load (P := Try.prog) hlt 153 infoD aggD encD_len
      have hmem := getD_mem' (d := d0P) (show k < l.length by rw [HLN.out]; exact hlt)
      have hokp := same_ok HS.out HK.out hmem
      have hwt := same_waits HS.out hmem
      have htk := take_succ_getD' l d0P k (by rw [HLN.out]; exact hlt)
      have hs1 := idsD_snoc (l.take k) (l.getD k d0P)
      have hs2 := dueD_snoc to now (l.take k) (l.getD k d0P)
      have hs3 := lateD_snoc to now (l.take k) (l.getD k d0P)
      rw [← htk] at hs1 hs2 hs3
      obtain ⟨⟨pid, s, lst, wt⟩, hT⟩ : ∃ t, l.getD k d0P = t := ⟨_, rfl⟩
      rw [hT] at hload hokp hwt hs1 hs2 hs3
      obtain ⟨⟨id1, id2⟩, ⟨s1, s2⟩, ⟨l1, l2⟩, hz⟩ := hokp
      simp only [toW] at id1 id2 s1 s2 l1 l2 hz hwt hs1 hs2 hs3
      have hl2 : (encD (pid, s, lst, wt)).toArray = #[.int .i64 pid, .int .i64 s, .int .i64 lst, .bool wt] := rfl
      rw [hl2] at hload
      clear hT hrec hl2 htk hmem
      obtain ⟨w2, st2, t2, c2, z2⟩ := keep_rec (P := Try.prog) wr infoD (cs := #[.int .i64 0, .int .i64 0, .int .i64 0, .bool false]) (cs' := #[.int .i64 pid, .int .i64 s, .int .i64 lst, .bool wt]) rfl rfl (by intro v hv; simp at hv; rcases hv with rfl | rfl | rfl | rfl <;> rfl)
      have T2 := hideIt t2
      have O2 := hideIt (hown.guard c2)
      have C2 := hideIt (hch.trans c2)
      have e0 : w2.cell? ⟨wr.heap.size, 0, none⟩ = some (.int .i64 pid) := t2.cell 0
      have oki : okI pid := okI_iff.2 (by omega)
      have LA : Hid ((idsD (l.take k)).length + 1 ≤ 17592186043904) := hideIt (by rw [idsD_len]; have := List.length_take_le k l; omega)
      have LB : Hid ((dueD to now (l.take k)).length + 1 ≤ 17592186043904) := hideIt (by have := dueD_len to now (l.take k); have := List.length_take_le k l; omega)
      have LC : Hid ((lateD to now (l.take k)).length + 1 ≤ 17592186043904) := hideIt (by have := lateD_len to now (l.take k); have := List.length_take_le k l; omega)
      have HW := hideIt hwt
      have HS1 := hideIt hs1
      have hBZ : wr.heap.size < w2.heap.size := by omega
      have hdue : (dueB to now (s, wt, lst) = true ∧ now ≥ lst ∧ now - lst ≥ to / 2) ∨ (dueB to now (s, wt, lst) = false ∧ now ≥ lst ∧ now - lst < to / 2) ∨ (dueB to now (s, wt, lst) = false ∧ now < lst ∧ now < lst) := by
        unfold dueB
        simp only [Bool.and_eq_true, decide_eq_true_eq, Bool.and_eq_false_iff, decide_eq_false_iff_not]
        omega
      have hlate : (lateB to now (s, wt, lst) = true ∧ wt = true ∧ now > s ∧ now - s > to) ∨ (lateB to now (s, wt, lst) = false ∧ wt = true ∧ now > s ∧ now - s ≤ to) ∨ (lateB to now (s, wt, lst) = false ∧ wt = true ∧ now ≤ s ∧ now ≤ s) ∨ (lateB to now (s, wt, lst) = false ∧ wt = false ∧ s = 0 ∧ s = 0) := by
        cases wt with
        | false => exact .inr (.inr (.inr ⟨rfl, rfl, hz rfl, hz rfl⟩))
        | true =>
          by_cases h1 : now > s
          · by_cases h2 : now - s > to
            · exact .inl ⟨by simp [lateB]; omega, rfl, h1, h2⟩
            · exact .inr (.inl ⟨by simp [lateB]; omega, rfl, h1, by omega⟩)
          · exact .inr (.inr (.inl ⟨by simp [lateB]; omega, rfl, by omega, by omega⟩))
      clear hwt hs1 hown hz c2 t2 z2
      have hZ2 := hBZ
      rcases hdue with ⟨b1, g1, g2⟩ | ⟨b1, g1, g2⟩ | ⟨b1, g1, g2⟩ <;> rcases hlate with ⟨b2, rfl, g3, g4⟩ | ⟨b2, rfl, g3, g4⟩ | ⟨b2, rfl, g3, g4⟩ | ⟨b2, rfl, g3, g4⟩
      · have HS2 := hideIt (hs2.trans (congrArg _ (if_pos (show dueB to now (toW (pid, s, lst, true)).2 = true from b1))))
        have HS3 := hideIt (hs3.trans (congrArg _ (if_pos (show lateB to now (toW (pid, s, lst, true)).2 = true from b2))))
        clear b1 b2 hs2 hs3
        have tok1 : True := trivial
        have tok2 : True := trivial
        have tok3 : True := trivial
        go_wp2_with (first
          | (refine wpList_loadv _ rfl 153 _ rfl rfl hload ?_)
          | (refine wpList_allocv _ rfl 153 rfl (zeroD _) ?_)
          | (refine wpList_storev _ rfl 153 _ _ rfl rfl rfl st2 ?_)
          | (have _t := tok1; at_builtin; refine wpList_append_ints _ rfl _ _ 25 rfl i0 _ Try.underlying25 HI.out hz0 hz1 hz2 rfl rfl (O2.out.1.alloc _) rfl (Ints.one w2 3 pid oki) LA.out (by have := C2.out.size; simp; omega) ?_; intro v3 w3 o3 g3 q3; clear tok1 _t; have A3 := Own3.app O2.out (by rintro _ rfl; exact hZ2) ((Chg.refl _ w2).alloc _) o3 g3 q3; have O3 := hideIt A3.1.rot; have T3 := hideIt (T2.out.chg A3.2.1 (fun h => h rfl)); have C3 := hideIt (C2.out.above A3.2.2); have hZ3 : wr.heap.size < w3.heap.size := Nat.lt_of_lt_of_le hZ2 A3.2.2.size; have f03 : w3.cell? ⟨wr.heap.size, 0, none⟩ = some (.int .i64 pid) := T3.out.cell 0; have f13 : w3.cell? ⟨wr.heap.size, 1, none⟩ = some (.int .i64 s) := T3.out.cell 1; have f23 : w3.cell? ⟨wr.heap.size, 2, none⟩ = some (.int .i64 lst) := T3.out.cell 2; have f33 : w3.cell? ⟨wr.heap.size, 3, none⟩ = some (.bool true) := T3.out.cell 3; clear A3 o3 g3 q3)
          | (have _t := tok2; at_builtin; refine wpList_append_ints _ rfl _ _ 25 rfl i0 _ Try.underlying25 HI.out hz0 hz1 hz2 rfl rfl (O3.out.1.alloc _) rfl (Ints.one w3 3 pid oki) LB.out (by have := C3.out.size; simp; omega) ?_; intro v4 w4 o4 g4 q4; clear tok2 _t; have A4 := Own3.app O3.out (by rintro _ rfl; exact hZ3) ((Chg.refl _ w3).alloc _) o4 g4 q4; have O4 := hideIt A4.1.rot; have T4 := hideIt (T3.out.chg A4.2.1 (fun h => h rfl)); have C4 := hideIt (C3.out.above A4.2.2); have hZ4 : wr.heap.size < w4.heap.size := Nat.lt_of_lt_of_le hZ3 A4.2.2.size; have f04 : w4.cell? ⟨wr.heap.size, 0, none⟩ = some (.int .i64 pid) := T4.out.cell 0; have f14 : w4.cell? ⟨wr.heap.size, 1, none⟩ = some (.int .i64 s) := T4.out.cell 1; have f24 : w4.cell? ⟨wr.heap.size, 2, none⟩ = some (.int .i64 lst) := T4.out.cell 2; have f34 : w4.cell? ⟨wr.heap.size, 3, none⟩ = some (.bool true) := T4.out.cell 3; clear A4 o4 g4 q4)
          | (have _t := tok3; at_builtin; refine wpList_append_ints _ rfl _ _ 25 rfl i0 _ Try.underlying25 HI.out hz0 hz1 hz2 rfl rfl (O4.out.1.alloc _) rfl (Ints.one w4 3 pid oki) LC.out (by have := C4.out.size; simp; omega) ?_; intro v5 w5 o5 g5 q5; clear tok3 _t; have A5 := Own3.app O4.out (by rintro _ rfl; exact hZ4) ((Chg.refl _ w4).alloc _) o5 g5 q5; have O5 := hideIt A5.1.rot; have T5 := hideIt (T4.out.chg A5.2.1 (fun h => h rfl)); have C5 := hideIt (C4.out.above A5.2.2); have hZ5 : wr.heap.size < w5.heap.size := Nat.lt_of_lt_of_le hZ4 A5.2.2.size; have f05 : w5.cell? ⟨wr.heap.size, 0, none⟩ = some (.int .i64 pid) := T5.out.cell 0; have f15 : w5.cell? ⟨wr.heap.size, 1, none⟩ = some (.int .i64 s) := T5.out.cell 1; have f25 : w5.cell? ⟨wr.heap.size, 2, none⟩ = some (.int .i64 lst) := T5.out.cell 2; have f35 : w5.cell? ⟨wr.heap.size, 3, none⟩ = some (.bool true) := T5.out.cell 3; clear A5 o5 g5 q5)
          | (go_at_call 112; refine ((HB.out.chg' C5.out).waits pid oki s true HW.out).mono ?_; rintro e w6 ⟨rfl, c6⟩; have T6 := hideIt (T5.out.chg c6 (fun h => h)); have f06 : w6.cell? ⟨wr.heap.size, 0, none⟩ = some (.int .i64 pid) := T6.out.cell 0; have f16 : w6.cell? ⟨wr.heap.size, 1, none⟩ = some (.int .i64 s) := T6.out.cell 1; have f26 : w6.cell? ⟨wr.heap.size, 2, none⟩ = some (.int .i64 lst) := T6.out.cell 2; have f36 : w6.cell? ⟨wr.heap.size, 3, none⟩ = some (.bool true) := T6.out.cell 3))
        go_roundw
        case rel =>
          refine ⟨k + 1, by omega, by go_num, ?_, C5.out.trans c6⟩
          rw [HS1.out, HS2.out, HS3.out]
          exact (O5.out).free.new c6
        case measure => simp [intOf]; omega
      · have HS2 := hideIt (hs2.trans (congrArg _ (if_pos (show dueB to now (toW (pid, s, lst, true)).2 = true from b1))))
        have HS3 := hideIt (hs3.trans ((congrArg _ (if_neg (show ¬ lateB to now (toW (pid, s, lst, true)).2 = true from by rw [show lateB to now (toW (pid, s, lst, true)).2 = false from b2]; decide))).trans (List.append_nil _)))
        clear b1 b2 hs2 hs3
        have tok1 : True := trivial
        have tok2 : True := trivial
        have tok3 : True := trivial
        go_wp2_with (first
          | (refine wpList_loadv _ rfl 153 _ rfl rfl hload ?_)
          | (refine wpList_allocv _ rfl 153 rfl (zeroD _) ?_)
          | (refine wpList_storev _ rfl 153 _ _ rfl rfl rfl st2 ?_)
          | (have _t := tok1; at_builtin; refine wpList_append_ints _ rfl _ _ 25 rfl i0 _ Try.underlying25 HI.out hz0 hz1 hz2 rfl rfl (O2.out.1.alloc _) rfl (Ints.one w2 3 pid oki) LA.out (by have := C2.out.size; simp; omega) ?_; intro v3 w3 o3 g3 q3; clear tok1 _t; have A3 := Own3.app O2.out (by rintro _ rfl; exact hZ2) ((Chg.refl _ w2).alloc _) o3 g3 q3; have O3 := hideIt A3.1.rot; have T3 := hideIt (T2.out.chg A3.2.1 (fun h => h rfl)); have C3 := hideIt (C2.out.above A3.2.2); have hZ3 : wr.heap.size < w3.heap.size := Nat.lt_of_lt_of_le hZ2 A3.2.2.size; have f03 : w3.cell? ⟨wr.heap.size, 0, none⟩ = some (.int .i64 pid) := T3.out.cell 0; have f13 : w3.cell? ⟨wr.heap.size, 1, none⟩ = some (.int .i64 s) := T3.out.cell 1; have f23 : w3.cell? ⟨wr.heap.size, 2, none⟩ = some (.int .i64 lst) := T3.out.cell 2; have f33 : w3.cell? ⟨wr.heap.size, 3, none⟩ = some (.bool true) := T3.out.cell 3; clear A3 o3 g3 q3)
          | (have _t := tok2; at_builtin; refine wpList_append_ints _ rfl _ _ 25 rfl i0 _ Try.underlying25 HI.out hz0 hz1 hz2 rfl rfl (O3.out.1.alloc _) rfl (Ints.one w3 3 pid oki) LB.out (by have := C3.out.size; simp; omega) ?_; intro v4 w4 o4 g4 q4; clear tok2 _t; have A4 := Own3.app O3.out (by rintro _ rfl; exact hZ3) ((Chg.refl _ w3).alloc _) o4 g4 q4; have O4 := hideIt A4.1.rot; have T4 := hideIt (T3.out.chg A4.2.1 (fun h => h rfl)); have C4 := hideIt (C3.out.above A4.2.2); have hZ4 : wr.heap.size < w4.heap.size := Nat.lt_of_lt_of_le hZ3 A4.2.2.size; have f04 : w4.cell? ⟨wr.heap.size, 0, none⟩ = some (.int .i64 pid) := T4.out.cell 0; have f14 : w4.cell? ⟨wr.heap.size, 1, none⟩ = some (.int .i64 s) := T4.out.cell 1; have f24 : w4.cell? ⟨wr.heap.size, 2, none⟩ = some (.int .i64 lst) := T4.out.cell 2; have f34 : w4.cell? ⟨wr.heap.size, 3, none⟩ = some (.bool true) := T4.out.cell 3; clear A4 o4 g4 q4)
          | (go_at_call 112; refine ((HB.out.chg' C4.out).waits pid oki s true HW.out).mono ?_; rintro e w6 ⟨rfl, c6⟩; have T6 := hideIt (T4.out.chg c6 (fun h => h)); have f06 : w6.cell? ⟨wr.heap.size, 0, none⟩ = some (.int .i64 pid) := T6.out.cell 0; have f16 : w6.cell? ⟨wr.heap.size, 1, none⟩ = some (.int .i64 s) := T6.out.cell 1; have f26 : w6.cell? ⟨wr.heap.size, 2, none⟩ = some (.int .i64 lst) := T6.out.cell 2; have f36 : w6.cell? ⟨wr.heap.size, 3, none⟩ = some (.bool true) := T6.out.cell 3))
        go_roundw
        case rel =>
          refine ⟨k + 1, by omega, by go_num, ?_, C4.out.trans c6⟩
          rw [HS1.out, HS2.out, HS3.out]
          exact (O4.out.rot).free.new c6
        case measure => simp [intOf]; omega
      · have HS2 := hideIt (hs2.trans (congrArg _ (if_pos (show dueB to now (toW (pid, s, lst, true)).2 = true from b1))))
        have HS3 := hideIt (hs3.trans ((congrArg _ (if_neg (show ¬ lateB to now (toW (pid, s, lst, true)).2 = true from by rw [show lateB to now (toW (pid, s, lst, true)).2 = false from b2]; decide))).trans (List.append_nil _)))
        clear b1 b2 hs2 hs3
        have tok1 : True := trivial
        have tok2 : True := trivial
        have tok3 : True := trivial
        go_wp2_with (first
          | (refine wpList_loadv _ rfl 153 _ rfl rfl hload ?_)
          | (refine wpList_allocv _ rfl 153 rfl (zeroD _) ?_)
          | (refine wpList_storev _ rfl 153 _ _ rfl rfl rfl st2 ?_)
          | (have _t := tok1; at_builtin; refine wpList_append_ints _ rfl _ _ 25 rfl i0 _ Try.underlying25 HI.out hz0 hz1 hz2 rfl rfl (O2.out.1.alloc _) rfl (Ints.one w2 3 pid oki) LA.out (by have := C2.out.size; simp; omega) ?_; intro v3 w3 o3 g3 q3; clear tok1 _t; have A3 := Own3.app O2.out (by rintro _ rfl; exact hZ2) ((Chg.refl _ w2).alloc _) o3 g3 q3; have O3 := hideIt A3.1.rot; have T3 := hideIt (T2.out.chg A3.2.1 (fun h => h rfl)); have C3 := hideIt (C2.out.above A3.2.2); have hZ3 : wr.heap.size < w3.heap.size := Nat.lt_of_lt_of_le hZ2 A3.2.2.size; have f03 : w3.cell? ⟨wr.heap.size, 0, none⟩ = some (.int .i64 pid) := T3.out.cell 0; have f13 : w3.cell? ⟨wr.heap.size, 1, none⟩ = some (.int .i64 s) := T3.out.cell 1; have f23 : w3.cell? ⟨wr.heap.size, 2, none⟩ = some (.int .i64 lst) := T3.out.cell 2; have f33 : w3.cell? ⟨wr.heap.size, 3, none⟩ = some (.bool true) := T3.out.cell 3; clear A3 o3 g3 q3)
          | (have _t := tok2; at_builtin; refine wpList_append_ints _ rfl _ _ 25 rfl i0 _ Try.underlying25 HI.out hz0 hz1 hz2 rfl rfl (O3.out.1.alloc _) rfl (Ints.one w3 3 pid oki) LB.out (by have := C3.out.size; simp; omega) ?_; intro v4 w4 o4 g4 q4; clear tok2 _t; have A4 := Own3.app O3.out (by rintro _ rfl; exact hZ3) ((Chg.refl _ w3).alloc _) o4 g4 q4; have O4 := hideIt A4.1.rot; have T4 := hideIt (T3.out.chg A4.2.1 (fun h => h rfl)); have C4 := hideIt (C3.out.above A4.2.2); have hZ4 : wr.heap.size < w4.heap.size := Nat.lt_of_lt_of_le hZ3 A4.2.2.size; have f04 : w4.cell? ⟨wr.heap.size, 0, none⟩ = some (.int .i64 pid) := T4.out.cell 0; have f14 : w4.cell? ⟨wr.heap.size, 1, none⟩ = some (.int .i64 s) := T4.out.cell 1; have f24 : w4.cell? ⟨wr.heap.size, 2, none⟩ = some (.int .i64 lst) := T4.out.cell 2; have f34 : w4.cell? ⟨wr.heap.size, 3, none⟩ = some (.bool true) := T4.out.cell 3; clear A4 o4 g4 q4)
          | (go_at_call 112; refine ((HB.out.chg' C4.out).waits pid oki s true HW.out).mono ?_; rintro e w6 ⟨rfl, c6⟩; have T6 := hideIt (T4.out.chg c6 (fun h => h)); have f06 : w6.cell? ⟨wr.heap.size, 0, none⟩ = some (.int .i64 pid) := T6.out.cell 0; have f16 : w6.cell? ⟨wr.heap.size, 1, none⟩ = some (.int .i64 s) := T6.out.cell 1; have f26 : w6.cell? ⟨wr.heap.size, 2, none⟩ = some (.int .i64 lst) := T6.out.cell 2; have f36 : w6.cell? ⟨wr.heap.size, 3, none⟩ = some (.bool true) := T6.out.cell 3))
        go_roundw
        case rel =>
          refine ⟨k + 1, by omega, by go_num, ?_, C4.out.trans c6⟩
          rw [HS1.out, HS2.out, HS3.out]
          exact (O4.out.rot).free.new c6
        case measure => simp [intOf]; omega
      · have HS2 := hideIt (hs2.trans (congrArg _ (if_pos (show dueB to now (toW (pid, s, lst, false)).2 = true from b1))))
        have HS3 := hideIt (hs3.trans ((congrArg _ (if_neg (show ¬ lateB to now (toW (pid, s, lst, false)).2 = true from by rw [show lateB to now (toW (pid, s, lst, false)).2 = false from b2]; decide))).trans (List.append_nil _)))
        clear b1 b2 hs2 hs3
        have tok1 : True := trivial
        have tok2 : True := trivial
        have tok3 : True := trivial
        go_wp2_with (first
          | (refine wpList_loadv _ rfl 153 _ rfl rfl hload ?_)
          | (refine wpList_allocv _ rfl 153 rfl (zeroD _) ?_)
          | (refine wpList_storev _ rfl 153 _ _ rfl rfl rfl st2 ?_)
          | (have _t := tok1; at_builtin; refine wpList_append_ints _ rfl _ _ 25 rfl i0 _ Try.underlying25 HI.out hz0 hz1 hz2 rfl rfl (O2.out.1.alloc _) rfl (Ints.one w2 3 pid oki) LA.out (by have := C2.out.size; simp; omega) ?_; intro v3 w3 o3 g3 q3; clear tok1 _t; have A3 := Own3.app O2.out (by rintro _ rfl; exact hZ2) ((Chg.refl _ w2).alloc _) o3 g3 q3; have O3 := hideIt A3.1.rot; have T3 := hideIt (T2.out.chg A3.2.1 (fun h => h rfl)); have C3 := hideIt (C2.out.above A3.2.2); have hZ3 : wr.heap.size < w3.heap.size := Nat.lt_of_lt_of_le hZ2 A3.2.2.size; have f03 : w3.cell? ⟨wr.heap.size, 0, none⟩ = some (.int .i64 pid) := T3.out.cell 0; have f13 : w3.cell? ⟨wr.heap.size, 1, none⟩ = some (.int .i64 s) := T3.out.cell 1; have f23 : w3.cell? ⟨wr.heap.size, 2, none⟩ = some (.int .i64 lst) := T3.out.cell 2; have f33 : w3.cell? ⟨wr.heap.size, 3, none⟩ = some (.bool false) := T3.out.cell 3; clear A3 o3 g3 q3)
          | (have _t := tok2; at_builtin; refine wpList_append_ints _ rfl _ _ 25 rfl i0 _ Try.underlying25 HI.out hz0 hz1 hz2 rfl rfl (O3.out.1.alloc _) rfl (Ints.one w3 3 pid oki) LB.out (by have := C3.out.size; simp; omega) ?_; intro v4 w4 o4 g4 q4; clear tok2 _t; have A4 := Own3.app O3.out (by rintro _ rfl; exact hZ3) ((Chg.refl _ w3).alloc _) o4 g4 q4; have O4 := hideIt A4.1.rot; have T4 := hideIt (T3.out.chg A4.2.1 (fun h => h rfl)); have C4 := hideIt (C3.out.above A4.2.2); have hZ4 : wr.heap.size < w4.heap.size := Nat.lt_of_lt_of_le hZ3 A4.2.2.size; have f04 : w4.cell? ⟨wr.heap.size, 0, none⟩ = some (.int .i64 pid) := T4.out.cell 0; have f14 : w4.cell? ⟨wr.heap.size, 1, none⟩ = some (.int .i64 s) := T4.out.cell 1; have f24 : w4.cell? ⟨wr.heap.size, 2, none⟩ = some (.int .i64 lst) := T4.out.cell 2; have f34 : w4.cell? ⟨wr.heap.size, 3, none⟩ = some (.bool false) := T4.out.cell 3; clear A4 o4 g4 q4)
          | (go_at_call 112; refine ((HB.out.chg' C4.out).waits pid oki s false HW.out).mono ?_; rintro e w6 ⟨rfl, c6⟩; have T6 := hideIt (T4.out.chg c6 (fun h => h)); have f06 : w6.cell? ⟨wr.heap.size, 0, none⟩ = some (.int .i64 pid) := T6.out.cell 0; have f16 : w6.cell? ⟨wr.heap.size, 1, none⟩ = some (.int .i64 s) := T6.out.cell 1; have f26 : w6.cell? ⟨wr.heap.size, 2, none⟩ = some (.int .i64 lst) := T6.out.cell 2; have f36 : w6.cell? ⟨wr.heap.size, 3, none⟩ = some (.bool false) := T6.out.cell 3))
        go_roundw
        case rel =>
          refine ⟨k + 1, by omega, by go_num, ?_, C4.out.trans c6⟩
          rw [HS1.out, HS2.out, HS3.out]
          exact (O4.out.rot).free.new c6
        case measure => simp [intOf]; omega
      · have HS2 := hideIt (hs2.trans ((congrArg _ (if_neg (show ¬ dueB to now (toW (pid, s, lst, true)).2 = true from by rw [show dueB to now (toW (pid, s, lst, true)).2 = false from b1]; decide))).trans (List.append_nil _)))
        have HS3 := hideIt (hs3.trans (congrArg _ (if_pos (show lateB to now (toW (pid, s, lst, true)).2 = true from b2))))
        clear b1 b2 hs2 hs3
        have tok1 : True := trivial
        have tok2 : True := trivial
        have tok3 : True := trivial
        go_wp2_with (first
          | (refine wpList_loadv _ rfl 153 _ rfl rfl hload ?_)
          | (refine wpList_allocv _ rfl 153 rfl (zeroD _) ?_)
          | (refine wpList_storev _ rfl 153 _ _ rfl rfl rfl st2 ?_)
          | (have _t := tok1; at_builtin; refine wpList_append_ints _ rfl _ _ 25 rfl i0 _ Try.underlying25 HI.out hz0 hz1 hz2 rfl rfl (O2.out.1.alloc _) rfl (Ints.one w2 3 pid oki) LA.out (by have := C2.out.size; simp; omega) ?_; intro v3 w3 o3 g3 q3; clear tok1 _t; have A3 := Own3.app O2.out (by rintro _ rfl; exact hZ2) ((Chg.refl _ w2).alloc _) o3 g3 q3; have O3 := hideIt A3.1.rot; have T3 := hideIt (T2.out.chg A3.2.1 (fun h => h rfl)); have C3 := hideIt (C2.out.above A3.2.2); have hZ3 : wr.heap.size < w3.heap.size := Nat.lt_of_lt_of_le hZ2 A3.2.2.size; have f03 : w3.cell? ⟨wr.heap.size, 0, none⟩ = some (.int .i64 pid) := T3.out.cell 0; have f13 : w3.cell? ⟨wr.heap.size, 1, none⟩ = some (.int .i64 s) := T3.out.cell 1; have f23 : w3.cell? ⟨wr.heap.size, 2, none⟩ = some (.int .i64 lst) := T3.out.cell 2; have f33 : w3.cell? ⟨wr.heap.size, 3, none⟩ = some (.bool true) := T3.out.cell 3; clear A3 o3 g3 q3)
          | (have _t := tok3; at_builtin; refine wpList_append_ints _ rfl _ _ 25 rfl i0 _ Try.underlying25 HI.out hz0 hz1 hz2 rfl rfl (O3.out.rot.1.alloc _) rfl (Ints.one w3 3 pid oki) LC.out (by have := C3.out.size; simp; omega) ?_; intro v5 w5 o5 g5 q5; clear tok3 _t; have A5 := Own3.app O3.out.rot (by rintro _ rfl; exact hZ3) ((Chg.refl _ w3).alloc _) o5 g5 q5; have O5 := hideIt A5.1.rot; have T5 := hideIt (T3.out.chg A5.2.1 (fun h => h rfl)); have C5 := hideIt (C3.out.above A5.2.2); have hZ5 : wr.heap.size < w5.heap.size := Nat.lt_of_lt_of_le hZ3 A5.2.2.size; have f05 : w5.cell? ⟨wr.heap.size, 0, none⟩ = some (.int .i64 pid) := T5.out.cell 0; have f15 : w5.cell? ⟨wr.heap.size, 1, none⟩ = some (.int .i64 s) := T5.out.cell 1; have f25 : w5.cell? ⟨wr.heap.size, 2, none⟩ = some (.int .i64 lst) := T5.out.cell 2; have f35 : w5.cell? ⟨wr.heap.size, 3, none⟩ = some (.bool true) := T5.out.cell 3; clear A5 o5 g5 q5)
          | (go_at_call 112; refine ((HB.out.chg' C5.out).waits pid oki s true HW.out).mono ?_; rintro e w6 ⟨rfl, c6⟩; have T6 := hideIt (T5.out.chg c6 (fun h => h)); have f06 : w6.cell? ⟨wr.heap.size, 0, none⟩ = some (.int .i64 pid) := T6.out.cell 0; have f16 : w6.cell? ⟨wr.heap.size, 1, none⟩ = some (.int .i64 s) := T6.out.cell 1; have f26 : w6.cell? ⟨wr.heap.size, 2, none⟩ = some (.int .i64 lst) := T6.out.cell 2; have f36 : w6.cell? ⟨wr.heap.size, 3, none⟩ = some (.bool true) := T6.out.cell 3))
        go_roundw
        case rel =>
          refine ⟨k + 1, by omega, by go_num, ?_, C5.out.trans c6⟩
          rw [HS1.out, HS2.out, HS3.out]
          exact (O5.out).free.new c6
        case measure => simp [intOf]; omega
      · have HS2 := hideIt (hs2.trans ((congrArg _ (if_neg (show ¬ dueB to now (toW (pid, s, lst, true)).2 = true from by rw [show dueB to now (toW (pid, s, lst, true)).2 = false from b1]; decide))).trans (List.append_nil _)))
        have HS3 := hideIt (hs3.trans ((congrArg _ (if_neg (show ¬ lateB to now (toW (pid, s, lst, true)).2 = true from by rw [show lateB to now (toW (pid, s, lst, true)).2 = false from b2]; decide))).trans (List.append_nil _)))
        clear b1 b2 hs2 hs3
        have tok1 : True := trivial
        have tok2 : True := trivial
        have tok3 : True := trivial
        go_wp2_with (first
          | (refine wpList_loadv _ rfl 153 _ rfl rfl hload ?_)
          | (refine wpList_allocv _ rfl 153 rfl (zeroD _) ?_)
          | (refine wpList_storev _ rfl 153 _ _ rfl rfl rfl st2 ?_)
          | (have _t := tok1; at_builtin; refine wpList_append_ints _ rfl _ _ 25 rfl i0 _ Try.underlying25 HI.out hz0 hz1 hz2 rfl rfl (O2.out.1.alloc _) rfl (Ints.one w2 3 pid oki) LA.out (by have := C2.out.size; simp; omega) ?_; intro v3 w3 o3 g3 q3; clear tok1 _t; have A3 := Own3.app O2.out (by rintro _ rfl; exact hZ2) ((Chg.refl _ w2).alloc _) o3 g3 q3; have O3 := hideIt A3.1.rot; have T3 := hideIt (T2.out.chg A3.2.1 (fun h => h rfl)); have C3 := hideIt (C2.out.above A3.2.2); have hZ3 : wr.heap.size < w3.heap.size := Nat.lt_of_lt_of_le hZ2 A3.2.2.size; have f03 : w3.cell? ⟨wr.heap.size, 0, none⟩ = some (.int .i64 pid) := T3.out.cell 0; have f13 : w3.cell? ⟨wr.heap.size, 1, none⟩ = some (.int .i64 s) := T3.out.cell 1; have f23 : w3.cell? ⟨wr.heap.size, 2, none⟩ = some (.int .i64 lst) := T3.out.cell 2; have f33 : w3.cell? ⟨wr.heap.size, 3, none⟩ = some (.bool true) := T3.out.cell 3; clear A3 o3 g3 q3)
          | (go_at_call 112; refine ((HB.out.chg' C3.out).waits pid oki s true HW.out).mono ?_; rintro e w6 ⟨rfl, c6⟩; have T6 := hideIt (T3.out.chg c6 (fun h => h)); have f06 : w6.cell? ⟨wr.heap.size, 0, none⟩ = some (.int .i64 pid) := T6.out.cell 0; have f16 : w6.cell? ⟨wr.heap.size, 1, none⟩ = some (.int .i64 s) := T6.out.cell 1; have f26 : w6.cell? ⟨wr.heap.size, 2, none⟩ = some (.int .i64 lst) := T6.out.cell 2; have f36 : w6.cell? ⟨wr.heap.size, 3, none⟩ = some (.bool true) := T6.out.cell 3))
        go_roundw
        case rel =>
          refine ⟨k + 1, by omega, by go_num, ?_, C3.out.trans c6⟩
          rw [HS1.out, HS2.out, HS3.out]
          exact (O3.out.rot.rot).free.new c6
        case measure => simp [intOf]; omega
      · have HS2 := hideIt (hs2.trans ((congrArg _ (if_neg (show ¬ dueB to now (toW (pid, s, lst, true)).2 = true from by rw [show dueB to now (toW (pid, s, lst, true)).2 = false from b1]; decide))).trans (List.append_nil _)))
        have HS3 := hideIt (hs3.trans ((congrArg _ (if_neg (show ¬ lateB to now (toW (pid, s, lst, true)).2 = true from by rw [show lateB to now (toW (pid, s, lst, true)).2 = false from b2]; decide))).trans (List.append_nil _)))
        clear b1 b2 hs2 hs3
        have tok1 : True := trivial
        have tok2 : True := trivial
        have tok3 : True := trivial
        go_wp2_with (first
          | (refine wpList_loadv _ rfl 153 _ rfl rfl hload ?_)
          | (refine wpList_allocv _ rfl 153 rfl (zeroD _) ?_)
          | (refine wpList_storev _ rfl 153 _ _ rfl rfl rfl st2 ?_)
          | (have _t := tok1; at_builtin; refine wpList_append_ints _ rfl _ _ 25 rfl i0 _ Try.underlying25 HI.out hz0 hz1 hz2 rfl rfl (O2.out.1.alloc _) rfl (Ints.one w2 3 pid oki) LA.out (by have := C2.out.size; simp; omega) ?_; intro v3 w3 o3 g3 q3; clear tok1 _t; have A3 := Own3.app O2.out (by rintro _ rfl; exact hZ2) ((Chg.refl _ w2).alloc _) o3 g3 q3; have O3 := hideIt A3.1.rot; have T3 := hideIt (T2.out.chg A3.2.1 (fun h => h rfl)); have C3 := hideIt (C2.out.above A3.2.2); have hZ3 : wr.heap.size < w3.heap.size := Nat.lt_of_lt_of_le hZ2 A3.2.2.size; have f03 : w3.cell? ⟨wr.heap.size, 0, none⟩ = some (.int .i64 pid) := T3.out.cell 0; have f13 : w3.cell? ⟨wr.heap.size, 1, none⟩ = some (.int .i64 s) := T3.out.cell 1; have f23 : w3.cell? ⟨wr.heap.size, 2, none⟩ = some (.int .i64 lst) := T3.out.cell 2; have f33 : w3.cell? ⟨wr.heap.size, 3, none⟩ = some (.bool true) := T3.out.cell 3; clear A3 o3 g3 q3)
          | (go_at_call 112; refine ((HB.out.chg' C3.out).waits pid oki s true HW.out).mono ?_; rintro e w6 ⟨rfl, c6⟩; have T6 := hideIt (T3.out.chg c6 (fun h => h)); have f06 : w6.cell? ⟨wr.heap.size, 0, none⟩ = some (.int .i64 pid) := T6.out.cell 0; have f16 : w6.cell? ⟨wr.heap.size, 1, none⟩ = some (.int .i64 s) := T6.out.cell 1; have f26 : w6.cell? ⟨wr.heap.size, 2, none⟩ = some (.int .i64 lst) := T6.out.cell 2; have f36 : w6.cell? ⟨wr.heap.size, 3, none⟩ = some (.bool true) := T6.out.cell 3))
        go_roundw
        case rel =>
          refine ⟨k + 1, by omega, by go_num, ?_, C3.out.trans c6⟩
          rw [HS1.out, HS2.out, HS3.out]
          exact (O3.out.rot.rot).free.new c6
        case measure => simp [intOf]; omega
      · have HS2 := hideIt (hs2.trans ((congrArg _ (if_neg (show ¬ dueB to now (toW (pid, s, lst, false)).2 = true from by rw [show dueB to now (toW (pid, s, lst, false)).2 = false from b1]; decide))).trans (List.append_nil _)))
        have HS3 := hideIt (hs3.trans ((congrArg _ (if_neg (show ¬ lateB to now (toW (pid, s, lst, false)).2 = true from by rw [show lateB to now (toW (pid, s, lst, false)).2 = false from b2]; decide))).trans (List.append_nil _)))
        clear b1 b2 hs2 hs3
        have tok1 : True := trivial
        have tok2 : True := trivial
        have tok3 : True := trivial
        go_wp2_with (first
          | (refine wpList_loadv _ rfl 153 _ rfl rfl hload ?_)
          | (refine wpList_allocv _ rfl 153 rfl (zeroD _) ?_)
          | (refine wpList_storev _ rfl 153 _ _ rfl rfl rfl st2 ?_)
          | (have _t := tok1; at_builtin; refine wpList_append_ints _ rfl _ _ 25 rfl i0 _ Try.underlying25 HI.out hz0 hz1 hz2 rfl rfl (O2.out.1.alloc _) rfl (Ints.one w2 3 pid oki) LA.out (by have := C2.out.size; simp; omega) ?_; intro v3 w3 o3 g3 q3; clear tok1 _t; have A3 := Own3.app O2.out (by rintro _ rfl; exact hZ2) ((Chg.refl _ w2).alloc _) o3 g3 q3; have O3 := hideIt A3.1.rot; have T3 := hideIt (T2.out.chg A3.2.1 (fun h => h rfl)); have C3 := hideIt (C2.out.above A3.2.2); have hZ3 : wr.heap.size < w3.heap.size := Nat.lt_of_lt_of_le hZ2 A3.2.2.size; have f03 : w3.cell? ⟨wr.heap.size, 0, none⟩ = some (.int .i64 pid) := T3.out.cell 0; have f13 : w3.cell? ⟨wr.heap.size, 1, none⟩ = some (.int .i64 s) := T3.out.cell 1; have f23 : w3.cell? ⟨wr.heap.size, 2, none⟩ = some (.int .i64 lst) := T3.out.cell 2; have f33 : w3.cell? ⟨wr.heap.size, 3, none⟩ = some (.bool false) := T3.out.cell 3; clear A3 o3 g3 q3)
          | (go_at_call 112; refine ((HB.out.chg' C3.out).waits pid oki s false HW.out).mono ?_; rintro e w6 ⟨rfl, c6⟩; have T6 := hideIt (T3.out.chg c6 (fun h => h)); have f06 : w6.cell? ⟨wr.heap.size, 0, none⟩ = some (.int .i64 pid) := T6.out.cell 0; have f16 : w6.cell? ⟨wr.heap.size, 1, none⟩ = some (.int .i64 s) := T6.out.cell 1; have f26 : w6.cell? ⟨wr.heap.size, 2, none⟩ = some (.int .i64 lst) := T6.out.cell 2; have f36 : w6.cell? ⟨wr.heap.size, 3, none⟩ = some (.bool false) := T6.out.cell 3))
        go_roundw
        case rel =>
          refine ⟨k + 1, by omega, by go_num, ?_, C3.out.trans c6⟩
          rw [HS1.out, HS2.out, HS3.out]
          exact (O3.out.rot.rot).free.new c6
        case measure => simp [intOf]; omega
      · have HS2 := hideIt (hs2.trans ((congrArg _ (if_neg (show ¬ dueB to now (toW (pid, s, lst, true)).2 = true from by rw [show dueB to now (toW (pid, s, lst, true)).2 = false from b1]; decide))).trans (List.append_nil _)))
        have HS3 := hideIt (hs3.trans (congrArg _ (if_pos (show lateB to now (toW (pid, s, lst, true)).2 = true from b2))))
        clear b1 b2 hs2 hs3
        have tok1 : True := trivial
        have tok2 : True := trivial
        have tok3 : True := trivial
        go_wp2_with (first
          | (refine wpList_loadv _ rfl 153 _ rfl rfl hload ?_)
          | (refine wpList_allocv _ rfl 153 rfl (zeroD _) ?_)
          | (refine wpList_storev _ rfl 153 _ _ rfl rfl rfl st2 ?_)
          | (have _t := tok1; at_builtin; refine wpList_append_ints _ rfl _ _ 25 rfl i0 _ Try.underlying25 HI.out hz0 hz1 hz2 rfl rfl (O2.out.1.alloc _) rfl (Ints.one w2 3 pid oki) LA.out (by have := C2.out.size; simp; omega) ?_; intro v3 w3 o3 g3 q3; clear tok1 _t; have A3 := Own3.app O2.out (by rintro _ rfl; exact hZ2) ((Chg.refl _ w2).alloc _) o3 g3 q3; have O3 := hideIt A3.1.rot; have T3 := hideIt (T2.out.chg A3.2.1 (fun h => h rfl)); have C3 := hideIt (C2.out.above A3.2.2); have hZ3 : wr.heap.size < w3.heap.size := Nat.lt_of_lt_of_le hZ2 A3.2.2.size; have f03 : w3.cell? ⟨wr.heap.size, 0, none⟩ = some (.int .i64 pid) := T3.out.cell 0; have f13 : w3.cell? ⟨wr.heap.size, 1, none⟩ = some (.int .i64 s) := T3.out.cell 1; have f23 : w3.cell? ⟨wr.heap.size, 2, none⟩ = some (.int .i64 lst) := T3.out.cell 2; have f33 : w3.cell? ⟨wr.heap.size, 3, none⟩ = some (.bool true) := T3.out.cell 3; clear A3 o3 g3 q3)
          | (have _t := tok3; at_builtin; refine wpList_append_ints _ rfl _ _ 25 rfl i0 _ Try.underlying25 HI.out hz0 hz1 hz2 rfl rfl (O3.out.rot.1.alloc _) rfl (Ints.one w3 3 pid oki) LC.out (by have := C3.out.size; simp; omega) ?_; intro v5 w5 o5 g5 q5; clear tok3 _t; have A5 := Own3.app O3.out.rot (by rintro _ rfl; exact hZ3) ((Chg.refl _ w3).alloc _) o5 g5 q5; have O5 := hideIt A5.1.rot; have T5 := hideIt (T3.out.chg A5.2.1 (fun h => h rfl)); have C5 := hideIt (C3.out.above A5.2.2); have hZ5 : wr.heap.size < w5.heap.size := Nat.lt_of_lt_of_le hZ3 A5.2.2.size; have f05 : w5.cell? ⟨wr.heap.size, 0, none⟩ = some (.int .i64 pid) := T5.out.cell 0; have f15 : w5.cell? ⟨wr.heap.size, 1, none⟩ = some (.int .i64 s) := T5.out.cell 1; have f25 : w5.cell? ⟨wr.heap.size, 2, none⟩ = some (.int .i64 lst) := T5.out.cell 2; have f35 : w5.cell? ⟨wr.heap.size, 3, none⟩ = some (.bool true) := T5.out.cell 3; clear A5 o5 g5 q5)
          | (go_at_call 112; refine ((HB.out.chg' C5.out).waits pid oki s true HW.out).mono ?_; rintro e w6 ⟨rfl, c6⟩; have T6 := hideIt (T5.out.chg c6 (fun h => h)); have f06 : w6.cell? ⟨wr.heap.size, 0, none⟩ = some (.int .i64 pid) := T6.out.cell 0; have f16 : w6.cell? ⟨wr.heap.size, 1, none⟩ = some (.int .i64 s) := T6.out.cell 1; have f26 : w6.cell? ⟨wr.heap.size, 2, none⟩ = some (.int .i64 lst) := T6.out.cell 2; have f36 : w6.cell? ⟨wr.heap.size, 3, none⟩ = some (.bool true) := T6.out.cell 3))
        go_roundw
        case rel =>
          refine ⟨k + 1, by omega, by go_num, ?_, C5.out.trans c6⟩
          rw [HS1.out, HS2.out, HS3.out]
          exact (O5.out).free.new c6
        case measure => simp [intOf]; omega
      · have HS2 := hideIt (hs2.trans ((congrArg _ (if_neg (show ¬ dueB to now (toW (pid, s, lst, true)).2 = true from by rw [show dueB to now (toW (pid, s, lst, true)).2 = false from b1]; decide))).trans (List.append_nil _)))
        have HS3 := hideIt (hs3.trans ((congrArg _ (if_neg (show ¬ lateB to now (toW (pid, s, lst, true)).2 = true from by rw [show lateB to now (toW (pid, s, lst, true)).2 = false from b2]; decide))).trans (List.append_nil _)))
        clear b1 b2 hs2 hs3
        have tok1 : True := trivial
        have tok2 : True := trivial
        have tok3 : True := trivial
        go_wp2_with (first
          | (refine wpList_loadv _ rfl 153 _ rfl rfl hload ?_)
          | (refine wpList_allocv _ rfl 153 rfl (zeroD _) ?_)
          | (refine wpList_storev _ rfl 153 _ _ rfl rfl rfl st2 ?_)
          | (have _t := tok1; at_builtin; refine wpList_append_ints _ rfl _ _ 25 rfl i0 _ Try.underlying25 HI.out hz0 hz1 hz2 rfl rfl (O2.out.1.alloc _) rfl (Ints.one w2 3 pid oki) LA.out (by have := C2.out.size; simp; omega) ?_; intro v3 w3 o3 g3 q3; clear tok1 _t; have A3 := Own3.app O2.out (by rintro _ rfl; exact hZ2) ((Chg.refl _ w2).alloc _) o3 g3 q3; have O3 := hideIt A3.1.rot; have T3 := hideIt (T2.out.chg A3.2.1 (fun h => h rfl)); have C3 := hideIt (C2.out.above A3.2.2); have hZ3 : wr.heap.size < w3.heap.size := Nat.lt_of_lt_of_le hZ2 A3.2.2.size; have f03 : w3.cell? ⟨wr.heap.size, 0, none⟩ = some (.int .i64 pid) := T3.out.cell 0; have f13 : w3.cell? ⟨wr.heap.size, 1, none⟩ = some (.int .i64 s) := T3.out.cell 1; have f23 : w3.cell? ⟨wr.heap.size, 2, none⟩ = some (.int .i64 lst) := T3.out.cell 2; have f33 : w3.cell? ⟨wr.heap.size, 3, none⟩ = some (.bool true) := T3.out.cell 3; clear A3 o3 g3 q3)
          | (go_at_call 112; refine ((HB.out.chg' C3.out).waits pid oki s true HW.out).mono ?_; rintro e w6 ⟨rfl, c6⟩; have T6 := hideIt (T3.out.chg c6 (fun h => h)); have f06 : w6.cell? ⟨wr.heap.size, 0, none⟩ = some (.int .i64 pid) := T6.out.cell 0; have f16 : w6.cell? ⟨wr.heap.size, 1, none⟩ = some (.int .i64 s) := T6.out.cell 1; have f26 : w6.cell? ⟨wr.heap.size, 2, none⟩ = some (.int .i64 lst) := T6.out.cell 2; have f36 : w6.cell? ⟨wr.heap.size, 3, none⟩ = some (.bool true) := T6.out.cell 3))
        go_roundw
        case rel =>
          refine ⟨k + 1, by omega, by go_num, ?_, C3.out.trans c6⟩
          rw [HS1.out, HS2.out, HS3.out]
          exact (O3.out.rot.rot).free.new c6
        case measure => simp [intOf]; omega
      · have HS2 := hideIt (hs2.trans ((congrArg _ (if_neg (show ¬ dueB to now (toW (pid, s, lst, true)).2 = true from by rw [show dueB to now (toW (pid, s, lst, true)).2 = false from b1]; decide))).trans (List.append_nil _)))
        have HS3 := hideIt (hs3.trans ((congrArg _ (if_neg (show ¬ lateB to now (toW (pid, s, lst, true)).2 = true from by rw [show lateB to now (toW (pid, s, lst, true)).2 = false from b2]; decide))).trans (List.append_nil _)))
        clear b1 b2 hs2 hs3
        have tok1 : True := trivial
        have tok2 : True := trivial
        have tok3 : True := trivial
        go_wp2_with (first
          | (refine wpList_loadv _ rfl 153 _ rfl rfl hload ?_)
          | (refine wpList_allocv _ rfl 153 rfl (zeroD _) ?_)
          | (refine wpList_storev _ rfl 153 _ _ rfl rfl rfl st2 ?_)
          | (have _t := tok1; at_builtin; refine wpList_append_ints _ rfl _ _ 25 rfl i0 _ Try.underlying25 HI.out hz0 hz1 hz2 rfl rfl (O2.out.1.alloc _) rfl (Ints.one w2 3 pid oki) LA.out (by have := C2.out.size; simp; omega) ?_; intro v3 w3 o3 g3 q3; clear tok1 _t; have A3 := Own3.app O2.out (by rintro _ rfl; exact hZ2) ((Chg.refl _ w2).alloc _) o3 g3 q3; have O3 := hideIt A3.1.rot; have T3 := hideIt (T2.out.chg A3.2.1 (fun h => h rfl)); have C3 := hideIt (C2.out.above A3.2.2); have hZ3 : wr.heap.size < w3.heap.size := Nat.lt_of_lt_of_le hZ2 A3.2.2.size; have f03 : w3.cell? ⟨wr.heap.size, 0, none⟩ = some (.int .i64 pid) := T3.out.cell 0; have f13 : w3.cell? ⟨wr.heap.size, 1, none⟩ = some (.int .i64 s) := T3.out.cell 1; have f23 : w3.cell? ⟨wr.heap.size, 2, none⟩ = some (.int .i64 lst) := T3.out.cell 2; have f33 : w3.cell? ⟨wr.heap.size, 3, none⟩ = some (.bool true) := T3.out.cell 3; clear A3 o3 g3 q3)
          | (go_at_call 112; refine ((HB.out.chg' C3.out).waits pid oki s true HW.out).mono ?_; rintro e w6 ⟨rfl, c6⟩; have T6 := hideIt (T3.out.chg c6 (fun h => h)); have f06 : w6.cell? ⟨wr.heap.size, 0, none⟩ = some (.int .i64 pid) := T6.out.cell 0; have f16 : w6.cell? ⟨wr.heap.size, 1, none⟩ = some (.int .i64 s) := T6.out.cell 1; have f26 : w6.cell? ⟨wr.heap.size, 2, none⟩ = some (.int .i64 lst) := T6.out.cell 2; have f36 : w6.cell? ⟨wr.heap.size, 3, none⟩ = some (.bool true) := T6.out.cell 3))
        go_roundw
        case rel =>
          refine ⟨k + 1, by omega, by go_num, ?_, C3.out.trans c6⟩
          rw [HS1.out, HS2.out, HS3.out]
          exact (O3.out.rot.rot).free.new c6
        case measure => simp [intOf]; omega
      · have HS2 := hideIt (hs2.trans ((congrArg _ (if_neg (show ¬ dueB to now (toW (pid, s, lst, false)).2 = true from by rw [show dueB to now (toW (pid, s, lst, false)).2 = false from b1]; decide))).trans (List.append_nil _)))
        have HS3 := hideIt (hs3.trans ((congrArg _ (if_neg (show ¬ lateB to now (toW (pid, s, lst, false)).2 = true from by rw [show lateB to now (toW (pid, s, lst, false)).2 = false from b2]; decide))).trans (List.append_nil _)))
        clear b1 b2 hs2 hs3
        have tok1 : True := trivial
        have tok2 : True := trivial
        have tok3 : True := trivial
        go_wp2_with (first
          | (refine wpList_loadv _ rfl 153 _ rfl rfl hload ?_)
          | (refine wpList_allocv _ rfl 153 rfl (zeroD _) ?_)
          | (refine wpList_storev _ rfl 153 _ _ rfl rfl rfl st2 ?_)
          | (have _t := tok1; at_builtin; refine wpList_append_ints _ rfl _ _ 25 rfl i0 _ Try.underlying25 HI.out hz0 hz1 hz2 rfl rfl (O2.out.1.alloc _) rfl (Ints.one w2 3 pid oki) LA.out (by have := C2.out.size; simp; omega) ?_; intro v3 w3 o3 g3 q3; clear tok1 _t; have A3 := Own3.app O2.out (by rintro _ rfl; exact hZ2) ((Chg.refl _ w2).alloc _) o3 g3 q3; have O3 := hideIt A3.1.rot; have T3 := hideIt (T2.out.chg A3.2.1 (fun h => h rfl)); have C3 := hideIt (C2.out.above A3.2.2); have hZ3 : wr.heap.size < w3.heap.size := Nat.lt_of_lt_of_le hZ2 A3.2.2.size; have f03 : w3.cell? ⟨wr.heap.size, 0, none⟩ = some (.int .i64 pid) := T3.out.cell 0; have f13 : w3.cell? ⟨wr.heap.size, 1, none⟩ = some (.int .i64 s) := T3.out.cell 1; have f23 : w3.cell? ⟨wr.heap.size, 2, none⟩ = some (.int .i64 lst) := T3.out.cell 2; have f33 : w3.cell? ⟨wr.heap.size, 3, none⟩ = some (.bool false) := T3.out.cell 3; clear A3 o3 g3 q3)
          | (go_at_call 112; refine ((HB.out.chg' C3.out).waits pid oki s false HW.out).mono ?_; rintro e w6 ⟨rfl, c6⟩; have T6 := hideIt (T3.out.chg c6 (fun h => h)); have f06 : w6.cell? ⟨wr.heap.size, 0, none⟩ = some (.int .i64 pid) := T6.out.cell 0; have f16 : w6.cell? ⟨wr.heap.size, 1, none⟩ = some (.int .i64 s) := T6.out.cell 1; have f26 : w6.cell? ⟨wr.heap.size, 2, none⟩ = some (.int .i64 lst) := T6.out.cell 2; have f36 : w6.cell? ⟨wr.heap.size, 3, none⟩ = some (.bool false) := T6.out.cell 3))
        go_roundw
        case rel =>
          refine ⟨k + 1, by omega, by go_num, ?_, C3.out.trans c6⟩
          rw [HS1.out, HS2.out, HS3.out]
          exact (O3.out.rot.rot).free.new c6
        case measure => simp [intOf]; omega
    · obtain rfl : k = n := by omega
      have htk : l.take k = l := by rw [← HLN.out, List.take_length]
      rw [htk] at hown
      obtain ⟨o1, o2, o3, -⟩ := hown
      obtain ⟨m2, hm2⟩ : ∃ m, (dueD to now l).length = m := ⟨_, rfl⟩
      obtain ⟨m3, hm3⟩ : ∃ m, (lateD to now l).length = m := ⟨_, rfl⟩
      have k2 : m2 ≤ 16 := by have := dueD_len to now l; have := HLN.out; omega
      have k3 : m3 ≤ 16 := by have := lateD_len to now l; have := HLN.out; omega
      obtain ⟨A1, c1, hv1, -⟩ := o1.slice
      obtain ⟨A2, c2, hv2, -⟩ := o2.slice
      obtain ⟨A3, c3, hv3, -⟩ := o3.slice
      rw [idsD_len, HLN.out] at hv1
      rw [hm2] at hv2
      rw [hm3] at hv3
      subst hv1 hv2 hv3
      have M1 : Hid ((l.map (·.1)).length = k) := hideIt (by rw [List.length_map, HLN.out])
      have M2 := hideIt hm2
      have M3 := hideIt hm3
      have J1 := hideIt (o1.ints (ok_ids HS.out HK.out (fun _ h => h)) rfl)
      have J2 := hideIt (o2.ints (ok_ids HS.out HK.out sub_ids) rfl)
      have J3 := hideIt (o3.ints (ok_ids HS.out HK.out sub_ids) rfl)
      clear hm2 hm3
      have Q1 := hideIt (same_ids HS.out)
      have Q2 := hideIt (same_which HS.out (dueB to now))
      have Q3 := hideIt (same_which HS.out (lateB to now))
      have CH := hideIt hch
      have b4 := HB.out.chg' hch
      clear o1 o2 o3 htk hch
      go_wp2_with fail
      refine (b4.peers _ Q1.out k M1.out).mono ?_
      rintro e w5 ⟨A5, n5, rfl, i5, -, b5, c5⟩
      have I5 := hideIt i5
      have C5 := hideIt c5
      clear i5 c5 b4
      go_wp2_with fail
      refine (same_eq _ I5.out (J1.out.new C5.out) (by omega)).mono ?_
      rintro e w6 ⟨rfl, c6⟩
      have b6 := b5.chg' c6
      have C6 := hideIt (C5.out.trans c6)
      clear b5 c6
      go_wp2_with fail
      refine (b6.due now on (dueD to now l) Q2.out m2 M2.out).mono ?_
      rintro e w7 ⟨A7, n7, rfl, i7, -, b7, c7⟩
      have I7 := hideIt i7
      have C7 := hideIt (C6.out.trans c7)
      clear i7 c7 b6
      go_wp2_with fail
      refine (same_eq _ I7.out (J2.out.new C7.out) (by omega)).mono ?_
      rintro e w8 ⟨rfl, c8⟩
      have b8 := b7.chg' c8
      have C8 := hideIt (C7.out.trans c8)
      clear b7 c8
      go_wp2_with fail
      refine (b8.late now on (lateD to now l) Q3.out m3 M3.out).mono ?_
      rintro e w9 ⟨A9, n9, rfl, i9, -, b9, c9⟩
      have I9 := hideIt i9
      have C9 := hideIt (C8.out.trans c9)
      clear i9 c9 b8
      go_wp2_with fail
      refine (same_eq _ I9.out (J3.out.new C9.out) (by omega)).mono ?_
      rintro e w10 ⟨rfl, c10⟩
      go_wp2_with fail
      go_ret
      exact ⟨rfl, (CH.out.trans C9.out).trans c10⟩
end Go.Proofs.Ytgmekeeemimnpaa
