/- ReportOrder, walked. (Printed by wip/gen/rorder.py.) -/
import Derived.Test.YtgmekeeemimnpaaRpE
import Derived.Deep.RegionHeld3
import Derived.Deep.CutRange
import Derived.IntWalk
namespace Go.Proofs.Ytgmekeeemimnpaa
open Go Go.Maps Go.MapKept Go.RowKit

/-- The book behind notes. -/
def notesL (l : List ActR) : List (Pr × Int) := l.foldl (fun L a => noteP L a.2.1 a.2.2.1 a.2.2.2) []
theorem notesL_snoc (l : List ActR) (a : ActR) : notesL (l ++ [a]) = noteP (notesL l) a.2.1 a.2.2.1 a.2.2.2 := by
  unfold notesL; rw [List.foldl_append]; rfl
theorem nodup_noteP {L : List (Pr × Int)} (h : keysNodup L) (y z u : Int) : keysNodup (noteP L y z u) := by
  unfold noteP
  split
  · exact nodup_aput h _ _
  · exact h
theorem notesL_nodup (l : List ActR) : keysNodup (notesL l) := by
  unfold notesL
  suffices h : ∀ (l : List ActR) L, keysNodup L → keysNodup (l.foldl (fun L a => noteP L a.2.1 a.2.2.1 a.2.2.2) L) from h l [] nodup_nil
  intro l
  induction l with
  | nil => exact fun L h => h
  | cons a l ih => exact fun L h => ih _ (nodup_noteP h _ _ _)
/-- An act that notes something of a key. -/
def tells (a : ActR) (k : Pr) : Prop := (a.2.1, a.2.2.1) = k ∧ noteE a.2.1 a.2.2.1 a.2.2.2 = 0
theorem tells_pos {a : ActR} {k : Pr} (h : tells a k) : 0 ≤ a.2.2.2 := by
  have h2 := h.2
  unfold noteE at h2
  split at h2
  · omega
  · omega
structure Best (L : List (Pr × Int)) (l : List ActR) (k : Pr) : Prop where
  none : aget L k = none → ∀ a ∈ l, ¬ tells a k
  some : ∀ v, aget L k = some v → (∃ a ∈ l, tells a k ∧ a.2.2.2 = v) ∧ ∀ a ∈ l, tells a k → a.2.2.2 ≤ v
theorem best_snoc {L : List (Pr × Int)} {l : List ActR} {k : Pr} (hn : keysNodup L) (h : Best L l k) (a : ActR) : Best (noteP L a.2.1 a.2.2.1 a.2.2.2) (l ++ [a]) k := by
  unfold noteP
  by_cases h0 : noteE a.2.1 a.2.2.1 a.2.2.2 = 0
  · rw [if_pos h0]
    by_cases hk : k = (a.2.1, a.2.2.1)
    · have ht : tells a k := ⟨hk.symm, h0⟩
      have hp := tells_pos ht
      refine ⟨fun hg => ?_, fun v hg => ?_⟩
      · rw [aget_aput hn, if_pos hk] at hg; cases hg
      · rw [aget_aput hn, if_pos hk, ← hk] at hg
        cases hg
        cases hL : aget L k with
        | none =>
          simp only [Option.getD_none]
          have hv : max 0 a.2.2.2 = a.2.2.2 := by omega
          rw [hv]
          refine ⟨⟨a, by simp, ht, rfl⟩, fun b hb htb => ?_⟩
          rcases List.mem_append.1 hb with hb | hb
          · exact absurd htb (h.none hL b hb)
          · simp at hb; subst hb; exact Int.le_refl _
        | some v0 =>
          simp only [Option.getD_some]
          obtain ⟨⟨b, hb, htb, hvb⟩, hle⟩ := h.some v0 hL
          refine ⟨?_, fun b hb htb => ?_⟩
          · by_cases hc : v0 ≤ a.2.2.2
            · exact ⟨a, by simp, ht, by omega⟩
            · exact ⟨b, by simp [hb], htb, by omega⟩
          · rcases List.mem_append.1 hb with hb | hb
            · have := hle b hb htb; omega
            · simp at hb; subst hb; omega
    · refine ⟨fun hg b hb htb => ?_, fun v hg => ?_⟩
      · rw [aget_aput hn, if_neg hk] at hg
        rcases List.mem_append.1 hb with hb | hb
        · exact h.none hg b hb htb
        · simp at hb; subst hb; exact hk htb.1.symm
      · rw [aget_aput hn, if_neg hk] at hg
        obtain ⟨⟨b, hb, htb, hvb⟩, hle⟩ := h.some v hg
        refine ⟨⟨b, by simp [hb], htb, hvb⟩, fun b hb htb => ?_⟩
        rcases List.mem_append.1 hb with hb | hb
        · exact hle b hb htb
        · simp at hb; subst hb; exact absurd htb.1.symm hk
  · rw [if_neg h0]
    refine ⟨fun hg b hb htb => ?_, fun v hg => ?_⟩
    · rcases List.mem_append.1 hb with hb | hb
      · exact h.none hg b hb htb
      · simp at hb; subst hb; exact h0 htb.2
    · obtain ⟨⟨b, hb, htb, hvb⟩, hle⟩ := h.some v hg
      refine ⟨⟨b, by simp [hb], htb, hvb⟩, fun b hb htb => ?_⟩
      rcases List.mem_append.1 hb with hb | hb
      · exact hle b hb htb
      · simp at hb; subst hb; exact absurd htb.2 h0
theorem notesL_best (l : List ActR) (k : Pr) : Best (notesL l) l k := by
  suffices h : ∀ n (l : List ActR), l.length = n → Best (notesL l) l k from h _ l rfl
  intro n
  induction n with
  | zero =>
    intro l hl
    rw [List.length_eq_zero_iff] at hl
    subst hl
    exact ⟨fun _ a ha => by simp at ha, fun v h => by simp [notesL, aget_nil] at h⟩
  | succ n ih =>
    intro l hl
    rcases List.eq_nil_or_concat l with rfl | ⟨l', a, rfl⟩
    · simp at hl
    · rw [List.concat_eq_append] at hl ⊢
      rw [notesL_snoc]
      exact best_snoc (notesL_nodup l') (ih l' (by simpa using hl)) a
theorem notesL_rev (l : List ActR) : (notesL l).Perm (notesL l.reverse) := by
  have h1 := notesL_nodup l
  have h2 := notesL_nodup l.reverse
  refine (List.perm_ext_iff_of_nodup (nodup_of_keys h1) (nodup_of_keys h2)).2 fun p => ?_
  obtain ⟨k, v⟩ := p
  rw [mem_iff_aget h1, mem_iff_aget h2]
  have b1 := notesL_best l k
  have b2 := notesL_best l.reverse k
  have hmem : ∀ a, a ∈ l.reverse ↔ a ∈ l := fun a => List.mem_reverse
  cases g1 : aget (notesL l) k with
  | none =>
    cases g2 : aget (notesL l.reverse) k with
    | none => rfl
    | some v2 =>
      obtain ⟨⟨a, ha, hta, _⟩, _⟩ := b2.some v2 g2
      exact absurd hta (b1.none g1 a ((hmem a).1 ha))
  | some v1 =>
    obtain ⟨⟨a, ha, hta, hva⟩, hle⟩ := b1.some v1 g1
    cases g2 : aget (notesL l.reverse) k with
    | none => exact absurd hta (b2.none g2 a ((hmem a).2 ha))
    | some v2 =>
      obtain ⟨⟨b, hb, htb, hvb⟩, hle2⟩ := b2.some v2 g2
      have e1 := hle b ((hmem b).1 hb) htb
      have e2 := hle2 a ((hmem a).2 ha) hta
      have : v1 = v2 := by omega
      rw [this]
theorem noteP_le (L : List (Pr × Int)) (a y t : Int) : (noteP L a y t).length ≤ L.length + 1 := by
  unfold noteP
  split
  · exact length_aput_le _ _ _
  · omega
theorem notesL_take (l : List ActR) (k : Nat) (hk : k < l.length) {x y z u : Int} (h : l.getD k d0AR = (x, y, z, u)) : notesL (l.take (k + 1)) = noteP (notesL (l.take k)) y z u := by
  rw [take_succ_getD' l d0AR k hk, notesL_snoc, h]
theorem getD_reverse (l : List ActR) (k : Nat) (hk : k < l.length) : l.reverse.getD k d0AR = l.getD (l.length - 1 - k) d0AR := by
  simp [List.getD, List.getElem?_reverse hk]
theorem Recs.cells4 {w : World} {p off n : Nat} {l : List ActR} (h : Recs encAR 4 d0AR w (some ⟨p, off, none⟩) n l) {i : Nat} (hi : i < n) {x y z u : Int} (e : l.getD i d0AR = (x, y, z, u)) :
    w.cell? ⟨p, off + i * 4, none⟩ = some (.int .i64 x) ∧ w.cell? ⟨p, off + i * 4 + 1, none⟩ = some (.int .i64 y) ∧ w.cell? ⟨p, off + i * 4 + 2, none⟩ = some (.int .i64 z) ∧ w.cell? ⟨p, off + i * 4 + 3, none⟩ = some (.int .i64 u) := by
  obtain ⟨b', off', e', _, hc⟩ := h.at_ (by omega)
  cases e'
  have hc' := hc i hi
  rw [e] at hc'
  exact ⟨hc' 0 _ rfl, hc' 1 _ rfl, hc' 2 _ rfl, hc' 3 _ rfl⟩
theorem byL_le (win : Int) (L : List (Pr × Int)) (about now : Int) : (sortI (byL win L about now)).length ≤ L.length := by
  rw [sortI_len]
  unfold byL
  rw [List.length_map]
  exact List.length_filter_le _ _

set_option maxRecDepth 100000 in
set_option maxHeartbeats 16000000 in
theorem rorder_calls {A : Option Addr} {n c : Nat} {acs : List ActR} {about now : Int} (w : World) (hv : Recs encAR 4 d0AR w A n acs ∧ (∀ x ∈ acs, okAR x) ∧ n ≤ c ∧ c ≤ maxLen) (_oa : okI about) (_on : okI now) :
    Calls Try.prog 19 #[.slice A n c, .int .i64 about, .int .i64 now] w fun e w' => e = .returned (.bool true) ∧ Below w.heap.size w w' := by
  have HA := hideIt (anchor08 w)
  obtain ⟨hv, hok, hnc, hcm⟩ := hv
  unfold maxLen at hcm
  have HOK := hideIt hok
  have HV := hideIt hv
  have HLEN := hideIt hv.len
  clear hok hv
  have HN := hideIt (fun W (hc : Chg (fun _ => False) w W) => bookNew 10 w W hc (by omega) (by omega))
  have HN2 := hideIt (fun W b m L (hb : BookB w W b m 10 L) => bookNew2 10 w W hb (by omega) (by omega))
  by_cases q0 : 80 < n
  · go_enter Try.func19, Try.ntmps19
    go_wp2_with fail
    refine HA.out.mono ?_
    rintro e w1 ⟨rfl, c1⟩
    go_wp2_with fail
    refine (HN.out w1 c1).mono ?_
    rintro e w2 ⟨b1, m1, rfl, b2', -, -, -⟩
    go_wp2_with fail
    refine (HN2.out w2 b1 m1 _ b2').mono ?_
    rintro e w3 ⟨b2, m2, rfl, T3⟩
    clear b2'
    go_wp2
    go_ret
    exact ⟨rfl, T3.chg.none_below⟩
  by_cases q1 : now < -1125899906842624
  · go_enter Try.func19, Try.ntmps19
    go_wp2_with fail
    refine HA.out.mono ?_
    rintro e w1 ⟨rfl, c1⟩
    go_wp2_with fail
    refine (HN.out w1 c1).mono ?_
    rintro e w2 ⟨b1, m1, rfl, b2', -, -, -⟩
    go_wp2_with fail
    refine (HN2.out w2 b1 m1 _ b2').mono ?_
    rintro e w3 ⟨b2, m2, rfl, T3⟩
    clear b2'
    go_wp2
    go_ret
    exact ⟨rfl, T3.chg.none_below⟩
  by_cases q2 : 1125899906842624 < now
  · go_enter Try.func19, Try.ntmps19
    go_wp2_with fail
    refine HA.out.mono ?_
    rintro e w1 ⟨rfl, c1⟩
    go_wp2_with fail
    refine (HN.out w1 c1).mono ?_
    rintro e w2 ⟨b1, m1, rfl, b2', -, -, -⟩
    go_wp2_with fail
    refine (HN2.out w2 b1 m1 _ b2').mono ?_
    rintro e w3 ⟨b2, m2, rfl, T3⟩
    clear b2'
    go_wp2
    go_ret
    exact ⟨rfl, T3.chg.none_below⟩
  go_enter Try.func19, Try.ntmps19
  go_wp2_with fail
  refine HA.out.mono ?_
  rintro e w1 ⟨rfl, c1⟩
  go_wp2_with fail
  refine (HN.out w1 c1).mono ?_
  rintro e w2 ⟨b1, m1, rfl, b2', -, -, -⟩
  go_wp2_with fail
  refine (HN2.out w2 b1 m1 _ b2').mono ?_
  rintro e w3 ⟨b2, m2, rfl, T3⟩
  clear b2'
  go_wp2_with fail
  go_loopw [51] (fun i wr => ∃ (k : Nat) (L1 L2 : List (Pr × Int)), k ≤ n ∧ i = .int .i64 k ∧ Two w wr b1 m1 b2 m2 10 L1 L2 ∧ Hid (L1 = notesL (acs.take k)) ∧ Hid (L2 = notesL (acs.reverse.take k)) ∧ L1.length ≤ k ∧ L2.length ≤ k) (fun i _ => n - (intOf i).toNat)
  case atStart => exact ⟨0, [], [], Nat.zero_le _, rfl, T3, hideIt rfl, hideIt rfl, Nat.le_refl _, Nat.le_refl _⟩
  case round =>
    clear T3
    obtain ⟨k, L1, L2, hk, rfl, hb, hL1, hL2, hk1, hk2⟩ := hrel
    by_cases hlt : k < n
    · obtain ⟨p, off, rfl, hbl, _⟩ := HV.out.at_ (by omega)
      have HREC := hideIt (HV.out.chg hb.chg (fun _ _ _ _ h => h))
      obtain ⟨j, hj⟩ : ∃ j, n - 1 - k = j := ⟨_, rfl⟩
      have hjn : j < n := by omega
      have hjI : (n : Int) - 1 - (k : Int) = (j : Int) := by omega
      have hload1 := (HREC.out.chg ((Chg.refl (fun _ => False) wr).drew) (fun _ _ _ _ h => h)).load (P := Try.prog) (i := k) hlt 62 infoAR aggAR (fun _ => rfl)
      have hoka1 := HOK.out _ (getD_mem' (xs := acs) (k := k) (d := d0AR) (by rw [HLEN.out]; exact hlt))
      obtain ⟨⟨x, y, z, u⟩, hT1⟩ : ∃ t, acs.getD k d0AR = t := ⟨_, rfl⟩
      rw [hT1] at hload1 hoka1
      obtain ⟨ok11, ok12, ok13, ok14⟩ := hoka1
      simp only at ok11 ok12 ok13 ok14
      have hl1 : (encAR (x, y, z, u)).toArray = #[.int .i64 x, .int .i64 y, .int .i64 z, .int .i64 u] := rfl
      rw [hl1] at hload1
      clear hl1
      have hload2 := (HREC.out.chg ((Chg.refl (fun _ => False) wr).drew) (fun _ _ _ _ h => h)).load (P := Try.prog) (i := j) hjn 62 infoAR aggAR (fun _ => rfl)
      have hoka2 := HOK.out _ (getD_mem' (xs := acs) (k := j) (d := d0AR) (by rw [HLEN.out]; exact hjn))
      obtain ⟨⟨x', y', z', u'⟩, hT2⟩ : ∃ t, acs.getD j d0AR = t := ⟨_, rfl⟩
      rw [hT2] at hload2 hoka2
      obtain ⟨ok21, ok22, ok23, ok24⟩ := hoka2
      simp only at ok21 ok22 ok23 ok24
      have hl2 : (encAR (x', y', z', u')).toArray = #[.int .i64 x', .int .i64 y', .int .i64 z', .int .i64 u'] := rfl
      rw [hl2] at hload2
      clear hl2
      have HK1 : Hid (noteP L1 y z u = notesL (acs.take (k + 1))) := hideIt (by rw [hL1.out]; exact (notesL_take acs k (by rw [HLEN.out]; exact hlt) hT1).symm)
      have HK2 : Hid (noteP L2 y' z' u' = notesL (acs.reverse.take (k + 1))) := hideIt (by
        rw [hL2.out]
        refine (notesL_take (x := x') acs.reverse k (by rw [List.length_reverse, HLEN.out]; exact hlt) ?_).symm
        rw [getD_reverse acs k (by rw [HLEN.out]; exact hlt), HLEN.out, hj]
        exact hT2)
      have HL1 : Hid ((noteP L1 y z u).length ≤ k + 1) := hideIt (by have := noteP_le L1 y z u; omega)
      have HL2 : Hid ((noteP L2 y' z' u').length ≤ k + 1) := hideIt (by have := noteP_le L2 y' z' u'; omega)
      rw [HK1.out] at HL1
      rw [HK2.out] at HL2
      have hm1 := hb.1.1.2.1.lt
      have hm2 := hb.2.1.1.2.1.lt
      clear hL1 hL2
      have hw1 : IntKind.i64.wrap ((n : Int) - 1) = (n : Int) - 1 := IntWalk.i64_in _ (by omega)
      have hw2 : IntKind.i64.wrap ((n : Int) - 1 - (k : Int)) = (j : Int) := by rw [hjI]; exact IntWalk.i64_in _ (by omega)
      have hjn1 : (j : Int) < (n : Int) := by omega
      have hj0 : (0 : Int) ≤ (j : Int) := by omega
      clear hjI hj
      go_upto_region 10 with fail
      go_cut [12, 13, 51] from 51 to 82 (fun a b i wx => i = .int .i64 (k : Int) ∧ ∃ g1 g2, a = .pointer (some ⟨g1, 0, none⟩) ∧ b = .pointer (some ⟨g2, 0, none⟩) ∧ Blk wx g1 62 #[.int .i64 x, .int .i64 y, .int .i64 z, .int .i64 u] ∧ Blk wx g2 62 #[.int .i64 x', .int .i64 y', .int .i64 z', .int .i64 u'] ∧ wr.heap.size ≤ g1 ∧ wr.heap.size ≤ g2 ∧ Chg (fun _ => False) wr wx)
      case first =>
        obtain ⟨e1, e2, e3, e4⟩ := HREC.out.cells4 hlt hT1
        obtain ⟨f1, f2, f3, f4⟩ := HREC.out.cells4 hjn hT2
        have hpl : p < wr.heap.size := Nat.lt_of_lt_of_le hbl hb.chg.size
        have hpn : ¬ p = wr.heap.size := by omega
        have hpn2 : ¬ p = wr.heap.size + 1 := by omega
        go_region_held3 (fun w' => (w'.cell? ⟨p, off + k * 4, none⟩ = some (.int .i64 x) ∧ w'.cell? ⟨p, off + k * 4 + 1, none⟩ = some (.int .i64 y) ∧ w'.cell? ⟨p, off + k * 4 + 2, none⟩ = some (.int .i64 z) ∧ w'.cell? ⟨p, off + k * 4 + 3, none⟩ = some (.int .i64 u)) ∧ w'.cell? ⟨p, off + j * 4, none⟩ = some (.int .i64 x') ∧ w'.cell? ⟨p, off + j * 4 + 1, none⟩ = some (.int .i64 y') ∧ w'.cell? ⟨p, off + j * 4 + 2, none⟩ = some (.int .i64 z') ∧ w'.cell? ⟨p, off + j * 4 + 3, none⟩ = some (.int .i64 u')) (go_keep) (fail)
        all_goals
          go_wp2
          go_meet
          first
            | exact ⟨rfl, _, _, rfl, rfl, (Blk.new wr _ _).alloc _, blk_at (by simp) (Blk.new (wr.alloc _) _ _), Nat.le_refl _, Nat.le_succ _, (((Chg.refl _ _).alloc _).alloc _).drew⟩
            | exact ⟨rfl, _, _, rfl, rfl, blk_at (by simp) (Blk.new (wr.alloc _) _ _), (Blk.new wr _ _).alloc _, Nat.le_succ _, Nat.le_refl _, (((Chg.refl _ _).alloc _).alloc _).drew⟩
      case rest =>
        obtain ⟨rfl, g1, g2, rfl, rfl, t1, t2, lg1, lg2, hcc⟩ := hcut
        have H5 := hideIt (hb.new hcc)
        have T2 := hideIt t2
        have T1 := hideIt t1
        have e1 := t1.cell 1
        have e2 := t1.cell 2
        have e3 := t1.cell 3
        clear hb hcc t1 t2 hload1 hload2
        have tok1 : True := trivial
        go_wp2_with (first
          | (have _t := tok1; go_at_call 58; refine (H5.out.note1 y z u ok12 ok13 ok14 _ HK1.out).mono ?_; rintro e w5 ⟨rfl, b5, k5⟩; clear tok1 _t; have T5 := T2.out.chg k5 (by omega); have f1 := T5.cell 1; have f2 := T5.cell 2; have f3 := T5.cell 3; clear k5 e1 e2 e3 T5)
          | (go_at_call 58; refine (b5.note2 y' z' u' ok22 ok23 ok24 _ HK2.out).mono ?_; rintro e w6 ⟨rfl, b6, -⟩))
        go_roundw
        case rel => exact ⟨k + 1, _, _, by omega, by go_num, b6, hideIt rfl, hideIt rfl, HL1.out, HL2.out⟩
        case measure => simp [intOf]; omega
    · obtain rfl : k = n := by omega
      have t1 : acs.take k = acs := by rw [← HLEN.out, List.take_length]
      have t2 : acs.reverse.take k = acs.reverse := by rw [← HLEN.out, ← List.length_reverse, List.take_length]
      have hp := notesL_rev acs
      rw [t1] at hL1
      rw [t2] at hL2
      rw [← hL1.out, ← hL2.out] at hp
      have hs : sortI (byL 10 L1 about now) = sortI (byL 10 L2 about now) := by
        unfold byL
        exact sortI_of_perm ((hp.filter _).map _)
      obtain ⟨M1, hM1⟩ : ∃ M, L1.filter (fun p => !expB 10 now p) = M := ⟨_, rfl⟩
      obtain ⟨M2, hM2⟩ : ∃ M, L2.filter (fun p => !expB 10 now p) = M := ⟨_, rfl⟩
      have hM : M1.length = M2.length := by rw [← hM1, ← hM2]; exact (hp.filter _).length_eq
      have hM3 : M1.length ≤ L1.length := by rw [← hM1]; exact List.length_filter_le _ _
      have hll := hp.length_eq
      obtain ⟨N, hN⟩ : ∃ N, L2.length = N := ⟨_, rfl⟩
      obtain ⟨R, hR⟩ : ∃ R, M2.length = R := ⟨_, rfl⟩
      obtain ⟨xs, hxs⟩ : ∃ xs, sortI (byL 10 L2 about now) = xs := ⟨_, rfl⟩
      obtain ⟨nx, hnx⟩ : ∃ nx, xs.length = nx := ⟨_, rfl⟩
      have hx80 : nx ≤ 80 := by have := byL_le 10 L2 about now; rw [hxs] at this; omega
      obtain ⟨r, hr⟩ : ∃ r, N - R = r := ⟨_, rfl⟩
      have Q1 := hideIt (show L1.length = N by omega)
      have Q2 := hideIt hN
      have Q3 := hideIt (show M1.length = R by omega)
      have Q4 := hideIt hR
      have Q5 := hideIt (show r + M1.length = L1.length by omega)
      have Q6 := hideIt (show r + M2.length = L2.length by omega)
      have X1 := hideIt (hs.trans hxs)
      have X2 := hideIt hxs
      have NX := hideIt hnx
      have E1 := hideIt hM1
      have E2 := hideIt hM2
      have hl1 : L1.length ≤ 80 := by omega
      have hl2 : L2.length ≤ 80 := by omega
      clear hp hL1 hL2 hs hM1 hM2 hM hM3 hll hN hR hxs hnx hr t1 t2 hk1 hk2
      go_wp2_with fail
      refine (hb.1.len _ Q1.out).mono ?_
      rintro e w4 ⟨rfl, rfl⟩
      go_wp2_with fail
      refine (hb.2.1.len _ Q2.out).mono ?_
      rintro e w4 ⟨rfl, rfl⟩
      go_wp2_with fail
      refine (hb.by1 about now (by omega) (by omega) xs X1.out nx NX.out).mono ?_
      rintro e w5 ⟨A5, c5, rfl, i5, b5, -⟩
      clear hb
      go_wp2_with fail
      refine (b5.by2 about now (by omega) (by omega) xs X2.out nx NX.out).mono ?_
      rintro e w6 ⟨A6, c6, rfl, i6, b6, k6⟩
      clear b5
      go_wp2_with fail
      refine (same8_eq _ (i5.new k6) i6 (by omega)).mono ?_
      rintro e w7 ⟨rfl, rfl⟩
      clear i5 i6 k6
      go_wp2_with fail
      refine (b6.expire1 now (by omega) (by omega) M1 E1.out r Q5.out).mono ?_
      rintro e w7 ⟨rfl, b7, -⟩
      clear b6
      go_wp2_with fail
      refine (b7.expire2 now (by omega) (by omega) M2 E2.out r Q6.out).mono ?_
      rintro e w8 ⟨rfl, b8, -⟩
      clear b7
      go_wp2_with fail
      refine (b8.1.len _ Q3.out).mono ?_
      rintro e w9 ⟨rfl, rfl⟩
      go_wp2_with fail
      refine (b8.2.1.len _ Q4.out).mono ?_
      rintro e w9 ⟨rfl, rfl⟩
      go_wp2
      go_ret
      exact ⟨rfl, b8.chg.none_below⟩
end Go.Proofs.Ytgmekeeemimnpaa
