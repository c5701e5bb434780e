/- Package disk's Crash, walked. -/
import Derived.Test.YtgmekeeemimnpaaD8
namespace Go.Proofs.Ytgmekeeemimnpaa
open Go Go.Maps Go.MapKept Go.RowKit Go.Sort

/-- One file through a crash: at: how many beginnings have been taken. -/
def crash1 (keep : List Int) (st : Nat × Files) (x : Str) : Nat × Files := match aget st.2 x with
  | none => st
  | some f => if f.safe then (st.1, aput st.2 x f) else
    let k := if st.1 < keep.length then (min (max (keep.getD st.1 0) 0) (f.n : Int)).toNat else 0
    (st.1 + 1, aput st.2 x ⟨f.A, k, k, true, f.xs.take k⟩)
def crashTo (keep : List Int) (L : Files) (k : Nat) : Nat × Files := ((sortS (L.map (·.1))).take k).foldl (crash1 keep) (0, L)
def crashL (keep : List Int) (L : Files) : Files := (crashTo keep L L.length).2
section
variable {keep : List Int} {L : Files}
theorem crashTo_succ {k : Nat} {x : Str} (hk : k < L.length) (hx : (sortS (L.map (·.1))).getD k [] = x) : crashTo keep L (k + 1) = crash1 keep (crashTo keep L k) x := by
  unfold crashTo
  rw [take_succ_getD' _ ([] : Str) k (by rw [sortS_len, List.length_map]; exact hk), hx, List.foldl_append]
  rfl
theorem crash1_keys (st : Nat × Files) (x y : Str) (hn : keysNodup st.2) : (aget (crash1 keep st x).2 y).isSome = (aget st.2 y).isSome ∧ keysNodup (crash1 keep st x).2 ∧ (crash1 keep st x).2.length = st.2.length ∧ total (crash1 keep st x).2 ≤ total st.2 := by
  unfold crash1
  cases ha : aget st.2 x with
  | none => exact ⟨rfl, hn, rfl, Nat.le_refl _⟩
  | some f =>
    have hput : ∀ f' : FileG, f'.n ≤ f.n → (aget (aput st.2 x f') y).isSome = (aget st.2 y).isSome ∧ keysNodup (aput st.2 x f') ∧ (aput st.2 x f').length = st.2.length ∧ total (aput st.2 x f') ≤ total st.2 := by
      intro f' hf
      refine ⟨?_, nodup_aput hn x f', by rw [length_aput, ha, if_pos (show (some f).isSome = true from rfl)], ?_⟩
      · rw [aget_aput hn]
        by_cases hy : y = x
        · rw [if_pos hy, hy, ha]; rfl
        · rw [if_neg hy]
      · rw [total_aput hn]
        have e : aput st.2 x f = st.2 := by
          unfold aput
          rw [ha, if_pos (show (some f).isSome = true from rfl)]
          refine (List.map_congr_left fun p hp => ?_).trans (List.map_id _)
          by_cases hpx : p.1 = x
          · rw [if_pos hpx]
            obtain ⟨a, g⟩ := p
            simp only at hpx
            subst hpx
            have := aget_of_mem hn hp
            rw [ha] at this
            cases this
            rfl
          · rw [if_neg hpx]; rfl
        have := total_aput hn x f
        rw [e] at this
        omega
    simp only
    split
    · exact hput f (Nat.le_refl _)
    · refine hput _ ?_
      show (if st.1 < keep.length then (min (max (keep.getD st.1 0) 0) (f.n : Int)).toNat else 0) ≤ f.n
      split <;> omega
theorem crash1_safe (st : Nat × Files) (x y : Str) (f : FileG) (hn : keysNodup st.2) (hy : aget st.2 y = some f) (hs : f.safe = true) : aget (crash1 keep st x).2 y = some f := by
  unfold crash1
  cases ha : aget st.2 x with
  | none => exact hy
  | some g =>
    simp only
    by_cases hxy : y = x
    · subst hxy
      rw [ha] at hy
      cases hy
      rw [if_pos hs]
      simp only
      rw [aget_aput hn, if_pos rfl]
    · split
      · simp only; rw [aget_aput hn, if_neg hxy]; exact hy
      · simp only; rw [aget_aput hn, if_neg hxy]; exact hy
theorem crashTo_inv (hn : keysNodup L) : ∀ k, k ≤ L.length → keysNodup (crashTo keep L k).2 ∧ (crashTo keep L k).2.length = L.length ∧ total (crashTo keep L k).2 ≤ total L ∧ (∀ y, (aget (crashTo keep L k).2 y).isSome = (aget L y).isSome) ∧ ∀ y f, aget L y = some f → f.safe = true → aget (crashTo keep L k).2 y = some f
  | 0, _ => ⟨hn, rfl, Nat.le_refl _, fun _ => rfl, fun _ _ h _ => h⟩
  | k + 1, hk => by
    obtain ⟨h1, h2, h3, h4, h5⟩ := crashTo_inv hn k (by omega)
    obtain ⟨x, hx⟩ : ∃ x, (sortS (L.map (·.1))).getD k [] = x := ⟨_, rfl⟩
    rw [crashTo_succ (by omega) hx]
    have hk1 := fun y => crash1_keys (keep := keep) (crashTo keep L k) x y h1
    exact ⟨(hk1 []).2.1, (hk1 []).2.2.1.trans h2, Nat.le_trans (hk1 []).2.2.2 h3, fun y => (hk1 y).1.trans (h4 y), fun y f hy hs => crash1_safe _ x y f h1 (h5 y f hy hs) hs⟩
end
theorem sizeU (w : World) : (sizeOf 5).run Try.prog w = .ok 1 w := by kernel_rfl
section
variable {w : World} {d m : Nat} {s : DSt}
theorem DiskAt.crashed (h : DiskAt w d m s) : DiskAt ((w.setCell ⟨d, 2, none⟩ (.int .i64 (-1))).setCell ⟨d, 3, none⟩ (.bool false)) d m ⟨s.L, s.room, -1, false⟩ ∧ Chg (fun i => i = d ∨ i = m) w ((w.setCell ⟨d, 2, none⟩ (.int .i64 (-1))).setCell ⟨d, 3, none⟩ (.bool false)) := by
  have h1 := h.left_ (-1)
  have h2 := h1.1.down_ false
  exact ⟨h2.1, h1.2.trans h2.2⟩
set_option maxRecDepth 100000 in
set_option maxHeartbeats 8000000 in
theorem crash_calls {B : Option Addr} {q c : Nat} {keep : List Int} (w : World) (h : DiskAt w d m s) (hok : DOk s) (hL : s.L.length ≤ 1000000) (hk : Ints w B q keep) (hq : q ≤ 1000000) (hkb : 0 < q → ∀ b off, B = some ⟨b, off, none⟩ → b ≠ d ∧ b ≠ m) :
    Calls Try.prog 89 #[.pointer (some ⟨d, 0, none⟩), .slice B q c] w (DiskR w d m ⟨crashL keep s.L, s.room, -1, false⟩ (.tuple #[])) := by
  obtain ⟨L, room, left, down⟩ := s
  have c0 : w.cell? ⟨d, 0, none⟩ = some (.map (some m)) := h.blk.cell 0
  have HS := hideIt (sortedS_calls w h.map hL)
  have HK := hideIt (keysS_calls (b := m) w)
  have H0 := hideIt h
  have HKP := hideIt hk
  have HKB := hideIt hkb
  have HKL := hideIt hk.len
  have HND := hideIt h.map.nodup
  have HDL := hideIt (And.intro h.blk.lt h.map.lt)
  have htot := hok.tot
  have hr1 := hok.room1
  simp only at htot hr1 hL HS HND
  have HT := hideIt (show total L ≤ 65536 by omega)
  clear h hok hk htot hr1 hkb
  go_enter Try.func89, Try.ntmps89
  go_wp2_with (first
    | (go_at_call 119; refine HK.out.mono ?_; rintro e w1 ⟨rfl, rfl⟩)
    | (go_at_call 118; refine HS.out.mono ?_; rintro e w2 ⟨A, n, c', rfl, hn, ho, k2⟩; have HO := hideIt ho; rw [sortS_len, List.length_map] at hn; have HN := hideIt hn; have K2 := hideIt (((Chg.refl _ w).alloc _).trans k2); have hn1 : n ≤ 1000000 := (by omega); clear ho hn k2))
  go_loopw [16, 4] (fun i a wr => ∃ (k at_ : Nat) (M : Files), k ≤ n ∧ i = .int .i64 k ∧ a = .int .i64 at_ ∧ at_ ≤ k ∧ DiskAt wr d m ⟨M, room, left, down⟩ ∧ Hid (crashTo keep L k = (at_, M)) ∧ Chg (fun i => i = d ∨ i = m) w2 wr) (fun i _ _ => n - (intOf i).toNat)
  case atStart => exact ⟨0, 0, L, Nat.zero_le _, rfl, rfl, Nat.le_refl _, H0.out.new K2.out, hideIt rfl, Chg.refl _ _⟩
  case round =>
    obtain ⟨k, at_, M, hk, rfl, rfl, hat, hd, hM, hch⟩ := hrel
    have hx0 := crashTo_inv (keep := keep) HND.out k (by rw [← HN.out]; exact hk)
    rw [hM.out] at hx0
    obtain ⟨i1, i2, i3, i4, i5⟩ := hx0
    simp only at i1 i2 i3 i4
    by_cases hlt : k < n
    · have hkL : k < L.length := by rw [← HN.out]; exact hlt
      have hrec : Recs encL 1 [] wr A n (sortS (L.map (·.1))) := (OwnR.recs (d := ([] : Str)) encL_len HO.out rfl).chg hch (fun b off e hb hs => by
        have h1 := HO.out.base_le (g := b) (by rw [e]; rfl)
        have h2 := HDL.out
        simp at h1
        omega)
      obtain ⟨p, off, rfl, _, hcell⟩ := hrec.at_ (by omega)
      obtain ⟨x, hx⟩ : ∃ x, (sortS (L.map (·.1))).getD k [] = x := ⟨_, rfl⟩
      have hxc : wr.cell? ⟨p, off + k, none⟩ = some (encStr x) := by
        have := hcell k hlt 0 (encStr x) (by rw [hx]; rfl)
        simpa using this
      have hxm : x ∈ L.map (·.1) := (sortS_perm _).mem_iff.1 (by rw [← hx]; exact getD_mem' (by rw [sortS_len, List.length_map]; exact hkL))
      have HX : Hid (okS x) := hideIt (by
        obtain ⟨y, hy, e⟩ := List.mem_map.1 hxm
        rw [← e]
        exact H0.out.map.keyGood y hy)
      have hsome : (aget M x).isSome = true := by rw [i4]; exact aget_isSome_iff.2 hxm
      obtain ⟨f, hf⟩ := Option.isSome_iff_exists.1 hsome
      have hmem := aget_some_mem hf
      have hfl := hd.files _ hmem
      have hn65 := total_mem hmem
      have hl := hd.map.look (P := Try.prog) encS Try.underlying154 (zeroFile _) HX.out false
      have d0 : wr.cell? ⟨d, 0, none⟩ = some (.map (some m)) := hd.blk.cell 0
      obtain ⟨A1, n1, c1, sf, xs1⟩ := f
      simp only [hf, Option.map_some, Option.getD_some, Bool.false_eq_true, if_false, evF] at hl
      have hcs := crashTo_succ (keep := keep) hkL hx
      rw [hM.out] at hcs
      simp only at hn65
      have hn1' : n1 ≤ 65536 := Nat.le_trans hn65 (Nat.le_trans i3 HT.out)
      have HFr := hideIt hfl
      have HDr := hideIt hd
      have HCH := hideIt hch
      clear hrec hcell hx hxm hsome hmem hfl hn65 hd hch i1 i2 i3 i4 i5
      cases sf with
      | true =>
        have HM1 : Hid (crashTo keep L (k + 1) = (at_, aput M x ⟨A1, n1, c1, true, xs1⟩)) := hideIt (by rw [hcs]; unfold crash1; simp only [hf]; rfl)
        clear hcs hf
        have HD : Hid (DiskAt (wr.alloc (.cells #[.slice A1 n1 c1, .bool true] 160)) d m ⟨M, room, left, down⟩) := hideIt (HDr.out.new ((Chg.refl _ wr).alloc _))
        have HC : Hid (Chg (fun i => i = d ∨ i = m) w2 (wr.alloc (.cells #[.slice A1 n1 c1, .bool true] 160))) := hideIt (HCH.out.alloc _)
        have TW : Blk (wr.alloc (.cells #[.slice A1 n1 c1, .bool true] 160)) wr.heap.size 160 #[.slice A1 n1 c1, .bool true] := Blk.new wr _ _
        have HF := hideIt (HFr.out.new ((Chg.refl (fun _ => False) wr).alloc (.cells #[.slice A1 n1 c1, .bool true] 160)))
        go_wp2_with fail
        generalize wr.alloc (.cells #[.slice A1 n1 c1, .bool true] 160) = W at *
        clear hxc hl
        have e0 : W.cell? ⟨wr.heap.size, 0, none⟩ = some (.slice A1 n1 c1) := TW.cell 0
        have e1 : W.cell? ⟨wr.heap.size, 1, none⟩ = some (.bool true) := TW.cell 1
        have d0 : W.cell? ⟨d, 0, none⟩ = some (.map (some m)) := HD.out.blk.cell 0
        clear TW
        go_still_tail 6, (by kernel_rfl)
        change wpList _ _ _ _ _ W.drew
        go_wp2_with (at_mapUpdate; refine wpList_store _ rfl _ _ _ 154 rfl 160 encS Try.underlying154 HD.out.map.drew rfl x rfl HX.out (FileG.mk A1 n1 c1 true xs1) rfl ?_; intro w5 hm5 ht5)
        have hp := DiskAt.put (HD.out.new ((Chg.refl _ W).drew)) hm5 rfl ht5 (HF.out.new ((Chg.refl _ W).drew))
        go_roundw
        case rel => exact ⟨k + 1, at_, _, by omega, by go_num, rfl, by omega, hp.1, HM1, (HC.out.drew).trans hp.2⟩
        case measure => simp [intOf]; omega
      | false =>
        have hok1 : n1 ≤ c1 ∧ c1 ≤ maxLen := HFr.out.2
        have hcut : ∀ (k : Nat), k ≤ n1 → ∀ W : World, (Instr.slice 95 (.slice A1 n1 c1) none (some (.int .i64 (k : Int))) (some (.int .i64 (k : Int)))).run Try.prog W = .ok (.slice A1 k k) W := fun k hk W => run_cutK_to3 Try.underlying95 sizeU W A1 n1 c1 k (by omega)
        have hwat : IntKind.i64.wrap ((at_ : Int) + 1) = (at_ : Int) + 1 := IntWalk.i64_in _ (by omega)
        by_cases hq2 : at_ < q
        · obtain ⟨pb, po, rfl, hpb, hkc⟩ := HKP.out.at_ (by omega)
          have hkc1 : wr.cell? ⟨pb, po + at_, none⟩ = some (.int .i64 (keep.getD at_ 0)) := by
            have h1 := HKB.out (by omega) _ _ rfl
            have h2 := ((K2.out.mono (fun _ h => h.elim) : Chg (fun i => i = d ∨ i = m) w w2).trans HCH.out).cell (p := ⟨pb, po + at_, none⟩) hpb (fun e => by rcases e with e | e; exact h1.1 e; exact h1.2 e)
            exact h2.trans (hkc at_ hq2)
          obtain ⟨kv, hkv⟩ : ∃ kv, keep.getD at_ 0 = kv := ⟨_, rfl⟩
          rw [hkv] at hkc1
          obtain ⟨nn, hnn⟩ : ∃ nn : Nat, min (max kv 0) (n1 : Int) = (nn : Int) := ⟨(min (max kv 0) (n1 : Int)).toNat, by omega⟩
          have hnn1 : nn ≤ n1 := by omega
          have HM1 : Hid (crashTo keep L (k + 1) = (at_ + 1, aput M x ⟨A1, nn, nn, true, xs1.take nn⟩)) := hideIt (by
            rw [hcs]; unfold crash1; simp only [hf]
            rw [if_neg (by simp), if_pos (by rw [HKL.out]; exact hq2), hkv, hnn]
            rfl)
          have hcn := hcut nn hnn1
          have hq2' : (at_ : Int) < (q : Int) := by omega
          have hq0 : (0 : Int) ≤ (at_ : Int) := by omega
          clear hcs hf hkc hkv hcut hok1
          have HD : Hid (DiskAt (wr.alloc (.cells #[.slice A1 nn nn, .bool true] 160)).drew d m ⟨M, room, left, down⟩) := hideIt (HDr.out.new (((Chg.refl _ wr).alloc _).drew))
          have HC : Hid (Chg (fun i => i = d ∨ i = m) w2 (wr.alloc (.cells #[.slice A1 nn nn, .bool true] 160)).drew) := hideIt ((HCH.out.alloc _).drew)
          have TW : Blk (wr.alloc (.cells #[.slice A1 nn nn, .bool true] 160)).drew wr.heap.size 160 #[.slice A1 nn nn, .bool true] := (Blk.new wr _ _).drew
          have HF : Hid (okF (wr.alloc (.cells #[.slice A1 nn nn, .bool true] 160)).drew ⟨A1, nn, nn, true, xs1.take nn⟩) := hideIt (by
            have := HFr.out.new (w' := (wr.alloc (.cells #[.slice A1 nn nn, .bool true] 160)).drew) (((Chg.refl _ wr).alloc _).drew)
            exact ⟨this.1.take (by omega), Nat.le_refl _, Nat.le_trans (by omega) (Nat.le_trans HFr.out.2.1 HFr.out.2.2)⟩)
          go_wp2_with fail
          have ef : (wr.alloc (.cells #[.slice A1 n1 c1, .bool false] 160)).cell? ⟨wr.heap.size, 0, none⟩ = some (.slice A1 n1 c1) := (Blk.new wr 160 #[.slice A1 n1 c1, .bool false]).cell 0
          have ek : (wr.alloc (.cells #[.slice A1 n1 c1, .bool false] 160)).cell? ⟨pb, po + at_, none⟩ = some (.int .i64 kv) := (((Chg.refl (fun _ => False) wr).alloc (.cells #[.slice A1 n1 c1, .bool false] 160)).cell (p := ⟨pb, po + at_, none⟩) (Nat.lt_of_lt_of_le hpb (((K2.out.mono (fun _ h => h.elim) : Chg (fun i => i = d ∨ i = m) w w2).trans HCH.out).size)) (fun h => h)).trans hkc1
          go_region_held3 (fun w' => w'.cell? ⟨wr.heap.size, 0, none⟩ = some (.slice A1 n1 c1) ∧ w'.cell? ⟨pb, po + at_, none⟩ = some (.int .i64 kv))
            (first
              | exact ⟨ef, ek⟩
              | go_keep)
            (fail)
          go_wp2_with fail
          generalize (wr.alloc (.cells #[.slice A1 nn nn, .bool true] 160)).drew = W at *
          clear hxc hl hcn ef ek hkc1 hnn
          have e0 : W.cell? ⟨wr.heap.size, 0, none⟩ = some (.slice A1 nn nn) := TW.cell 0
          have e1 : W.cell? ⟨wr.heap.size, 1, none⟩ = some (.bool true) := TW.cell 1
          have d0 : W.cell? ⟨d, 0, none⟩ = some (.map (some m)) := HD.out.blk.cell 0
          clear TW
          go_still_tail 6, (by kernel_rfl)
          change wpList _ _ _ _ _ W.drew
          go_wp2_with (at_mapUpdate; refine wpList_store _ rfl _ _ _ 154 rfl 160 encS Try.underlying154 HD.out.map.drew rfl x rfl HX.out (FileG.mk A1 nn nn true (xs1.take nn)) rfl ?_; intro w5 hm5 ht5)
          have hp := DiskAt.put (HD.out.new ((Chg.refl _ W).drew)) hm5 rfl ht5 (HF.out.new ((Chg.refl _ W).drew))
          go_roundw
          case rel => exact ⟨k + 1, at_ + 1, _, by omega, by go_num, by go_num, by omega, hp.1, HM1, (HC.out.drew).trans hp.2⟩
          case measure => simp [intOf]; omega
        · have HM1 : Hid (crashTo keep L (k + 1) = (at_ + 1, aput M x ⟨A1, 0, 0, true, xs1.take 0⟩)) := hideIt (by
            rw [hcs]; unfold crash1; simp only [hf]
            rw [if_neg (by simp), if_neg (by rw [HKL.out]; exact hq2)])
          have hcn := hcut 0 (Nat.zero_le _)
          have e00 : ((0 : Nat) : Int) = 0 := rfl
          rw [e00] at hcn
          have hq2' : decide ((at_ : Int) < (q : Int)) = false := by simp; omega
          clear hcs hf hcut hok1 e00
          have HD : Hid (DiskAt (wr.alloc (.cells #[.slice A1 0 0, .bool true] 160)) d m ⟨M, room, left, down⟩) := hideIt (HDr.out.new (((Chg.refl _ wr).alloc _)))
          have HC : Hid (Chg (fun i => i = d ∨ i = m) w2 (wr.alloc (.cells #[.slice A1 0 0, .bool true] 160))) := hideIt ((HCH.out.alloc _))
          have TW : Blk (wr.alloc (.cells #[.slice A1 0 0, .bool true] 160)) wr.heap.size 160 #[.slice A1 0 0, .bool true] := (Blk.new wr _ _)
          have HF : Hid (okF (wr.alloc (.cells #[.slice A1 0 0, .bool true] 160)) ⟨A1, 0, 0, true, xs1.take 0⟩) := hideIt (by
            have := HFr.out.new (w' := (wr.alloc (.cells #[.slice A1 0 0, .bool true] 160))) (((Chg.refl _ wr).alloc _))
            exact ⟨this.1.take (Nat.zero_le _), Nat.le_refl _, Nat.le_trans (Nat.zero_le _) (Nat.le_trans HFr.out.2.1 HFr.out.2.2)⟩)
          go_wp2_with fail
          generalize (wr.alloc (.cells #[.slice A1 0 0, .bool true] 160)) = W at *
          clear hxc hl hcn
          have e0 : W.cell? ⟨wr.heap.size, 0, none⟩ = some (.slice A1 0 0) := TW.cell 0
          have e1 : W.cell? ⟨wr.heap.size, 1, none⟩ = some (.bool true) := TW.cell 1
          have d0 : W.cell? ⟨d, 0, none⟩ = some (.map (some m)) := HD.out.blk.cell 0
          clear TW
          go_still_tail 6, (by kernel_rfl)
          change wpList _ _ _ _ _ W.drew
          go_wp2_with (at_mapUpdate; refine wpList_store _ rfl _ _ _ 154 rfl 160 encS Try.underlying154 HD.out.map.drew rfl x rfl HX.out (FileG.mk A1 0 0 true (xs1.take 0)) rfl ?_; intro w5 hm5 ht5)
          have hp := DiskAt.put (HD.out.new ((Chg.refl _ W).drew)) hm5 rfl ht5 (HF.out.new ((Chg.refl _ W).drew))
          go_roundw
          case rel => exact ⟨k + 1, at_ + 1, _, by omega, by go_num, by go_num, by omega, hp.1, HM1, (HC.out.drew).trans hp.2⟩
          case measure => simp [intOf]; omega
    · obtain rfl : k = n := by omega
      have HE : Hid (crashL keep L = M) := hideIt (by unfold crashL; rw [← HN.out, hM.out])
      have f2 : wr.frozen? ⟨d, 2, none⟩ = false := hd.blk.frozen 2
      have f3 : wr.frozen? ⟨d, 3, none⟩ = false := hd.blk.frozen 3
      have l2 : wr.cell? ⟨d, 2, none⟩ = some (.int .i64 left) := hd.blk.cell 2
      have l3 : wr.cell? ⟨d, 3, none⟩ = some (.bool down) := hd.blk.cell 3
      have HDr := hideIt hd
      clear hd hM
      go_wp2
      go_end0
      have hc := HDr.out.crashed
      refine ⟨rfl, by rw [HE.out]; exact hc.1, (((K2.out.mono (fun _ h => h.elim) : Chg (fun i => i = d ∨ i = m) w w2).trans hch)).trans hc.2⟩
end
end Go.Proofs.Ytgmekeeemimnpaa
