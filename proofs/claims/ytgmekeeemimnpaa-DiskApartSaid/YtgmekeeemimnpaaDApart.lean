/- DiskApart, walked: what is safe stays, whatever is done with other names. -/
import Derived.Test.YtgmekeeemimnpaaDOp
namespace Go.Proofs.Ytgmekeeemimnpaa
open Go Go.Maps Go.MapKept Go.RowKit Go.Sort

abbrev nKeep : Str := [107, 101, 101, 112]
theorem named_keep : namedB nKeep = true := by decide
section
variable {s : DSt} {x y : Str}
theorem wrD_L (s : DSt) (x : Str) (f : FileG) : (wrD s x f).L = s.L ∨ (wrD s x f).L = aput s.L x f := by
  unfold wrD putS
  split
  · exact .inl rfl
  · split
    · split
      · exact .inl rfl
      · exact .inr (by rw [stepS_L])
    · exact .inl rfl
theorem syncS_L (s : DSt) (x : Str) : (syncS s x).2.L = s.L ∨ ∃ f, aget s.L x = some f ∧ (syncS s x).2.L = aput s.L x { f with safe := true } := by
  unfold syncS
  split
  · exact .inl rfl
  · split
    · exact .inl rfl
    · next f ha =>
      split
      · exact .inl (stepS_L s)
      · exact .inr ⟨f, ha, rfl⟩
theorem renS_L (s : DSt) (x y : Str) : (renS s x y).2.L = s.L ∨ ∃ f, aget s.L x = some f ∧ (renS s x y).2.L = aput (adel s.L x) y f := by
  unfold renS
  split
  · exact .inl rfl
  · split
    · exact .inl rfl
    · next f ha =>
      split
      · split
        · exact .inl (stepS_L s)
        · exact .inr ⟨f, ha, rfl⟩
      · exact .inl rfl
theorem aget_adel' {L : Files} (hn : keysNodup L) {x y : Str} (h : y ≠ x) : aget (adel L x) y = aget L y := by
  cases ha : aget L y with
  | none =>
    rw [aget_none_iff] at ha ⊢
    exact fun p hp => ha p (mem_adel.1 hp).1
  | some f => exact aget_of_mem (nodup_adel hn x) (mem_adel.2 ⟨aget_some_mem ha, h⟩)
theorem adel_len (L : Files) (x : Str) : (adel L x).length ≤ L.length := List.length_filter_le _ _
end
/-- A file is kept; there are not too many. -/
def KP (f : FileG) (l : Nat) (s : DSt) : Prop := aget s.L nKeep = some f ∧ s.L.length ≤ l
section
variable {w0 w : World} {d m : Nat} {s : DSt} {f : FileG} {l : Nat} {x y : Str}
def DiskX (w0 : World) (d m : Nat) (f : FileG) (l : Nat) (e : Ending) (w' : World) : Prop := ∃ r s', e = .returned (.int .i64 r) ∧ DiskB w0 w' d m s' ∧ KP f l s'
theorem KP.put (h : KP f l s) (hn : keysNodup s.L) (hx : x ≠ nKeep) {s' : DSt} (g : FileG) (e : s'.L = aput s.L x g) : KP f (l + 1) s' := by
  refine ⟨?_, ?_⟩
  · rw [e, aget_aput hn, if_neg (Ne.symm hx)]; exact h.1
  · rw [e]; exact Nat.le_trans (length_aput_le _ _ _) (Nat.succ_le_succ h.2)
theorem KP.same (h : KP f l s) {s' : DSt} (e : s'.L = s.L) : KP f (l + 1) s' := ⟨by rw [e]; exact h.1, by rw [e]; exact Nat.le_succ_of_le h.2⟩
theorem DiskB.writeX {A : Option Addr} {n c : Nat} {xs : List Int} (h : DiskB w0 w d m s) (hk : KP f l s) (hx : x ≠ nKeep) (hxs : okS x) (hb : Bytes w A n xs) (hn : n ≤ 1000000) (hnc : n ≤ c) (hcm : c ≤ maxLen) :
    Calls Try.prog 85 #[.pointer (some ⟨d, 0, none⟩), encStr x, .slice A n c] w (DiskX w0 d m f (l + 1)) := by
  refine (h.write x hxs hb hn hnc hcm _ rfl).mono ?_
  rintro e w' ⟨g, _, _, _, rfl, hB⟩
  refine ⟨_, _, rfl, hB, ?_⟩
  rcases wrD_L s x g with e | e
  · exact hk.same e
  · exact hk.put h.nodup hx g e
theorem DiskB.syncX (h : DiskB w0 w d m s) (hk : KP f l s) (hx : x ≠ nKeep) (hxs : okS x) : Calls Try.prog 86 #[.pointer (some ⟨d, 0, none⟩), encStr x] w (DiskX w0 d m f (l + 1)) := by
  refine (h.sync x hxs (syncS s x).1 (s' := (syncS s x).2) rfl).mono ?_
  rintro e w' ⟨rfl, hB⟩
  refine ⟨_, _, rfl, hB, ?_⟩
  rcases syncS_L s x with e | ⟨g, _, e⟩
  · exact hk.same e
  · exact hk.put h.nodup hx _ e
theorem DiskB.renameX (h : DiskB w0 w d m s) (hk : KP f l s) (hx : x ≠ nKeep) (hy : y ≠ nKeep) (hxs : okS x) (hys : okS y) : Calls Try.prog 88 #[.pointer (some ⟨d, 0, none⟩), encStr x, encStr y] w (DiskX w0 d m f (l + 1)) := by
  refine (h.rename x y hxs hys (renS s x y).1 (s' := (renS s x y).2) rfl).mono ?_
  rintro e w' ⟨rfl, hB⟩
  refine ⟨_, _, rfl, hB, ?_⟩
  rcases renS_L s x y with e | ⟨g, _, e⟩
  · exact hk.same e
  · refine ⟨?_, ?_⟩
    · rw [e, aget_aput (nodup_adel h.nodup x), if_neg (Ne.symm hy), aget_adel' h.nodup (Ne.symm hx)]; exact hk.1
    · rw [e]
      have := length_aput_le (adel s.L x) y g
      have := adel_len s.L x
      have := hk.2
      omega
theorem KP.crash (hk : KP f l s) (hn : keysNodup s.L) (hs : f.safe = true) (keep : List Int) (r a : Int) (b : Bool) : KP f (l + 1) ⟨crashL keep s.L, r, a, b⟩ := by
  have hi := crashTo_inv (keep := keep) hn s.L.length (Nat.le_refl _)
  exact ⟨hi.2.2.2.2 nKeep f hk.1 hs, by show (crashTo keep s.L s.L.length).2.length ≤ _; rw [hi.2.1]; exact Nat.le_succ_of_le hk.2⟩
def DiskX0 (w0 : World) (d m : Nat) (f : FileG) (l : Nat) (e : Ending) (w' : World) : Prop := ∃ s', e = .returned (.tuple #[]) ∧ DiskB w0 w' d m s' ∧ KP f l s'
theorem DiskB.armX (h : DiskB w0 w d m s) (hk : KP f l s) (v : Int) (hv : okI v) : Calls Try.prog 87 #[.pointer (some ⟨d, 0, none⟩), .int .i64 v] w (DiskX0 w0 d m f (l + 1)) := by
  refine (h.arm v hv).mono ?_
  rintro e w' ⟨rfl, hB⟩
  exact ⟨_, rfl, hB, hk.same rfl⟩
theorem DiskB.crashX {B : Option Addr} {q c : Nat} {keep : List Int} (h : DiskB w0 w d m s) (hk : KP f l s) (hs : f.safe = true) (hkp : Ints w0 B q keep) (hq : q ≤ 1000000) (hl : l ≤ 1000000) : Calls Try.prog 89 #[.pointer (some ⟨d, 0, none⟩), .slice B q c] w (DiskX0 w0 d m f (l + 1)) := by
  refine (h.crash (hkp.new h.chg) hq (Nat.le_trans hk.2 hl) (h.apart hkp) _ rfl).mono ?_
  rintro e w' ⟨rfl, hB⟩
  exact ⟨_, rfl, hB, hk.crash h.nodup hs keep _ _ _⟩
end
set_option maxRecDepth 100000 in
set_option maxHeartbeats 16000000 in
theorem apart_calls {A C : Option Addr} {n c N c2 : Nat} {xs : List Int} {ops : List OpD} (w : World) (hb : Bytes w A n xs ∧ n ≤ c ∧ c ≤ maxLen) (hn : Recs encOp 6 d0Op w C N ops ∧ (∀ x ∈ ops, okOp w x) ∧ N ≤ c2 ∧ c2 ≤ maxLen) :
    Calls Try.prog 28 #[.slice A n c, .slice C N c2] w fun e w' => e = .returned (.bool true) ∧ Below w.heap.size w w' := by
  have HA := hideIt (anchor12 w)
  obtain ⟨hb, hb1, hb2⟩ := hb
  obtain ⟨hn, hok, hn1, hn2⟩ := hn
  have HB := hideIt hb
  have HN := hideIt hn
  have HLEN := hideIt hn.len
  have HOK := hideIt hok
  have HC := hideIt (And.intro hb1 hb2)
  have k1 : okS nKeep := okS_of (by decide)
  clear hb hn hok hb1 hb2 hn1 hn2
  by_cases q1 : 500 < n
  · go_enter Try.func28, Try.ntmps28
    go_wp2_with (go_at_call 83; refine HA.out.mono ?_; rintro e w1 ⟨rfl, c1⟩)
    go_ret
    exact ⟨rfl, c1.none_below⟩
  by_cases q2 : 60 < N
  · go_enter Try.func28, Try.ntmps28
    go_wp2_with (go_at_call 83; refine HA.out.mono ?_; rintro e w1 ⟨rfl, c1⟩)
    go_ret
    exact ⟨rfl, c1.none_below⟩
  go_enter Try.func28, Try.ntmps28
  go_wp2_with fail
  refine HA.out.mono ?_
  rintro e w1 ⟨rfl, ch1⟩
  go_wp2_with fail
  refine (diskNewB (w0 := w) 65536 (by omega) (by omega) ch1).mono ?_
  rintro e w2 ⟨d, m, rfl, b2⟩
  go_wp2_with fail
  have g1 := wr_gen (L := []) (r := 65536) (l := -1) (x := nKeep) (n := n) (l' := -1) (b := false) rfl named_keep (by show ((0 : Nat) : Int) + n ≤ 65536; omega)
  refine (b2.write nKeep k1 (HB.out.new b2.chg) (by omega) HC.out.1 HC.out.2 0 g1.1).mono ?_
  rintro e w3 ⟨⟨A1, m1, d1, sf1, xs1⟩, hn1, hxs1, hs1, rfl, b3⟩
  simp only at hn1 hxs1 hs1
  subst hn1 hxs1 hs1
  rw [g1.2 _ rfl] at b3
  have e1 : aput ([] : Files) nKeep ⟨A1, m1, d1, false, xs1⟩ = [(nKeep, ⟨A1, m1, d1, false, xs1⟩)] := rfl
  rw [e1] at b3
  clear b2 e1 g1
  go_wp2_with fail
  refine (b3.sync (s' := ⟨[(nKeep, ⟨A1, m1, d1, true, xs1⟩)], 65536, -1, false⟩) nKeep k1 0 (sync_gen (f := ⟨A1, m1, d1, false, xs1⟩) (l' := -1) (b := false) rfl rfl)).mono ?_
  rintro e w4 ⟨rfl, b4⟩
  clear b3
  go_wp2_with fail
  go_loopw [36] (fun i wr => ∃ (k : Nat) (s : DSt), k ≤ N ∧ i = .int .i64 k ∧ DiskB w wr d m s ∧ Hid (KP ⟨A1, m1, d1, true, xs1⟩ (k + 1) s)) (fun i _ => N - (intOf i).toNat)
  case atStart => exact ⟨0, _, Nat.zero_le _, rfl, b4, hideIt ⟨rfl, Nat.le_refl _⟩⟩
  case round =>
    clear b4
    obtain ⟨k, s, hk, rfl, b5, hkp⟩ := hrel
    by_cases hlt : k < N
    · obtain ⟨p, off, rfl, hpb, _⟩ := HN.out.at_ (by omega)
      have hload := (HN.out.chg b5.chg (fun _ _ _ _ h => h)).load (P := Try.prog) hlt 108 infoOp aggOp (fun _ => rfl)
      have hoka := HOK.out _ (getD_mem' (d := d0Op) (by rw [HLEN.out]; exact hlt))
      obtain ⟨o, hT⟩ : ∃ o, ops.getD k d0Op = o := ⟨_, rfl⟩
      rw [hT] at hload hoka
      obtain ⟨ok, nm, to_, OA, oan, oac, on, OB, obn, obc⟩ := o
      have HOP := hideIt hoka
      have hl2 : (encOp ⟨ok, nm, to_, OA, oan, oac, on, OB, obn, obc⟩).toArray = #[.int .i64 ok, encStr nm, encStr to_, .slice OA oan oac, .int .i64 on, .slice OB obn obc] := rfl
      rw [hl2] at hload
      clear hT hl2 hoka hpb
      obtain ⟨w6, s2, t2, k2, z2⟩ := keep_rec (P := Try.prog) wr infoOp (cs := #[.int .i64 0, .string ⟨#[]⟩, .string ⟨#[]⟩, .slice none 0 0, .int .i64 0, .slice none 0 0]) (cs' := #[.int .i64 ok, encStr nm, encStr to_, .slice OA oan oac, .int .i64 on, .slice OB obn obc]) rfl rfl (by intro v hv; simp at hv; rcases hv with rfl | rfl | rfl | rfl | rfl | rfl <;> rfl)
      have e0 : w6.cell? ⟨wr.heap.size, 0, none⟩ = some (.int .i64 ok) := t2.cell 0
      have e1 : w6.cell? ⟨wr.heap.size, 1, none⟩ = some (encStr nm) := t2.cell 1
      have e2 : w6.cell? ⟨wr.heap.size, 2, none⟩ = some (encStr to_) := t2.cell 2
      have e3 : w6.cell? ⟨wr.heap.size, 3, none⟩ = some (.slice OA oan oac) := t2.cell 3
      have e4 : w6.cell? ⟨wr.heap.size, 4, none⟩ = some (.int .i64 on) := t2.cell 4
      have e5 : w6.cell? ⟨wr.heap.size, 5, none⟩ = some (.slice OB obn obc) := t2.cell 5
      have B6 := hideIt (b5.new k2)
      clear t2 k2 z2 b5
      by_cases g0 : 500 < oan
      · go_wp2_with (first | (refine wpList_loadv _ rfl 108 _ rfl rfl hload ?_) | (refine wpList_allocv _ rfl 108 rfl (zeroOp _) ?_) | (refine wpList_storev _ rfl 108 _ _ rfl rfl rfl s2 ?_))
        go_ret
        exact ⟨rfl, B6.out.chg.none_below⟩
      by_cases g1 : 50 < obn
      · go_wp2_with (first | (refine wpList_loadv _ rfl 108 _ rfl rfl hload ?_) | (refine wpList_allocv _ rfl 108 rfl (zeroOp _) ?_) | (refine wpList_storev _ rfl 108 _ _ rfl rfl rfl s2 ?_))
        go_ret
        exact ⟨rfl, B6.out.chg.none_below⟩
      by_cases g2 : 100 < nm.length
      · have dg2 : decide (100 < (nm.length : Int)) = true := by simp; omega
        clear g2
        go_wp2_with (first | (refine wpList_loadv _ rfl 108 _ rfl rfl hload ?_) | (refine wpList_allocv _ rfl 108 rfl (zeroOp _) ?_) | (refine wpList_storev _ rfl 108 _ _ rfl rfl rfl s2 ?_))
        go_ret
        exact ⟨rfl, B6.out.chg.none_below⟩
      have dg2 : decide (100 < (nm.length : Int)) = false := by simp; omega
      clear g2
      by_cases g3 : 100 < to_.length
      · have dg3 : decide (100 < (to_.length : Int)) = true := by simp; omega
        clear g3
        go_wp2_with (first | (refine wpList_loadv _ rfl 108 _ rfl rfl hload ?_) | (refine wpList_allocv _ rfl 108 rfl (zeroOp _) ?_) | (refine wpList_storev _ rfl 108 _ _ rfl rfl rfl s2 ?_))
        go_ret
        exact ⟨rfl, B6.out.chg.none_below⟩
      have dg3 : decide (100 < (to_.length : Int)) = false := by simp; omega
      clear g3
      by_cases j1 : nm = nKeep
      · as_aux_lemma =>
          have dj1 : (nm == [107, 101, 101, 112]) = true := by simpa using j1
          clear j1
          have KP7 := hideIt (hkp.out.same (s' := s) rfl)
          have B7 := B6
          go_wp2_with (first | (refine wpList_loadv _ rfl 108 _ rfl rfl hload ?_) | (refine wpList_allocv _ rfl 108 rfl (zeroOp _) ?_) | (refine wpList_storev _ rfl 108 _ _ rfl rfl rfl s2 ?_))
          go_roundw
          case rel => exact ⟨k + 1, _, by omega, by go_num, B7.out, KP7⟩
          case measure => simp [intOf]; omega
      have dj1 : (nm == [107, 101, 101, 112]) = false := by simpa using j1
      by_cases j2 : to_ = nKeep
      · as_aux_lemma =>
          have dj2 : (to_ == [107, 101, 101, 112]) = true := by simpa using j2
          clear j1 j2
          have KP7 := hideIt (hkp.out.same (s' := s) rfl)
          have B7 := B6
          go_wp2_with (first | (refine wpList_loadv _ rfl 108 _ rfl rfl hload ?_) | (refine wpList_allocv _ rfl 108 rfl (zeroOp _) ?_) | (refine wpList_storev _ rfl 108 _ _ rfl rfl rfl s2 ?_))
          go_roundw
          case rel => exact ⟨k + 1, _, by omega, by go_num, B7.out, KP7⟩
          case measure => simp [intOf]; omega
      have dj2 : (to_ == [107, 101, 101, 112]) = false := by simpa using j2
      have J1 := hideIt j1
      have J2 := hideIt j2
      clear j1 j2
      obtain ⟨ys, hys⟩ := HOP.out.data
      obtain ⟨zs, hzs⟩ := HOP.out.keep
      have HYS := hideIt hys
      have HZS := hideIt hzs
      clear hys hzs
      by_cases x1 : ok = 1
      · as_aux_lemma =>
          have dx1 : (ok == 1) = true := by simpa using x1
          clear x1
          go_wp2_with (first
            | (refine wpList_loadv _ rfl 108 _ rfl rfl hload ?_) | (refine wpList_allocv _ rfl 108 rfl (zeroOp _) ?_) | (refine wpList_storev _ rfl 108 _ _ rfl rfl rfl s2 ?_)
            | (go_at_call 85; refine (B6.out.writeX hkp.out J1.out HOP.out.nm (HYS.out.new B6.out.chg) (by omega) HOP.out.dn HOP.out.dc).mono ?_; rintro e w7 ⟨r7, s7, rfl, b7, kp7⟩; have B7 := hideIt b7; have KP7 := hideIt kp7; clear b7 kp7))
          go_roundw
          case rel => exact ⟨k + 1, _, by omega, by go_num, B7.out, KP7⟩
          case measure => simp [intOf]; omega
      have dx1 : (ok == 1) = false := by simpa using x1
      by_cases x2 : ok = 2
      · as_aux_lemma =>
          have dx2 : (ok == 2) = true := by simpa using x2
          clear x1 x2
          go_wp2_with (first
            | (refine wpList_loadv _ rfl 108 _ rfl rfl hload ?_) | (refine wpList_allocv _ rfl 108 rfl (zeroOp _) ?_) | (refine wpList_storev _ rfl 108 _ _ rfl rfl rfl s2 ?_)
            | (go_at_call 86; refine (B6.out.syncX hkp.out J1.out HOP.out.nm).mono ?_; rintro e w7 ⟨r7, s7, rfl, b7, kp7⟩; have B7 := hideIt b7; have KP7 := hideIt kp7; clear b7 kp7))
          go_roundw
          case rel => exact ⟨k + 1, _, by omega, by go_num, B7.out, KP7⟩
          case measure => simp [intOf]; omega
      have dx2 : (ok == 2) = false := by simpa using x2
      by_cases x3 : ok = 3
      · as_aux_lemma =>
          have dx3 : (ok == 3) = true := by simpa using x3
          clear x1 x2 x3
          go_wp2_with (first
            | (refine wpList_loadv _ rfl 108 _ rfl rfl hload ?_) | (refine wpList_allocv _ rfl 108 rfl (zeroOp _) ?_) | (refine wpList_storev _ rfl 108 _ _ rfl rfl rfl s2 ?_)
            | (go_at_call 88; refine (B6.out.renameX hkp.out J1.out J2.out HOP.out.nm HOP.out.to_).mono ?_; rintro e w7 ⟨r7, s7, rfl, b7, kp7⟩; have B7 := hideIt b7; have KP7 := hideIt kp7; clear b7 kp7))
          go_roundw
          case rel => exact ⟨k + 1, _, by omega, by go_num, B7.out, KP7⟩
          case measure => simp [intOf]; omega
      have dx3 : (ok == 3) = false := by simpa using x3
      by_cases x5 : ok = 5
      · as_aux_lemma =>
          have dx5 : (ok == 5) = true := by simpa using x5
          clear x1 x2 x3 x5
          go_wp2_with (first
            | (refine wpList_loadv _ rfl 108 _ rfl rfl hload ?_) | (refine wpList_allocv _ rfl 108 rfl (zeroOp _) ?_) | (refine wpList_storev _ rfl 108 _ _ rfl rfl rfl s2 ?_)
            | (go_at_call 87; refine (B6.out.armX hkp.out on HOP.out.n).mono ?_; rintro e w7 ⟨s7, rfl, b7, kp7⟩; have B7 := hideIt b7; have KP7 := hideIt kp7; clear b7 kp7))
          go_roundw
          case rel => exact ⟨k + 1, _, by omega, by go_num, B7.out, KP7⟩
          case measure => simp [intOf]; omega
      have dx5 : (ok == 5) = false := by simpa using x5
      by_cases x6 : ok = 6
      · as_aux_lemma =>
          have dx6 : (ok == 6) = true := by simpa using x6
          clear x1 x2 x3 x5 x6
          go_wp2_with (first
            | (refine wpList_loadv _ rfl 108 _ rfl rfl hload ?_) | (refine wpList_allocv _ rfl 108 rfl (zeroOp _) ?_) | (refine wpList_storev _ rfl 108 _ _ rfl rfl rfl s2 ?_)
            | (go_at_call 89; refine (B6.out.crashX hkp.out rfl HZS.out (by omega) (by omega)).mono ?_; rintro e w7 ⟨s7, rfl, b7, kp7⟩; have B7 := hideIt b7; have KP7 := hideIt kp7; clear b7 kp7))
          go_roundw
          case rel => exact ⟨k + 1, _, by omega, by go_num, B7.out, KP7⟩
          case measure => simp [intOf]; omega
      have dx6 : (ok == 6) = false := by simpa using x6
      clear x1 x2 x3 x5 x6
      as_aux_lemma =>
        have KP7 := hideIt (hkp.out.same (s' := s) rfl)
        have B7 := B6
        go_wp2_with (first | (refine wpList_loadv _ rfl 108 _ rfl rfl hload ?_) | (refine wpList_allocv _ rfl 108 rfl (zeroOp _) ?_) | (refine wpList_storev _ rfl 108 _ _ rfl rfl rfl s2 ?_))
        go_roundw
        case rel => exact ⟨k + 1, _, by omega, by go_num, B7.out, KP7⟩
        case measure => simp [intOf]; omega
    · obtain rfl : k = N := by omega
      go_wp2_with fail
      have hnd := b5.nodup
      have hsf := hkp.out.crash hnd rfl [] s.room (-1) false
      refine (b5.crash (Ints.nil wr) (by omega) (Nat.le_trans hkp.out.2 (by omega)) (fun h => absurd h (by omega)) _ rfl).mono ?_
      rintro e w6 ⟨rfl, b6⟩
      go_wp2_with fail
      refine (b6.read nKeep k1 ⟨A1, m1, d1, true, xs1⟩ rfl hsf.1).mono ?_
      rintro e w7 ⟨A7, c7, rfl, y7, -, -, b7, -⟩
      have hs1 := fun c => Bytes.toStr (c := c) y7
      have hs2 := Bytes.toStr (c := c) (HB.out.new b7.chg)
      have hbq := beq_bytes (strOfNums xs1)
      simp only at hs1
      have HSF := hideIt (b7.safe nKeep k1 true (by unfold safeB; rw [hsf.1]))
      clear hsf b6 hnd
      go_wp2_with (first
        | (go_at_call 91; refine HSF.out.mono ?_; rintro e w8 ⟨rfl, rfl⟩))
      go_ret
      exact ⟨rfl, b7.chg.none_below⟩
end Go.Proofs.Ytgmekeeemimnpaa
