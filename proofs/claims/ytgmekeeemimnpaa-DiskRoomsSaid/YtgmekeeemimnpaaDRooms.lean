/- DiskRooms, walked: the files together never have more than the room. -/
import Derived.Test.YtgmekeeemimnpaaDRooms1
namespace Go.Proofs.Ytgmekeeemimnpaa
open Go Go.Maps Go.MapKept Go.RowKit Go.Sort

set_option maxRecDepth 100000 in
set_option maxHeartbeats 16000000 in
theorem rooms_calls {C : Option Addr} {N c2 : Nat} {room : Int} {ops : List OpD} (w : World) (_or : okI room) (hn : Recs encOp 6 d0Op w C N ops ∧ (∀ x ∈ ops, okOp w x) ∧ N ≤ c2 ∧ c2 ≤ maxLen) :
    Calls Try.prog 29 #[.int .i64 room, .slice C N c2] w fun e w' => e = .returned (.bool true) ∧ Below w.heap.size w w' := by
  have HA := hideIt (anchor12 w)
  obtain ⟨hn, hok, hn1, hn2⟩ := hn
  have HN := hideIt hn
  have HLEN := hideIt hn.len
  have HOK := hideIt hok
  clear hn hok hn1 hn2
  by_cases h0 : 0 ≤ room ∧ room ≤ 65536
  · obtain ⟨h01, h02⟩ := h0
    by_cases q2 : 60 < N
    · go_enter Try.func29, Try.ntmps29
      go_wp2_with fail
      refine HA.out.mono ?_
      rintro e w1 ⟨rfl, ch1⟩
      go_wp2_with fail
      refine (diskNewB (w0 := w) room h01 h02 ch1).mono ?_
      rintro e w2 ⟨d, m, rfl, b2⟩
      go_wp2
      go_ret
      exact ⟨rfl, (b2.chg.alloc _).none_below⟩
    go_enter Try.func29, Try.ntmps29
    go_wp2_with fail
    refine HA.out.mono ?_
    rintro e w1 ⟨rfl, ch1⟩
    go_wp2_with fail
    refine (diskNewB (w0 := w) room h01 h02 ch1).mono ?_
    rintro e w2 ⟨d, m, rfl, b2⟩
    have hdl := b2.at_.blk.lt
    have hml := b2.at_.map.lt
    have r2 : RB w (w2.alloc (.cells #[.pointer (some ⟨d, 0, none⟩)] 96)) w2.heap.size d m room ⟨[], room, -1, false⟩ := ⟨b2.new ((Chg.refl _ w2).alloc _), Blk.new w2 _ _, by omega, by omega, rfl, rfl, rfl⟩
    clear b2 hdl hml
    go_wp2_with fail
    obtain ⟨gd, hgd⟩ : ∃ g, w2.heap.size = g := ⟨_, rfl⟩
    rw [hgd] at r2 ⊢
    go_loopw [25] (fun i wr => ∃ (k : Nat) (s : DSt), k ≤ N ∧ i = .int .i64 k ∧ RB w wr gd d m room s ∧ s.L.length ≤ k) (fun i _ => N - (intOf i).toNat)
    case atStart => exact ⟨0, _, Nat.zero_le _, rfl, r2, Nat.le_refl _⟩
    case round =>
      clear r2 hgd
      obtain ⟨k, s, hk, rfl, b5, hsl⟩ := hrel
      by_cases hlt : k < N
      · obtain ⟨p, off, rfl, hpb, _⟩ := HN.out.at_ (by omega)
        have hload := (HN.out.chg b5.b.chg (fun _ _ _ _ h => h)).load (P := Try.prog) hlt 108 infoOp aggOp (fun _ => rfl)
        have hoka := HOK.out _ (getD_mem' (d := d0Op) (by rw [HLEN.out]; exact hlt))
        obtain ⟨o, hT⟩ : ∃ o, ops.getD k d0Op = o := ⟨_, rfl⟩
        rw [hT] at hload hoka
        obtain ⟨ok, nm, to_, OA, oan, oac, on, OB, obn, obc⟩ := o
        have HOP := hideIt hoka
        have hl2 : (encOp ⟨ok, nm, to_, OA, oan, oac, on, OB, obn, obc⟩).toArray = #[.int .i64 ok, encStr nm, encStr to_, .slice OA oan oac, .int .i64 on, .slice OB obn obc] := rfl
        rw [hl2] at hload
        clear hT hl2 hoka hpb
        obtain ⟨w6, s2, t2, k2, z2⟩ := keep_rec (P := Try.prog) wr infoOp (cs := #[.int .i64 0, .string ⟨#[]⟩, .string ⟨#[]⟩, .slice none 0 0, .int .i64 0, .slice none 0 0]) (cs' := #[.int .i64 ok, encStr nm, encStr to_, .slice OA oan oac, .int .i64 on, .slice OB obn obc]) rfl rfl (by intro v hv; simp at hv; rcases hv with rfl | rfl | rfl | rfl | rfl | rfl <;> rfl)
        have e0 : w6.cell? ⟨wr.heap.size, 0, none⟩ = some (.int .i64 ok) := t2.cell 0
        have e1 : w6.cell? ⟨wr.heap.size, 1, none⟩ = some (encStr nm) := t2.cell 1
        have e2 : w6.cell? ⟨wr.heap.size, 2, none⟩ = some (encStr to_) := t2.cell 2
        have e3 : w6.cell? ⟨wr.heap.size, 3, none⟩ = some (.slice OA oan oac) := t2.cell 3
        have e4 : w6.cell? ⟨wr.heap.size, 4, none⟩ = some (.int .i64 on) := t2.cell 4
        have e5 : w6.cell? ⟨wr.heap.size, 5, none⟩ = some (.slice OB obn obc) := t2.cell 5
        have HGR : wr.heap.size ≠ d ∧ wr.heap.size ≠ m := ⟨fun e => by have := b5.b.at_.blk.lt; omega, fun e => by have := b5.b.at_.map.lt; omega⟩
        have T6 := hideIt t2
        have B6 := hideIt (b5.new k2)
        clear t2 k2 z2 b5
        by_cases g0 : 500 < oan
        · go_wp2_with (first | (refine wpList_loadv _ rfl 108 _ rfl rfl hload ?_) | (refine wpList_allocv _ rfl 108 rfl (zeroOp _) ?_) | (refine wpList_storev _ rfl 108 _ _ rfl rfl rfl s2 ?_))
          go_ret
          exact ⟨rfl, B6.out.b.chg.none_below⟩
        by_cases g2 : 100 < nm.length
        · have dg2 : decide (100 < (nm.length : Int)) = true := by simp; omega
          clear g2
          go_wp2_with (first | (refine wpList_loadv _ rfl 108 _ rfl rfl hload ?_) | (refine wpList_allocv _ rfl 108 rfl (zeroOp _) ?_) | (refine wpList_storev _ rfl 108 _ _ rfl rfl rfl s2 ?_))
          go_ret
          exact ⟨rfl, B6.out.b.chg.none_below⟩
        have dg2 : decide (100 < (nm.length : Int)) = false := by simp; omega
        clear g2
        by_cases g3 : 100 < to_.length
        · have dg3 : decide (100 < (to_.length : Int)) = true := by simp; omega
          clear g3
          go_wp2_with (first | (refine wpList_loadv _ rfl 108 _ rfl rfl hload ?_) | (refine wpList_allocv _ rfl 108 rfl (zeroOp _) ?_) | (refine wpList_storev _ rfl 108 _ _ rfl rfl rfl s2 ?_))
          go_ret
          exact ⟨rfl, B6.out.b.chg.none_below⟩
        have dg3 : decide (100 < (to_.length : Int)) = false := by simp; omega
        clear g3
        obtain ⟨ys, hys⟩ := HOP.out.data
        have HYS := hideIt hys
        clear hys
        have ht6 := B6.out.tot
        obtain ⟨t0, ht0⟩ : ∃ t, total s.L = t := ⟨_, rfl⟩
        have HSZ := hideIt (size_calls w6 B6.out (Nat.le_trans hsl (by omega)))
        rw [ht0] at HSZ ht6
        have HT0 := hideIt ht0
        clear ht0
        go_wp2_with (first | (refine wpList_loadv _ rfl 108 _ rfl rfl hload ?_) | (refine wpList_allocv _ rfl 108 rfl (zeroOp _) ?_) | (refine wpList_storev _ rfl 108 _ _ rfl rfl rfl s2 ?_))
        refine HSZ.out.mono ?_
        rintro e w7 ⟨rfl, k7⟩
        have B7 := hideIt (B6.out.new k7)
        have T7 := hideIt (T6.out.chg k7 (fun h => h))
        have f0 : w7.cell? ⟨wr.heap.size, 0, none⟩ = some (.int .i64 ok) := T7.out.cell 0
        have f1 : w7.cell? ⟨wr.heap.size, 1, none⟩ = some (encStr nm) := T7.out.cell 1
        have f2 : w7.cell? ⟨wr.heap.size, 2, none⟩ = some (encStr to_) := T7.out.cell 2
        have f3 : w7.cell? ⟨wr.heap.size, 3, none⟩ = some (.slice OA oan oac) := T7.out.cell 3
        have v7 : w7.cell? ⟨gd, 0, none⟩ = some (.pointer (some ⟨d, 0, none⟩)) := B7.out.var_.cell 0
        have HG : Hid (wr.heap.size ≠ d ∧ wr.heap.size ≠ m) := hideIt HGR
        clear e0 e1 e2 e3 e4 e5 HSZ k7 hload s2 B6 T6 HGR
        by_cases x1 : ok = 1
        · as_aux_lemma =>
            have dx1 : (ok == 1) = true := by simpa using x1
            have dx1' : (ok != 1) = false := by simp [bne, dx1]
            clear x1
            go_wp2_with fail
            refine (B7.out.write HOP.out.nm (HYS.out.new B7.out.b.chg) (by omega) HOP.out.dn HOP.out.dc).mono ?_
            rintro e w8 ⟨r8, s8, rfl, b8, hl8, hr8, k8⟩
            have B8 := hideIt b8
            clear b8
            have T8 := T7.out.chg k8 (fun e => by rcases e with e | e; exact HG.out.1 e; exact HG.out.2 e)
            have ht8 := B8.out.tot
            obtain ⟨t8, ht8'⟩ : ∃ t, total s8.L = t := ⟨_, rfl⟩
            have HSZ : Hid (∀ W, Chg (fun _ => False) w8 W → Calls Try.prog 92 #[.pointer (some ⟨gd, 0, none⟩)] W fun e w' => e = .returned (.int .i64 (t8 : Int)) ∧ Chg (fun _ => False) W w') := hideIt (fun W hW => by rw [← ht8']; exact size_calls W (B8.out.new hW) (by omega))
            rw [ht8'] at ht8 hr8
            have d8 : decide (room < (t8 : Int)) = false := by simp; omega
            have HE8 : Hid (∀ W, Chg (fun _ => False) w8 W → W.cell? ⟨wr.heap.size, 0, none⟩ = some (.int .i64 ok)) := hideIt (fun W hW => (T8.chg hW (fun h => h)).cell 0)
            rw [HT0.out] at hr8
            clear ht8' T8 f0 f1 f2 f3 v7 k8
            rcases hr8 with rfl | ⟨hr0, hr1⟩
            · go_wp2_with fail
              refine (HSZ.out _ (Chg.refl _ _)).mono ?_
              rintro e w9 ⟨rfl, k9⟩
              have h09 := HE8.out _ k9
              go_wp2_with fail
              go_roundw
              case rel => exact ⟨k + 1, _, by omega, by go_num, B8.out.new k9, by omega⟩
              case measure => simp [intOf]; omega
            · have dr : (r8 != 0) = true := by simpa using hr0
              subst hr1
              clear hr0
              go_wp2_with fail
              refine (HSZ.out _ (Chg.refl _ _)).mono ?_
              rintro e w9 ⟨rfl, k9⟩
              go_wp2_with fail
              refine (HSZ.out _ k9).mono ?_
              rintro e w10 ⟨rfl, k10⟩
              have h010 := HE8.out _ (k9.trans k10)
              go_wp2_with fail
              go_roundw
              case rel => exact ⟨k + 1, _, by omega, by go_num, B8.out.new (k9.trans k10), by omega⟩
              case measure => simp [intOf]; omega
        have dx1 : (ok == 1) = false := by simpa using x1
        have dx1' : (ok != 1) = true := by simpa using x1
        by_cases x2 : ok = 2
        · as_aux_lemma =>
            have dx2 : (ok == 2) = true := by simpa using x2
            clear x1 x2
            go_wp2_with fail
            refine (B7.out.sync HOP.out.nm).mono ?_
            rintro e w8 ⟨r8, s8, rfl, b8, hl8, hr8, k8⟩
            have B8 := hideIt b8
            clear b8
            have T8 := T7.out.chg k8 (fun e => by rcases e with e | e; exact HG.out.1 e; exact HG.out.2 e)
            have ht8 := B8.out.tot
            obtain ⟨t8, ht8'⟩ : ∃ t, total s8.L = t := ⟨_, rfl⟩
            have HSZ : Hid (∀ W, Chg (fun _ => False) w8 W → Calls Try.prog 92 #[.pointer (some ⟨gd, 0, none⟩)] W fun e w' => e = .returned (.int .i64 (t8 : Int)) ∧ Chg (fun _ => False) W w') := hideIt (fun W hW => by rw [← ht8']; exact size_calls W (B8.out.new hW) (by omega))
            rw [ht8'] at ht8 hr8
            have d8 : decide (room < (t8 : Int)) = false := by simp; omega
            have HE8 : Hid (∀ W, Chg (fun _ => False) w8 W → W.cell? ⟨wr.heap.size, 0, none⟩ = some (.int .i64 ok)) := hideIt (fun W hW => (T8.chg hW (fun h => h)).cell 0)
            rw [HT0.out] at hr8
            have d9 : decide ((t0 : Int) < (t8 : Int)) = false := by simp; omega
            clear ht8' T8 f0 f1 f2 f3 v7 k8
            go_wp2_with fail
            refine (HSZ.out _ (Chg.refl _ _)).mono ?_
            rintro e w9 ⟨rfl, k9⟩
            have h09 := HE8.out _ k9
            go_wp2_with fail
            refine (HSZ.out _ k9).mono ?_
            rintro e w10 ⟨rfl, k10⟩
            go_wp2_with fail
            go_roundw
            case rel => exact ⟨k + 1, _, by omega, by go_num, B8.out.new (k9.trans k10), by omega⟩
            case measure => simp [intOf]; omega
        have dx2 : (ok == 2) = false := by simpa using x2
        by_cases x3 : ok = 3
        · as_aux_lemma =>
            have dx3 : (ok == 3) = true := by simpa using x3
            clear x1 x2 x3
            go_wp2_with fail
            refine (B7.out.rename HOP.out.nm HOP.out.to_).mono ?_
            rintro e w8 ⟨r8, s8, rfl, b8, hl8, hr8, k8⟩
            have B8 := hideIt b8
            clear b8
            have T8 := T7.out.chg k8 (fun e => by rcases e with e | e; exact HG.out.1 e; exact HG.out.2 e)
            have ht8 := B8.out.tot
            obtain ⟨t8, ht8'⟩ : ∃ t, total s8.L = t := ⟨_, rfl⟩
            have HSZ : Hid (∀ W, Chg (fun _ => False) w8 W → Calls Try.prog 92 #[.pointer (some ⟨gd, 0, none⟩)] W fun e w' => e = .returned (.int .i64 (t8 : Int)) ∧ Chg (fun _ => False) W w') := hideIt (fun W hW => by rw [← ht8']; exact size_calls W (B8.out.new hW) (by omega))
            rw [ht8'] at ht8 hr8
            have d8 : decide (room < (t8 : Int)) = false := by simp; omega
            have HE8 : Hid (∀ W, Chg (fun _ => False) w8 W → W.cell? ⟨wr.heap.size, 0, none⟩ = some (.int .i64 ok)) := hideIt (fun W hW => (T8.chg hW (fun h => h)).cell 0)
            rw [HT0.out] at hr8
            have d9 : decide ((t0 : Int) < (t8 : Int)) = false := by simp; omega
            clear ht8' T8 f0 f1 f2 f3 v7 k8
            go_wp2_with fail
            refine (HSZ.out _ (Chg.refl _ _)).mono ?_
            rintro e w9 ⟨rfl, k9⟩
            have h09 := HE8.out _ k9
            go_wp2_with fail
            refine (HSZ.out _ k9).mono ?_
            rintro e w10 ⟨rfl, k10⟩
            go_wp2_with fail
            go_roundw
            case rel => exact ⟨k + 1, _, by omega, by go_num, B8.out.new (k9.trans k10), by omega⟩
            case measure => simp [intOf]; omega
        have dx3 : (ok == 3) = false := by simpa using x3
        clear x1 x2 x3
        as_aux_lemma =>
          have HSZ : Hid (∀ W, Chg (fun _ => False) w7 W → Calls Try.prog 92 #[.pointer (some ⟨gd, 0, none⟩)] W fun e w' => e = .returned (.int .i64 (t0 : Int)) ∧ Chg (fun _ => False) W w') := hideIt (fun W hW => by rw [← HT0.out]; exact size_calls W (B7.out.new hW) (by omega))
          have HE8 : Hid (∀ W, Chg (fun _ => False) w7 W → W.cell? ⟨wr.heap.size, 0, none⟩ = some (.int .i64 ok)) := hideIt (fun W hW => (T7.out.chg hW (fun h => h)).cell 0)
          have d8 : decide (room < (t0 : Int)) = false := by simp; omega
          have B8 := B7
          go_wp2_with fail
          refine (HSZ.out _ (Chg.refl _ _)).mono ?_
          rintro e w9 ⟨rfl, k9⟩
          have h09 := HE8.out _ k9
          go_wp2_with fail
          refine (HSZ.out _ k9).mono ?_
          rintro e w10 ⟨rfl, k10⟩
          go_wp2_with fail
          go_roundw
          case rel => exact ⟨k + 1, _, by omega, by go_num, B8.out.new (k9.trans k10), by omega⟩
          case measure => simp [intOf]; omega
      · obtain rfl : k = N := by omega
        go_wp2
        go_ret
        exact ⟨rfl, b5.b.chg.none_below⟩
  · have HN0 := hideIt (fun W => diskNew_no room W h0)
    clear h0
    go_enter Try.func29, Try.ntmps29
    go_wp2_with (first
      | (go_at_call 83; refine HA.out.mono ?_; rintro e w1 ⟨rfl, c1⟩)
      | (go_at_call 84; refine (HN0.out _).mono ?_; rintro e w2 ⟨rfl, rfl⟩))
    go_ret
    exact ⟨rfl, (c1.alloc _).none_below⟩
end Go.Proofs.Ytgmekeeemimnpaa
