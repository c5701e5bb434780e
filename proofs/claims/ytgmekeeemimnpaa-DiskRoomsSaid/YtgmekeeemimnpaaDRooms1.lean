/- DiskRooms: a disk that is never armed, its variable beside it; how many bytes its files have, walked. -/
import Derived.Test.YtgmekeeemimnpaaDOp
namespace Go.Proofs.Ytgmekeeemimnpaa
open Go Go.Maps Go.MapKept Go.RowKit Go.Sort

/-- A disk of a law's, never armed, and the variable that points to it. -/
structure RB (w0 w : World) (gd d m : Nat) (room : Int) (s : DSt) : Prop where
  b : DiskB w0 w d m s
  var_ : Blk w gd 96 #[.pointer (some ⟨d, 0, none⟩)]
  gd1 : gd ≠ d
  gd2 : gd ≠ m
  left_ : s.left = -1
  down_ : s.down = false
  room_ : s.room = room
section
variable {w0 w w' : World} {gd d m : Nat} {room : Int} {s s' : DSt} {x y : Str}
theorem RB.new (h : RB w0 w gd d m room s) (hc : Chg (fun _ => False) w w') : RB w0 w' gd d m room s := ⟨h.b.new hc, h.var_.chg hc (fun h => h), h.gd1, h.gd2, h.left_, h.down_, h.room_⟩
theorem RB.own (h : RB w0 w gd d m room s) (ha : DiskAt w' d m s') (hok : DOk s') (hc : Chg (fun i => i = d ∨ i = m) w w') (h1 : s'.left = -1) (h2 : s'.down = false) (h3 : s'.room = room) : RB w0 w' gd d m room s' :=
  ⟨h.b.own ha hok hc, h.var_.chg hc (fun e => by rcases e with e | e; exact h.gd1 e; exact h.gd2 e), h.gd1, h.gd2, h1, h2, h3⟩
theorem RB.tot (h : RB w0 w gd d m room s) : (total s.L : Int) ≤ room ∧ room ≤ 65536 := by
  rw [← h.room_]
  exact ⟨h.b.ok.tot, h.b.ok.room1⟩
theorem RB.eta (h : RB w0 w gd d m room s) : s = ⟨s.L, room, -1, false⟩ := by
  obtain ⟨L, r, l, dn⟩ := s
  have h1 : l = -1 := h.left_
  have h2 : dn = false := h.down_
  have h3 : r = room := h.room_
  subst h1 h2 h3
  rfl
/-- Write: it comes to 0, or the disk is as it was. -/
def RWr (w0 w : World) (gd d m : Nat) (room : Int) (s : DSt) (e : Ending) (w' : World) : Prop :=
  ∃ r s', e = .returned (.int .i64 r) ∧ RB w0 w' gd d m room s' ∧ s'.L.length ≤ s.L.length + 1 ∧ (r = 0 ∨ r ≠ 0 ∧ total s'.L = total s.L) ∧ Chg (fun i => i = d ∨ i = m) w w'
theorem RB.write {A : Option Addr} {n c : Nat} {xs : List Int} (h : RB w0 w gd d m room s) (hx : okS x) (hb : Bytes w A n xs) (hn : n ≤ 1000000) (hnc : n ≤ c) (hcm : c ≤ maxLen) :
    Calls Try.prog 85 #[.pointer (some ⟨d, 0, none⟩), encStr x, .slice A n c] w (RWr w0 w gd d m room s) := by
  have he := h.eta
  refine (write_calls x w h.b.at_ h.b.ok hx hb hn hnc hcm).mono ?_
  rintro e w' ⟨f, hf, _, _, rfl, hat, hc⟩
  have hok := h.b.ok.wr h.b.nodup x f
  rw [he] at hat hok ⊢
  by_cases hnb : namedB x = true
  · by_cases hr : (total (adel s.L x) : Int) + n ≤ room
    · have hg := wr_gen (L := s.L) (r := room) (l := -1) (x := x) (n := n) (l' := -1) (b := false) rfl hnb hr
      rw [hg.2 f hf] at hat hok
      refine ⟨_, _, rfl, h.own hat hok hc rfl rfl rfl, length_aput_le _ _ _, .inl ?_, hc⟩
      rw [hg.1]; rfl
    · have e1 : wrD ⟨s.L, room, -1, false⟩ x f = ⟨s.L, room, -1, false⟩ := by unfold wrD; simp only [Bool.false_eq_true, if_false, hnb, if_true]; rw [if_pos (by omega)]
      have e2 : wrE ⟨s.L, room, -1, false⟩ x n = 51 := by unfold wrE; simp only [Bool.false_eq_true, if_false, hnb, if_true]; rw [if_pos (by omega)]
      rw [e1] at hat hok
      exact ⟨_, _, rfl, h.own hat hok hc rfl rfl rfl, Nat.le_succ _, .inr ⟨by rw [e2]; decide, rfl⟩, hc⟩
  · have hnb' : namedB x = false := by simpa using hnb
    have e1 : wrD ⟨s.L, room, -1, false⟩ x f = ⟨s.L, room, -1, false⟩ := by unfold wrD; simp only [Bool.false_eq_true, if_false, hnb']
    have e2 : wrE ⟨s.L, room, -1, false⟩ x n = 52 := by unfold wrE; simp only [Bool.false_eq_true, if_false, hnb']
    rw [e1] at hat hok
    exact ⟨_, _, rfl, h.own hat hok hc rfl rfl rfl, Nat.le_succ _, .inr ⟨by rw [e2]; decide, rfl⟩, hc⟩
/-- Sync, Rename: there are no more bytes. -/
def RLe (w0 w : World) (gd d m : Nat) (room : Int) (s : DSt) (e : Ending) (w' : World) : Prop :=
  ∃ r s', e = .returned (.int .i64 r) ∧ RB w0 w' gd d m room s' ∧ s'.L.length ≤ s.L.length + 1 ∧ total s'.L ≤ total s.L ∧ Chg (fun i => i = d ∨ i = m) w w'
theorem RB.sync (h : RB w0 w gd d m room s) (hx : okS x) : Calls Try.prog 86 #[.pointer (some ⟨d, 0, none⟩), encStr x] w (RLe w0 w gd d m room s) := by
  have he := h.eta
  have hnd := h.b.nodup
  refine (sync_calls x w h.b.at_ h.b.ok hx).mono ?_
  rintro e w' ⟨rfl, hat, hc⟩
  have hok := h.b.ok.sync hnd x
  rw [he] at hat hok ⊢
  cases ha : aget s.L x with
  | none =>
    have e1 : syncS ⟨s.L, room, -1, false⟩ x = (52, ⟨s.L, room, -1, false⟩) := by unfold syncS; simp only [Bool.false_eq_true, if_false, ha]
    rw [e1] at hat hok ⊢
    exact ⟨_, _, rfl, h.own hat hok hc rfl rfl rfl, Nat.le_succ _, Nat.le_refl _, hc⟩
  | some f =>
    have e1 := sync_gen (r := room) (l := -1) (l' := -1) (b := false) rfl ha
    rw [e1] at hat hok ⊢
    refine ⟨_, _, rfl, h.own hat hok hc rfl rfl rfl, length_aput_le _ _ _, ?_, hc⟩
    show total (aput s.L x _) ≤ total s.L
    rw [total_aput hnd]
    have := total_same hnd ha
    show total (adel s.L x) + f.n ≤ _
    omega
theorem RB.rename (h : RB w0 w gd d m room s) (hx : okS x) (hy : okS y) : Calls Try.prog 88 #[.pointer (some ⟨d, 0, none⟩), encStr x, encStr y] w (RLe w0 w gd d m room s) := by
  have he := h.eta
  have hnd := h.b.nodup
  refine (rename_calls x y w h.b.at_ h.b.ok hx hy).mono ?_
  rintro e w' ⟨rfl, hat, hc⟩
  have hok := h.b.ok.ren hnd x y
  rw [he] at hat hok ⊢
  cases ha : aget s.L x with
  | none =>
    have e1 : renS ⟨s.L, room, -1, false⟩ x y = (52, ⟨s.L, room, -1, false⟩) := by unfold renS; simp only [Bool.false_eq_true, if_false, ha]
    rw [e1] at hat hok ⊢
    exact ⟨_, _, rfl, h.own hat hok hc rfl rfl rfl, Nat.le_succ _, Nat.le_refl _, hc⟩
  | some f =>
    cases hn : namedB y with
    | false =>
      have e1 : renS ⟨s.L, room, -1, false⟩ x y = (52, ⟨s.L, room, -1, false⟩) := by unfold renS; simp only [Bool.false_eq_true, if_false, ha, hn]
      rw [e1] at hat hok ⊢
      exact ⟨_, _, rfl, h.own hat hok hc rfl rfl rfl, Nat.le_succ _, Nat.le_refl _, hc⟩
    | true =>
      have e1 := ren_gen (r := room) (l := -1) (l' := -1) (b := false) rfl ha hn
      rw [e1] at hat hok ⊢
      refine ⟨_, _, rfl, h.own hat hok hc rfl rfl rfl, Nat.le_trans (length_aput_le _ _ _) (Nat.succ_le_succ (List.length_filter_le _ _)), ?_, hc⟩
      show total (aput (adel s.L x) y f) ≤ total s.L
      rw [total_aput (nodup_adel hnd x)]
      have := total_same hnd ha
      have := total_adel_le (adel s.L x) y
      omega
/-- The bytes of some names' files. -/
def nOf (L : Files) (x : Str) : Nat := match aget L x with
  | some f => f.n
  | none => 0
theorem sum_nOf (L : Files) (hn : keysNodup L) : ((L.map (·.1)).map (nOf L)).sum = total L := by
  unfold total
  rw [List.map_map]
  congr 1
  refine List.map_congr_left fun p hp => ?_
  obtain ⟨a, f⟩ := p
  show nOf L a = f.n
  unfold nOf
  rw [aget_of_mem hn hp]
set_option maxRecDepth 100000 in
set_option maxHeartbeats 4000000 in
theorem size_calls (w : World) (h : RB w0 w gd d m room s) (hL : s.L.length ≤ 1000000) : Calls Try.prog 92 #[.pointer (some ⟨gd, 0, none⟩)] w fun e w' => e = .returned (.int .i64 (total s.L : Int)) ∧ Chg (fun _ => False) w w' := by
  have HN := hideIt (h.b.names h.down_ hL)
  have H0 := hideIt h
  have c0 : w.cell? ⟨gd, 0, none⟩ = some (.pointer (some ⟨d, 0, none⟩)) := h.var_.cell 0
  have ht := h.tot
  have HT := hideIt (show total s.L ≤ 65536 by omega)
  have HS := hideIt (show ((sortS (s.L.map (·.1))).map (nOf s.L)).sum = total s.L by
    rw [← sum_nOf s.L h.b.nodup]
    exact ((sortS_perm _).map _).sum_nat)
  clear h ht
  go_enter Try.func92, Try.ntmps92
  go_wp2_with (go_at_call 93; refine HN.out.mono ?_; rintro e w1 ⟨A, n, c, rfl, hn, r1, -, -, k1⟩; have HR := hideIt r1; have HNN := hideIt hn; have K1 := hideIt k1; have hn1 : n ≤ 1000000 := (by omega); clear r1 hn k1)
  go_loopw [16, 2] (fun i v wr => ∃ (k t : Nat), k ≤ n ∧ i = .int .i64 k ∧ v = .int .i64 t ∧ Hid ((((sortS (s.L.map (·.1))).take k).map (nOf s.L)).sum = t) ∧ Chg (fun _ => False) w1 wr) (fun i _ _ => n - (intOf i).toNat)
  case atStart => exact ⟨0, 0, Nat.zero_le _, rfl, rfl, hideIt rfl, Chg.refl _ _⟩
  case round =>
    obtain ⟨k, t, hk, rfl, rfl, hsum, hch⟩ := hrel
    by_cases hlt : k < n
    · have hkL : k < (sortS (s.L.map (·.1))).length := by rw [sortS_len, List.length_map, ← HNN.out]; exact hlt
      obtain ⟨p, off, rfl, hpb, hcell⟩ := HR.out.at_ (by omega)
      obtain ⟨x, hx⟩ : ∃ x, (sortS (s.L.map (·.1))).getD k [] = x := ⟨_, rfl⟩
      have hxc : wr.cell? ⟨p, off + k, none⟩ = some (encStr x) := by
        have h1 := hcell k hlt 0 (encStr x) (by rw [hx]; rfl)
        have h2 := hch.cell (p := ⟨p, off + (k * 1 + 0), none⟩) hpb (fun h => h)
        have := h2.trans h1
        simpa using this
      have hxm : x ∈ s.L.map (·.1) := (sortS_perm _).mem_iff.1 (by rw [← hx]; exact getD_mem' hkL)
      have hsome : (aget s.L x).isSome = true := aget_isSome_iff.2 hxm
      obtain ⟨f, hf⟩ := Option.isSome_iff_exists.1 hsome
      have hkx : okS x := by
        obtain ⟨q, hq, e⟩ := List.mem_map.1 hxm
        rw [← e]
        exact H0.out.b.at_.map.keyGood q hq
      have hch' := K1.out.trans hch
      have HB := hideIt ((H0.out.new hch').b.read x hkx f H0.out.down_ hf)
      have c1 : wr.cell? ⟨gd, 0, none⟩ = some (.pointer (some ⟨d, 0, none⟩)) := (H0.out.new hch').var_.cell 0
      have hstep : (((sortS (s.L.map (·.1))).take (k + 1)).map (nOf s.L)).sum = t + f.n := by
        rw [take_succ_getD' _ ([] : Str) k hkL, hx, List.map_append, List.sum_append, hsum.out]
        simp [nOf, hf]
      have hle : t + f.n ≤ total s.L := by
        have h1 := HS.out
        conv at h1 => lhs; rw [← List.take_append_drop (k + 1) (sortS (s.L.map (·.1)))]
        rw [List.map_append, List.sum_append, hstep] at h1
        omega
      have hle2 := HT.out
      have hwr : IntKind.i64.wrap ((t : Int) + (f.n : Int)) = (t : Int) + (f.n : Int) := IntWalk.i64_in _ (by omega)
      have HST := hideIt hstep
      obtain ⟨fn, hfn⟩ : ∃ fn, f.n = fn := ⟨_, rfl⟩
      rw [hfn] at HB hwr HST
      have HCH := hideIt hch
      clear hcell hx hxm hsome hkx hstep hle hle2 hf hch hch' hsum hfn
      go_wp2_with (go_at_call 90; refine HB.out.mono ?_; rintro e w2 ⟨A2, c2, rfl, -, -, -, -, k2⟩)
      go_roundw
      case rel => exact ⟨k + 1, t + fn, by omega, by go_num, by simp, HST, HCH.out.trans k2⟩
      case measure => simp [intOf]; omega
    · obtain rfl : k = n := by omega
      have HE := hideIt (show t = total s.L by
        rw [← hsum.out, ← HS.out, List.take_of_length_le (by rw [sortS_len, List.length_map, ← HNN.out]; exact Nat.le_refl _)])
      clear hsum
      go_wp2
      go_ret
      refine ⟨?_, K1.out.trans hch⟩
      rw [← HE.out]
      rfl
end
end Go.Proofs.Ytgmekeeemimnpaa
