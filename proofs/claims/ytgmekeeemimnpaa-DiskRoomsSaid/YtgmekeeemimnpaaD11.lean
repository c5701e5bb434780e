/- The anchor of layer 12's statements, walked. -/
import Derived.Test.YtgmekeeemimnpaaD10
import Derived.Lib.SlBytesConst
namespace Go.Proofs.Ytgmekeeemimnpaa
open Go Go.Maps Go.MapKept Go.RowKit Go.Sort

abbrev nNew : Str := [110, 101, 119]
abbrev nConf : Str := [99, 111, 110, 102]
theorem named_new : namedB nNew = true := by decide
theorem named_conf : namedB nConf = true := by decide
theorem okS_of {l : Str} (h : l.length ≤ 1000) : okS l := by unfold okS maxLen; omega
theorem bytes3 (w : World) (a b c : Int) (mk : Nat × Nat) : Bytes (w.alloc (.cells #[.int .u8 a, .int .u8 b, .int .u8 c] 5 mk)) (some ⟨w.heap.size, 0, none⟩) 3 [a, b, c] :=
  ⟨rfl, fun _ => ⟨w.heap.size, 0, rfl, by simp, fun i hi j v hv => by
    have h : (w.alloc (.cells #[.int .u8 a, .int .u8 b, .int .u8 c] 5 mk)).cell? ⟨w.heap.size, i * 1 + j, none⟩ = (#[.int .u8 a, .int .u8 b, .int .u8 c] : Array Value)[i * 1 + j]? := by
      have h0 : (w.alloc (.cells #[.int .u8 a, .int .u8 b, .int .u8 c] 5 mk)).heap[w.heap.size]? = some (.cells #[.int .u8 a, .int .u8 b, .int .u8 c] 5 mk) := (heap_alloc w _).1
      simp only [World.cell?]
      rw [h0]
      rfl
    rw [Nat.zero_add, h]
    have hj : j = 0 := by
      rcases j with _ | j
      · rfl
      · simp [encU] at hv
    subst hj
    rcases i with _ | _ | _ | i
    · simpa [encU] using hv
    · simpa [encU] using hv
    · simpa [encU] using hv
    · omega⟩⟩
section
variable {s : DSt} {x y : Str} {f : FileG}
/-- Where it isn't armed, and is not down. -/
theorem stepS_free (h : s.left < 0) : stepS s = s := by unfold stepS; rw [if_neg (by omega), if_neg (by omega)]
theorem wrD_free (hd : s.down = false) (hl : s.left < 0) (hn : namedB x = true) (hr : (total (adel s.L x) : Int) + f.n ≤ s.room) : wrD s x f = { s with L := aput s.L x f } := by
  obtain ⟨L, room, left, down⟩ := s
  simp only at hd hl hr
  subst hd
  unfold wrD putS
  simp only [Bool.false_eq_true, if_false, hn, if_true]
  rw [if_neg (by omega), stepS_free hl]
theorem wrE_free {n : Nat} (hd : s.down = false) (hl : s.left < 0) (hn : namedB x = true) (hr : (total (adel s.L x) : Int) + n ≤ s.room) : wrE s x n = 0 := by
  obtain ⟨L, room, left, down⟩ := s
  simp only at hd hl hr
  subst hd
  unfold wrE
  rw [stepS_free hl]
  simp only [Bool.false_eq_true, if_false, hn, if_true]
  rw [if_neg (by omega)]
theorem syncS_free (hd : s.down = false) (hl : s.left < 0) (ha : aget s.L x = some f) : syncS s x = (0, { s with L := aput s.L x { f with safe := true } }) := by
  obtain ⟨L, room, left, down⟩ := s
  simp only at hd hl ha
  subst hd
  unfold syncS
  simp only [Bool.false_eq_true, if_false, ha]
  rw [stepS_free hl]
  simp
theorem renS_free (hd : s.down = false) (hl : s.left < 0) (ha : aget s.L x = some f) (hn : namedB y = true) : renS s x y = (0, { s with L := aput (adel s.L x) y f }) := by
  obtain ⟨L, room, left, down⟩ := s
  simp only at hd hl ha
  subst hd
  unfold renS
  simp only [Bool.false_eq_true, if_false, ha, hn, if_true]
  rw [stepS_free hl]
  simp
theorem crash_one (A : Option Addr) (c : Nat) : crashL [1] [(nConf, (⟨A, 3, c, false, [120, 121, 122]⟩ : FileG))] = [(nConf, ⟨A, 1, 1, true, [120]⟩)] := by
  unfold crashL crashTo
  rw [show sortS (List.map (·.1) [(nConf, (⟨A, 3, c, false, [120, 121, 122]⟩ : FileG))]) = [nConf] from List.mergeSort_singleton _]
  rfl
theorem conv_bytes (w : World) (a b c : Int) : (convert 95 95 (.slice (some ⟨w.heap.size, 0, none⟩) 3 3)).run Try.prog (w.alloc (.cells #[.int .u8 a, .int .u8 b, .int .u8 c] 5)) = .ok (.slice (some ⟨w.heap.size, 0, none⟩) 3 3) (w.alloc (.cells #[.int .u8 a, .int .u8 b, .int .u8 c] 5 (3, 4))) :=
  Lib.run_convert_bytes_const w 95 5 #[.int .u8 a, .int .u8 b, .int .u8 c] 3 3 Try.underlying95 Try.underlying5
end
set_option maxRecDepth 100000 in
set_option maxHeartbeats 4000000 in
theorem anchor12 (w : World) : Calls Try.prog 83 #[] w fun e w' => e = .returned (.bool true) ∧ Chg (fun _ => False) w w' := by
  have HN := hideIt (diskNewB (w0 := w) (w := w) 100 (by omega) (by omega) (Chg.refl _ w))
  have k1 : okS nNew := okS_of (by decide)
  have k2 : okS nConf := okS_of (by decide)
  have hcv := @conv_bytes
  go_enter Try.func83, Try.ntmps83
  go_wp2_with fail
  refine HN.out.mono ?_
  rintro e w1 ⟨d, m, rfl, b1⟩
  go_wp2_with fail
  have b1' := b1.new ((Chg.refl _ w1).alloc (.cells #[.int .u8 97, .int .u8 98, .int .u8 99] 5 (3, 4)))
  refine (b1'.write nNew k1 (bytes3 w1 97 98 99 (3, 4)) (by omega) (Nat.le_refl _) (by unfold maxLen; omega) 0 (wrE_free rfl (by show (-1 : Int) < 0; omega) named_new (by decide))).mono ?_
  rintro e w2 ⟨⟨A1, n1, c1, sf1, xs1⟩, hn1, hx1, hs1, rfl, b2⟩
  simp only at hn1 hx1 hs1
  subst hn1 hx1 hs1
  rw [wrD_free (s := ⟨[], 100, -1, false⟩) rfl (by show (-1 : Int) < 0; omega) named_new (by show (total (adel [] nNew) : Int) + ((3 : Nat) : Int) ≤ 100; decide)] at b2
  have e1 : aput ([] : Files) nNew ⟨A1, 3, c1, false, [97, 98, 99]⟩ = [(nNew, ⟨A1, 3, c1, false, [97, 98, 99]⟩)] := rfl
  simp only [e1] at b2
  clear b1 b1' e1
  go_wp2_with fail
  refine (b2.safe nNew k1 false rfl).mono ?_
  rintro e w3 ⟨rfl, rfl⟩
  go_wp2_with fail
  refine (b2.sync (s' := ⟨[(nNew, ⟨A1, 3, c1, true, [97, 98, 99]⟩)], 100, -1, false⟩) nNew k1 0 (syncS_free (f := ⟨A1, 3, c1, false, [97, 98, 99]⟩) rfl (by show (-1 : Int) < 0; omega) rfl)).mono ?_
  rintro e w3 ⟨rfl, b3⟩
  clear b2
  go_wp2_with fail
  refine (b3.rename (s' := ⟨[(nConf, ⟨A1, 3, c1, true, [97, 98, 99]⟩)], 100, -1, false⟩) nNew nConf k1 k2 0 (renS_free (f := ⟨A1, 3, c1, true, [97, 98, 99]⟩) rfl (by show (-1 : Int) < 0; omega) rfl named_conf)).mono ?_
  rintro e w4 ⟨rfl, b4⟩
  clear b3
  go_wp2_with fail
  refine (b4.safe nConf k2 true rfl).mono ?_
  rintro e w5 ⟨rfl, rfl⟩
  go_wp2_with fail
  have b4' := b4.new ((Chg.refl _ w4).alloc (.cells #[.int .u8 120, .int .u8 121, .int .u8 122] 5 (3, 4)))
  refine (b4'.write nConf k2 (bytes3 w4 120 121 122 (3, 4)) (by omega) (Nat.le_refl _) (by unfold maxLen; omega) 0 (wrE_free rfl (by show (-1 : Int) < 0; omega) named_conf (by show (total (adel [(nConf, (⟨A1, 3, c1, true, [97, 98, 99]⟩ : FileG))] nConf) : Int) + ((3 : Nat) : Int) ≤ 100; rw [show adel [(nConf, (⟨A1, 3, c1, true, [97, 98, 99]⟩ : FileG))] nConf = [] from rfl]; decide))).mono ?_
  rintro e w5 ⟨⟨A2, n2, c2, sf2, xs2⟩, hn2, hx2, hs2, rfl, b5⟩
  simp only at hn2 hx2 hs2
  subst hn2 hx2 hs2
  rw [wrD_free (s := ⟨[(nConf, ⟨A1, 3, c1, true, [97, 98, 99]⟩)], 100, -1, false⟩) rfl (by show (-1 : Int) < 0; omega) named_conf (by show (total (adel [(nConf, (⟨A1, 3, c1, true, [97, 98, 99]⟩ : FileG))] nConf) : Int) + ((3 : Nat) : Int) ≤ 100; rw [show adel [(nConf, (⟨A1, 3, c1, true, [97, 98, 99]⟩ : FileG))] nConf = [] from rfl]; decide)] at b5
  have e2 : aput [(nConf, (⟨A1, 3, c1, true, [97, 98, 99]⟩ : FileG))] nConf ⟨A2, 3, c2, false, [120, 121, 122]⟩ = [(nConf, ⟨A2, 3, c2, false, [120, 121, 122]⟩)] := rfl
  simp only [e2] at b5
  clear b4 b4' e2
  go_wp2_with fail
  have b5' := b5.new ((Chg.refl _ w5).alloc (.cells #[.int .i64 1] 3))
  have hlt1 := b5.at_.blk.lt
  have hlt2 := b5.at_.map.lt
  refine (b5'.crash (Ints.one w5 3 1 (okI_iff.2 (by omega))) (by omega) (by show 1 ≤ 1000000; omega) (fun _ b off e => by cases e; exact ⟨fun e => by omega, fun e => by omega⟩) [(nConf, ⟨A2, 1, 1, true, [120]⟩)] (crash_one A2 c2)).mono ?_
  rintro e w6 ⟨rfl, b6⟩
  clear b5 b5' hlt1 hlt2
  go_wp2_with fail
  refine (b6.read nConf k2 ⟨A2, 1, 1, true, [120]⟩ rfl rfl).mono ?_
  rintro e w7 ⟨A7, c7, rfl, y7, -, -, b7, -⟩
  have hstr := fun c => Bytes.toStr (c := c) y7
  have hs : strOfNums [120] = ByteArray.mk #[120] := rfl
  go_wp2_with fail
  refine (b7.safe nConf k2 true rfl).mono ?_
  rintro e w8 ⟨rfl, rfl⟩
  go_wp2_with fail
  go_ret
  exact ⟨rfl, b7.chg⟩
end Go.Proofs.Ytgmekeeemimnpaa
