/- Newer, walked. -/
import Derived.Test.YtgmekeeemimnpaaDoorC9
import Derived.Deep.Cut
namespace Go.Proofs.YtgmekeeemimnpaaDoor
open Go Go.Maps Go.MapKept Go.RowKit

/-- Somebody else has slot i by a greater epoch. -/
def cand (f : Nat → Int) (id ep : Int) (i : Nat) : Bool := (f i != 0) && ((f i != id) && decide (ep < f (64 + i)))
def nwS (f : Nat → Int) (id ep : Int) (low : Int) (i : Nat) : Int := if cand f id ep i && (low == 0 || decide (f i < low)) then f i else low
def newL (f : Nat → Int) (id ep : Int) (l : List Nat) : Int := l.foldl (nwS f id ep) 0
theorem newL_snoc (f : Nat → Int) (id ep : Int) (l : List Nat) (i : Nat) : newL f id ep (l ++ [i]) = nwS f id ep (newL f id ep l) i := by
  unfold newL; rw [List.foldl_append]; rfl
/-- The least of those who are newer. -/
structure Least (f : Nat → Int) (id ep : Int) (l : List Nat) (r : Int) : Prop where
  none : r = 0 → ∀ i ∈ l, cand f id ep i = false
  some : r ≠ 0 → (∃ i ∈ l, cand f id ep i = true ∧ f i = r) ∧ ∀ i ∈ l, cand f id ep i = true → r ≤ f i
theorem cand_ne {f : Nat → Int} {id ep : Int} {i : Nat} (h : cand f id ep i = true) : f i ≠ 0 := by
  unfold cand at h
  simp only [Bool.and_eq_true, bne_iff_ne] at h
  exact h.1
theorem newL_least (f : Nat → Int) (id ep : Int) : ∀ n (l : List Nat), l.length = n → Least f id ep l (newL f id ep l)
  | 0, l, h => by
    rw [List.length_eq_zero_iff] at h
    subst h
    exact ⟨fun _ i hi => by simp at hi, fun h => absurd rfl h⟩
  | n + 1, l, h => by
    rcases List.eq_nil_or_concat l with rfl | ⟨l', i, rfl⟩
    · simp at h
    · rw [List.concat_eq_append] at h ⊢
      have ih := newL_least f id ep n l' (by simpa using h)
      rw [newL_snoc]
      obtain ⟨r, hr⟩ : ∃ r, newL f id ep l' = r := ⟨_, rfl⟩
      rw [hr] at ih ⊢
      unfold nwS
      cases hc : cand f id ep i with
      | false =>
        simp only [Bool.false_and, Bool.false_eq_true, if_false]
        refine ⟨fun h0 j hj => ?_, fun h0 => ?_⟩
        · rcases List.mem_append.1 hj with hj | hj
          · exact ih.none h0 j hj
          · simp at hj; subst hj; exact hc
        · obtain ⟨⟨j, hj, hcj, e⟩, hle⟩ := ih.some h0
          refine ⟨⟨j, by simp [hj], hcj, e⟩, fun k hk hck => ?_⟩
          rcases List.mem_append.1 hk with hk | hk
          · exact hle k hk hck
          · simp at hk; subst hk; rw [hc] at hck; cases hck
      | true =>
        have hne := cand_ne hc
        by_cases h0 : r = 0
        · rw [if_pos (by simp [h0])]
          refine ⟨fun h => absurd h hne, fun _ => ⟨⟨i, by simp, hc, rfl⟩, fun k hk hck => ?_⟩⟩
          rcases List.mem_append.1 hk with hk | hk
          · rw [ih.none h0 k hk] at hck; cases hck
          · simp at hk; subst hk; exact Int.le_refl _
        · obtain ⟨⟨j, hj, hcj, e⟩, hle⟩ := ih.some h0
          by_cases h1 : f i < r
          · rw [if_pos (by simp [h1])]
            refine ⟨fun h => absurd h hne, fun _ => ⟨⟨i, by simp, hc, rfl⟩, fun k hk hck => ?_⟩⟩
            rcases List.mem_append.1 hk with hk | hk
            · have := hle k hk hck; omega
            · simp at hk; subst hk; exact Int.le_refl _
          · rw [if_neg (by simp [h0]; omega)]
            refine ⟨fun h => absurd h h0, fun _ => ⟨⟨j, by simp [hj], hcj, e⟩, fun k hk hck => ?_⟩⟩
            rcases List.mem_append.1 hk with hk | hk
            · exact hle k hk hck
            · simp at hk; subst hk; omega
theorem newL_mem {f : Nat → Int} {id ep : Int} {l m : List Nat} (h : ∀ i, i ∈ l ↔ i ∈ m) : newL f id ep l = newL f id ep m := by
  have a := newL_least f id ep _ l rfl
  have b := newL_least f id ep _ m rfl
  by_cases h0 : newL f id ep l = 0
  · by_cases h1 : newL f id ep m = 0
    · rw [h0, h1]
    · obtain ⟨⟨j, hj, hcj, _⟩, _⟩ := b.some h1
      rw [a.none h0 j ((h j).2 hj)] at hcj
      cases hcj
  · obtain ⟨⟨i, hi, hci, e⟩, hle⟩ := a.some h0
    by_cases h1 : newL f id ep m = 0
    · rw [b.none h1 i ((h i).1 hi)] at hci
      cases hci
    · obtain ⟨⟨j, hj, hcj, e2⟩, hle2⟩ := b.some h1
      have := hle j ((h j).2 hj) hcj
      have := hle2 i ((h i).1 hi) hci
      omega
theorem newL_zero {f : Nat → Int} {id ep : Int} {l : List Nat} (h : ∀ i ∈ l, cand f id ep i = false) : newL f id ep l = 0 := by
  have a := newL_least f id ep _ l rfl
  by_cases h0 : newL f id ep l = 0
  · exact h0
  · obtain ⟨⟨i, hi, hci, _⟩, _⟩ := a.some h0
    rw [h i hi] at hci
    cases hci

set_option maxRecDepth 100000 in
set_option maxHeartbeats 4000000 in
theorem newer_ok (w : World) (hTW : TabW w) (f : Nat → Int) (id ep : Int) (m : Nat) (hm : m < 2 ^ 64) :
    Calls Tryd.prog 24 #[.agg (tcs f), .int .i64 id, .int .i64 ep, .int .u64 (m : Int)] w fun e w' => e = .returned (.int .i64 (if rightT f then newL f id ep (slotsOf m) else 0)) ∧ Chg (fun _ => False) w w' := by
  obtain ⟨wB, hwB⟩ : ∃ wB, wB = w.alloc (.cells (tcs f) 24) := ⟨_, rfl⟩
  have hT : TabAt wB w.heap.size f := by rw [hwB]; exact Blk.new w _ _
  have hC : Chg (fun _ => False) w wB := by rw [hwB]; exact (Chg.refl _ w).alloc _
  have HB := hideIt hwB
  have HR := hideIt (right_calls wB f)
  clear hwB
  obtain ⟨r, hr⟩ : ∃ r, rightT f = r := ⟨_, rfl⟩
  rw [hr] at HR
  rw [hr]
  have HC := hideIt hC
  have HTW := hideIt (hTW.chg hC (fun h => h))
  clear hC hr hTW
  cases r with
  | false =>
    go_enter Tryd.func24, Tryd.ntmps24
    go_upto_region 1 with fail
    rw [← HB.out]
    go_wp2_with (first | (refine wpList_loadv _ rfl 24 _ rfl rfl hT.load ?_) | (go_at_call 19; refine HR.out.mono ?_; rintro e w1 ⟨rfl, k1⟩))
    go_ret
    exact ⟨rfl, HC.out.trans k1⟩
  | true =>
    go_enter Tryd.func24, Tryd.ntmps24
    go_upto_region 1 with fail
    rw [← HB.out]
    go_wp2_with (first | (refine wpList_loadv _ rfl 24 _ rfl rfl hT.load ?_) | (go_at_call 19; refine HR.out.mono ?_; rintro e w1 ⟨rfl, k1⟩; have hT1 := hT.chg k1 (fun h => h)) | (go_at_call 18; refine (list_calls w1 (HTW.out.chg k1 (fun h => h)) m hm).mono ?_; rintro e w2 hlist; obtain ⟨A, n, c, rfl, hints, hbase, hlen, k2⟩ := hlist.get; clear hlist))
    have hT2 : TabAt w2 w.heap.size f := hT1.chg k2 (fun h => h)
    have hC2 := hideIt ((HC.out.trans k1).trans k2)
    have hn64 : n ≤ 64 := by rw [← hlen]; exact slots_len m
    have HLEN := hideIt hlen
    have HINT := hideIt hints
    have HT2 := hideIt hT2
    clear hints hlen hT1 hT hT2 hbase
    go_loop [9, 19] (fun lo i => ∃ k : Nat, k ≤ n ∧ i = .int .i64 k ∧ lo = .int .i64 (newL f id ep ((slotsOf m).take k))) (fun _ i => n - (intOf i).toNat)
    case atStart => exact ⟨0, by omega, rfl, rfl⟩
    case round =>
      obtain ⟨k, hk, rfl, rfl⟩ := hrel
      by_cases hlt : k < n
      · have hkl : k < (slotsOf m).length := by rw [HLEN.out]; exact hlt
        have hi64 := (mem_slots.1 (List.getElem_mem hkl)).1
        obtain ⟨b, off, rfl, hbl, hcell⟩ := HINT.out.at_ (by omega)
        have hx := hcell k hlt
        have hget : (slotsI m).getD k 0 = (((slotsOf m)[k] : Nat) : Int) := by simp [slotsI, List.getD, hkl]
        rw [hget] at hx
        have hsucc : (slotsOf m).take (k + 1) = (slotsOf m).take k ++ [(slotsOf m)[k]] := List.take_succ_eq_append_getElem hkl
        obtain ⟨i, hI⟩ : ∃ i, (slotsOf m)[k] = i := ⟨_, rfl⟩
        rw [hI] at hx hsucc hi64
        have hco := HT2.out.cell (show i < 128 by omega)
        have hce := HT2.out.cell (show 64 + i < 128 by omega)
        obtain ⟨lo, hlo⟩ : ∃ lo, newL f id ep ((slotsOf m).take k) = lo := ⟨_, rfl⟩
        have hnx : newL f id ep ((slotsOf m).take (k + 1)) = nwS f id ep lo i := by rw [hsucc, newL_snoc, hlo]
        rw [hlo]
        obtain ⟨x, hxe⟩ : ∃ x, f i = x := ⟨_, rfl⟩
        obtain ⟨y, hye⟩ : ∃ y, f (64 + i) = y := ⟨_, rfl⟩
        rw [hxe] at hco
        rw [hye] at hce
        unfold nwS cand at hnx
        rw [hxe, hye] at hnx
        clear hcell hget hI hsucc hxe hye hkl hlo
        cases c1 : (x != 0) with
        | false =>
          have HN := hideIt (hnx.trans (by rw [c1]; rfl) : _ = lo)
          clear hnx
          go_wp2
          exact ⟨⟨k + 1, by omega, by go_num, by rw [HN.out]⟩, by simp [intOf]; omega⟩
        | true =>
          cases c2 : (x != id) with
          | false =>
            have HN := hideIt (hnx.trans (by rw [c1, c2]; rfl) : _ = lo)
            clear hnx
            go_wp2
            exact ⟨⟨k + 1, by omega, by go_num, by rw [HN.out]⟩, by simp [intOf]; omega⟩
          | true =>
            cases c3 : (decide (ep < y)) with
            | false =>
              have HN := hideIt (hnx.trans (by rw [c1, c2, c3]; rfl) : _ = lo)
              clear hnx
              go_wp2
              exact ⟨⟨k + 1, by omega, by go_num, by rw [HN.out]⟩, by simp [intOf]; omega⟩
            | true =>
              cases c4 : (lo == 0) with
              | true =>
                have HN := hideIt (hnx.trans (by rw [c1, c2, c3, c4]; rfl) : _ = x)
                clear hnx
                go_wp2
                exact ⟨⟨k + 1, by omega, by go_num, by rw [HN.out]⟩, by simp [intOf]; omega⟩
              | false =>
                cases c5 : (decide (x < lo)) with
                | true =>
                  have HN := hideIt (hnx.trans (by rw [c1, c2, c3, c4, c5]; rfl) : _ = x)
                  clear hnx
                  go_wp2
                  exact ⟨⟨k + 1, by omega, by go_num, by rw [HN.out]⟩, by simp [intOf]; omega⟩
                | false =>
                  have HN := hideIt (hnx.trans (by rw [c1, c2, c3, c4, c5]; rfl) : _ = lo)
                  clear hnx
                  go_wp2
                  exact ⟨⟨k + 1, by omega, by go_num, by rw [HN.out]⟩, by simp [intOf]; omega⟩
      · obtain rfl : k = n := by omega
        have hall : (slotsOf m).take k = slotsOf m := by rw [← HLEN.out, List.take_length]
        have HALL := hideIt hall
        clear hall
        go_wp2
        go_ret
        exact ⟨by rw [HALL.out]; rfl, hC2.out⟩
end Go.Proofs.YtgmekeeemimnpaaDoor
