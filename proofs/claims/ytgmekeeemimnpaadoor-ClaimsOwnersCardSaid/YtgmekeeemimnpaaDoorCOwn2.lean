/- Owners, walked. -/
import Derived.Test.YtgmekeeemimnpaaDoorCOwn1
import Derived.Deep.Cut
namespace Go.Proofs.YtgmekeeemimnpaaDoor
open Go Go.Maps Go.MapKept Go.RowKit Go.Lib

theorem compact_rise {zs : List Int} (h : ∀ i j, i ≤ j → j < zs.length → zs.toArray[i]! ≤ zs.toArray[j]!) : ∀ m, m ≤ zs.length → (compactUpTo zs.toArray m).Pairwise (fun a b => a < b) ∧ ∀ x, x ∈ compactUpTo zs.toArray m ↔ ∃ j, j < m ∧ zs.toArray[j]! = x
  | 0, _ => ⟨by simp [compactUpTo], fun x => by simp [compactUpTo]⟩
  | m + 1, hm => by
    obtain ⟨h1, h2⟩ := compact_rise h m (by omega)
    rw [compactUpTo_succ]
    by_cases hk : keeps zs.toArray m = true
    · rw [if_pos hk]
      refine ⟨List.pairwise_append.2 ⟨h1, by simp, fun a ha b hb => ?_⟩, fun x => ?_⟩
      · simp only [List.mem_singleton] at hb
        subst hb
        obtain ⟨j, hj, rfl⟩ := (h2 a).1 ha
        have hle := h j (m - 1) (by omega) (by omega)
        have hle2 := h (m - 1) m (by omega) (by omega)
        have hne : zs.toArray[m]! ≠ zs.toArray[m - 1]! := by
          unfold keeps at hk
          simp only [decide_eq_true_eq] at hk
          rcases hk with hk | hk
          · omega
          · exact hk
        omega
      · rw [List.mem_append, h2, List.mem_singleton]
        constructor
        · rintro (⟨j, hj, rfl⟩ | rfl)
          · exact ⟨j, by omega, rfl⟩
          · exact ⟨m, by omega, rfl⟩
        · rintro ⟨j, hj, rfl⟩
          by_cases e : j = m
          · subst e; exact .inr rfl
          · exact .inl ⟨j, by omega, rfl⟩
    · rw [if_neg hk, List.append_nil]
      refine ⟨h1, fun x => ?_⟩
      rw [h2]
      constructor
      · rintro ⟨j, hj, rfl⟩
        exact ⟨j, by omega, rfl⟩
      · rintro ⟨j, hj, rfl⟩
        by_cases e : j = m
        · subst e
          unfold keeps at hk
          simp only [decide_eq_true_eq, not_or, Decidable.not_not] at hk
          exact ⟨j - 1, by omega, hk.2.symm⟩
        · exact ⟨j, by omega, rfl⟩
/-- The ids that have a slot, rising. -/
def IsOw (f : Nat → Int) (xs : List Int) : Prop := xs.Pairwise (fun a b => a < b) ∧ ∀ x, x ∈ xs ↔ x ≠ 0 ∧ ∃ i, i < 64 ∧ f i = x
def ownL (f : Nat → Int) : List Int := (List.range 64).map f
def srt (xs : List Int) : List Int := xs.mergeSort fun x y => decide (x ≤ y)
theorem srt_rise (xs : List Int) : (srt xs).Pairwise (fun a b => a ≤ b) := by
  have := List.pairwise_mergeSort (le := fun x y : Int => decide (x ≤ y)) (fun a b c h1 h2 => by simp at *; omega) (fun a b => by simp; omega) xs
  exact this.imp (fun h => by simpa using h)
theorem ow_is (f : Nat → Int) : IsOw f ((compact (srt (ownL f))).filter fun x => !(x == 0)) := by
  obtain ⟨zs, hz⟩ : ∃ zs, srt (ownL f) = zs := ⟨_, rfl⟩
  have hr := srt_rise (ownL f)
  rw [hz] at hr ⊢
  have hs : ∀ i j, i ≤ j → j < zs.length → zs.toArray[i]! ≤ zs.toArray[j]! := by
    intro i j hij hj
    rw [getElem!_pos zs.toArray i (by simp; omega), getElem!_pos zs.toArray j (by simpa using hj)]
    simp only [List.getElem_toArray]
    by_cases e : i = j
    · subst e; exact Int.le_refl _
    · exact List.pairwise_iff_getElem.1 hr i j (by omega) hj (by omega)
  obtain ⟨h1, h2⟩ := compact_rise hs zs.length (Nat.le_refl _)
  have hm : ∀ x, x ∈ zs ↔ ∃ i, i < 64 ∧ f i = x := fun x => by
    rw [← hz]
    unfold srt ownL
    rw [List.mem_mergeSort, List.mem_map]
    simp
  refine ⟨List.Pairwise.filter _ h1, fun x => ?_⟩
  rw [List.mem_filter, show x ∈ compact zs ↔ x ∈ zs from (h2 x).trans ⟨?_, ?_⟩, hm]
  · simp
    exact ⟨fun h => ⟨h.2, h.1⟩, fun h => ⟨h.2, h.1⟩⟩
  · rintro ⟨j, hj, rfl⟩
    rw [getElem!_pos zs.toArray j (by simpa using hj)]
    simp
  · intro hx
    obtain ⟨j, hj, rfl⟩ := List.mem_iff_getElem.1 hx
    exact ⟨j, hj, by rw [getElem!_pos zs.toArray j (by simpa using hj)]; simp⟩

def OwnersIs (w : World) (xs : List Int) (e : Ending) (w' : World) : Prop := ∃ A n c, e = .returned (.slice A n c) ∧ OwnI w' w.heap.size 3 (.slice A n c) xs ∧ xs.length = n ∧ n ≤ 64 ∧ Chg (fun _ => False) w w'
theorem compact_le (zs : List Int) : (compact zs).length ≤ zs.length := by
  unfold compact compactUpTo
  rw [List.length_map]
  exact Nat.le_trans (List.length_filter_le _ _) (by simp)
theorem ownL_len (f : Nat → Int) : (ownL f).length = 64 := by simp [ownL]
set_option maxRecDepth 100000 in
set_option maxHeartbeats 4000000 in
theorem owners_calls (w : World) (f : Nat → Int) : Calls Tryd.prog 25 #[.agg (tcs f)] w (OwnersIs w ((compact (srt (ownL f))).filter fun x => !(x == 0))) := by
  obtain ⟨wB, hwB⟩ : ∃ wB, wB = w.alloc (.cells (tcs f) 24) := ⟨_, rfl⟩
  have hT : TabAt wB w.heap.size f := by rw [hwB]; exact Blk.new w _ _
  have hC : Chg (fun _ => False) w wB := by rw [hwB]; exact (Chg.refl _ w).alloc _
  have hcl := Any.slices_Clone_int laysNm215 w.heap.size 0 64 64 (ownL f) wB (by rw [ownL_len]; exact Nat.le_refl _) (by omega) (fun j hj => by
    rw [ownL_len] at hj
    rw [Nat.zero_add]
    refine (hT.cell (show j < 128 by omega)).trans ?_
    simp [ownL, List.getD, hj])
  have hlen := ownL_len f
  have hsl : (srt (ownL f)).length = 64 := by unfold srt; rw [List.length_mergeSort]; exact hlen
  obtain ⟨cs, hcs⟩ : ∃ cs, compact (srt (ownL f)) = cs := ⟨_, rfl⟩
  have hcl2 : cs.length ≤ 64 := by rw [← hcs, ← hsl]; exact compact_le _
  have HCL := hideIt hcl
  have HC := hideIt hC
  have HCS := hideIt hcs
  have HSL := hideIt hsl
  have HB := hideIt hwB
  rw [hcs]
  clear hcl hC hcs hwB hT
  go_enter Tryd.func25, Tryd.ntmps25
  go_upto_region 1 with fail
  rw [← HB.out]
  go_wp2_with fail
  refine HCL.out.mono ?_
  rintro e w1 ⟨v, rfl, ho, hne, hb1⟩
  rcases ho.2 with ⟨rfl, _⟩ | ⟨g, cap, cur, rfl, hg, hh, h1, h2, h3, h4⟩
  · exact absurd rfl hne
  have OB : OwnB w1 wB.heap.size g cap cur (ownL f) := ⟨hg, hh, by rw [hlen]; exact h1, h2, by simpa using h3, by
    rw [hlen]
    have h5 : (ownL f).take 64 = ownL f := by rw [← hlen, List.take_length]
    rw [h5] at h4
    simpa using h4⟩
  have hS := sortB OB (by rw [hlen]; omega)
  rw [hlen] at hS
  have HS := hideIt hS
  have K1 := hideIt (HC.out.trans (Chg.of_below' hb1))
  have sg : w.heap.size ≤ wB.heap.size := HC.out.size
  clear hS OB ho hne hb1 hh h1 h2 h3 h4 hlen
  go_wp2_with fail
  refine HS.out.mono ?_
  rintro e w2 ⟨rfl, ⟨cur2, OB2⟩, k2⟩
  have hP := compactB OB2 (by show (srt (ownL f)).length < 1000000; rw [HSL.out]; omega) cs HCS.out (by show cs.length ≤ (srt (ownL f)).length; rw [HSL.out]; exact hcl2)
  rw [show (List.mergeSort (ownL f) fun x y => decide (x ≤ y)).length = 64 from HSL.out] at hP
  have HP := hideIt hP
  have K2 := hideIt (K1.out.trans' k2 (fun i hi => .inr (by subst hi; omega)))
  clear hP OB2 k2
  obtain ⟨n, hn⟩ : ∃ n, cs.length = n := ⟨_, rfl⟩
  rw [hn] at HP hcl2
  have HN := hideIt hn
  clear hn
  go_wp2_with fail
  refine HP.out.mono ?_
  rintro e w3 ⟨rfl, ⟨cur3, OB3⟩, k3⟩
  have hD := deleteB OB3 (by rw [HN.out]; omega)
  rw [HN.out] at hD
  have HD := hideIt hD
  have K3 := hideIt (K2.out.trans' k3 (fun i hi => .inr (by subst hi; omega)))
  have HFL := hideIt (List.length_filter_le (fun x => !(x == 0)) cs)
  clear hD OB3 k3
  go_wp2_with fail
  refine HD.out.mono ?_
  rintro e w4 ⟨rfl, ⟨cur4, OB4⟩, k4⟩
  go_wp2
  go_ret
  exact ⟨_, _, cap, rfl, OB4.own.low sg, rfl, by have := HFL.out; have := HN.out; omega, K3.out.trans' k4 (fun i hi => .inr (by subst hi; omega))⟩
end Go.Proofs.YtgmekeeemimnpaaDoor
