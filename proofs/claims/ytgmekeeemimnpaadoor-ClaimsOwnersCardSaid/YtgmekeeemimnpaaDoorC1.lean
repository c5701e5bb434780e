/- Sets of slots as numbers, their bits, and the table that tells the lowest one. -/
import Derived.Laws.BitsAllLaws
namespace Go.Proofs.YtgmekeeemimnpaaDoor
open Go

/-- The slots of a set, rising. -/
def slotsOf (m : Nat) : List Nat := (List.range 64).filter fun i => m.testBit i
/-- The set of the slots under n of which something holds. -/
def mask (p : Nat → Bool) : Nat → Nat
  | 0 => 0
  | n + 1 => mask p n ||| (if p n then 2 ^ n else 0)
theorem mask_lt (p : Nat → Bool) : ∀ n, mask p n < 2 ^ n
  | 0 => by simp [mask]
  | n + 1 => by
    unfold mask
    apply Nat.or_lt_two_pow
    · exact Nat.lt_of_lt_of_le (mask_lt p n) (Nat.pow_le_pow_right (by decide) (by omega))
    · split
      · exact Nat.pow_lt_pow_right (by decide) (by omega)
      · exact Nat.two_pow_pos _
theorem mask_bit (p : Nat → Bool) : ∀ n j, (mask p n).testBit j = (decide (j < n) && p j)
  | 0, j => by simp [mask]
  | n + 1, j => by
    unfold mask
    rw [Nat.testBit_or, mask_bit p n j]
    by_cases hp : p n = true
    · rw [if_pos hp, Nat.testBit_two_pow]
      by_cases hj : n = j
      · subst hj; simp [hp]
      · have : decide (j < n + 1) = decide (j < n) := by simp; omega
        simp [hj, this]
    · rw [if_neg hp]
      simp only [Nat.zero_testBit, Bool.or_false]
      by_cases hj : n = j
      · subst hj; simp at hp; simp [hp]
      · have : decide (j < n + 1) = decide (j < n) := by simp; omega
        rw [this]
theorem bits_eq {a b : Nat} (ha : a < 2 ^ 64) (hb : b < 2 ^ 64) (h : ∀ i, i < 64 → a.testBit i = b.testBit i) : a = b := by
  apply Nat.eq_of_testBit_eq
  intro i
  by_cases hi : i < 64
  · exact h i hi
  · rw [Nat.testBit_lt_two_pow (Nat.lt_of_lt_of_le ha (Nat.pow_le_pow_right (by decide) (by omega))), Nat.testBit_lt_two_pow (Nat.lt_of_lt_of_le hb (Nat.pow_le_pow_right (by decide) (by omega)))]

/-- A set that isn't empty: its lowest slot, and the rest. -/
theorem low_split : ∀ m : Nat, m ≠ 0 → ∃ t q, m = 2 ^ (t + 1) * q + 2 ^ t := by
  intro m
  induction m using Nat.strongRecOn with
  | _ m ih =>
    intro h0
    rcases Nat.mod_two_eq_zero_or_one m with h1 | h1
    · obtain ⟨t, q, h⟩ := ih (m / 2) (by omega) (by omega)
      refine ⟨t + 1, q, ?_⟩
      have e1 : 2 ^ (t + 1 + 1) * q = 2 * (2 ^ (t + 1) * q) := by rw [Nat.pow_succ 2 (t + 1), Nat.mul_comm (2 ^ (t + 1)) 2, Nat.mul_assoc]
      have e2 : 2 ^ (t + 1) = 2 * 2 ^ t := by rw [Nat.pow_succ, Nat.mul_comm]
      omega
    · exact ⟨0, m / 2, by omega⟩
section
variable {m t q : Nat} (h : m = 2 ^ (t + 1) * q + 2 ^ t)
include h
theorem low_bit (j : Nat) : m.testBit j = if j < t + 1 then decide (t = j) else q.testBit (j - (t + 1)) := by
  rw [h, Nat.testBit_two_pow_mul_add q (Nat.pow_lt_pow_right (by decide) (by omega)) j, Nat.testBit_two_pow]
theorem low_lt (hm : m < 2 ^ 64) : t < 64 := by
  rcases Nat.lt_or_ge t 64 with h1 | h1
  · exact h1
  · have := Nat.pow_le_pow_right (n := 2) (by decide) h1
    omega
theorem pred_bit (j : Nat) : (m - 1).testBit j = if j < t + 1 then decide (j < t) else q.testBit (j - (t + 1)) := by
  have h1 : 0 < 2 ^ t := Nat.two_pow_pos _
  have e : m - 1 = 2 ^ (t + 1) * q + (2 ^ t - 1) := by omega
  rw [e, Nat.testBit_two_pow_mul_add q (by have := Nat.pow_lt_pow_right (a := 2) (by decide) (show t < t + 1 by omega); omega) j, Nat.testBit_two_pow_sub_one]
/-- The rest. -/
theorem rest_bit (j : Nat) : (m &&& (m - 1)).testBit j = (m.testBit j && decide (j ≠ t)) := by
  rw [Nat.testBit_and, low_bit h, pred_bit h]
  by_cases hj : j < t + 1
  · simp only [hj, if_true]
    by_cases he : t = j
    · subst he; simp
    · simp [he]
  · simp only [hj, if_false, Bool.and_self]
    have : j ≠ t := by omega
    simp [this]
theorem slots_step (hm : m < 2 ^ 64) : slotsOf m = t :: slotsOf (m &&& (m - 1)) := by
  have ht := low_lt h hm
  have e1 : (List.range 64) = (List.range t) ++ t :: (List.range' (t + 1) (63 - t)) := by
    have e0 : List.range 64 = List.range' 0 64 := List.range_eq_range'
    rw [e0, show (64 : Nat) = t + (1 + (63 - t)) by omega, ← List.range'_append_1, ← List.range'_append_1, List.range_eq_range']
    simp
  unfold slotsOf
  rw [e1, List.filter_append, List.filter_append, List.filter_cons, List.filter_cons]
  have l1 : ∀ (x : Nat), x < 2 ^ 64 → (∀ j, j < t → x.testBit j = false) → (List.range t).filter (fun i => x.testBit i) = [] := by
    intro x _ hx
    rw [List.filter_eq_nil_iff]
    intro a ha
    rw [List.mem_range] at ha
    simp [hx a ha]
  have z1 : ∀ j, j < t → m.testBit j = false := fun j hj => by rw [low_bit h, if_pos (by omega)]; simp; omega
  have z2 : ∀ j, j < t → (m &&& (m - 1)).testBit j = false := fun j hj => by rw [rest_bit h, z1 j hj]; rfl
  rw [l1 m hm z1, l1 _ (Nat.lt_of_le_of_lt Nat.and_le_left hm) z2]
  have b1 : m.testBit t = true := by rw [low_bit h, if_pos (by omega)]; simp
  have b2 : (m &&& (m - 1)).testBit t = false := by rw [rest_bit h]; simp
  simp only [b1, b2, if_true, List.nil_append]
  rw [if_neg (by simp)]
  congr 1
  apply List.filter_congr
  intro a ha
  rw [rest_bit h]
  have : a ≠ t := by have := List.mem_range'_1.1 ha; omega
  simp [this]
/-- The lowest bit alone. -/
theorem low_alone (hm : m < 2 ^ 64) : m &&& (2 ^ 64 - m) = 2 ^ t := by
  have ht := low_lt h hm
  have hq : q < 2 ^ (63 - t) := by
    have e : 2 ^ 64 = 2 ^ (t + 1) * 2 ^ (63 - t) := by rw [← Nat.pow_add]; congr 1; omega
    have h1 : 2 ^ (t + 1) * q < 2 ^ (t + 1) * 2 ^ (63 - t) := by
      rw [← e]
      exact Nat.lt_of_le_of_lt (by rw [h]; exact Nat.le_add_right _ _) hm
    exact Nat.lt_of_mul_lt_mul_left h1
  have e2 : 2 ^ 64 - m = 2 ^ (t + 1) * (2 ^ (63 - t) - (q + 1)) + 2 ^ t := by
    have e : 2 ^ 64 = 2 ^ (t + 1) * 2 ^ (63 - t) := by rw [← Nat.pow_add]; congr 1; omega
    have e3 : 2 ^ (t + 1) * (2 ^ (63 - t) - (q + 1)) = 2 ^ (t + 1) * 2 ^ (63 - t) - (2 ^ (t + 1) * q + 2 ^ (t + 1)) := by rw [Nat.mul_sub, Nat.mul_add, Nat.mul_one]
    have e4 : 2 ^ (t + 1) = 2 * 2 ^ t := by rw [Nat.pow_succ, Nat.mul_comm]
    have e5 : 2 ^ (t + 1) * q + 2 ^ (t + 1) ≤ 2 ^ (t + 1) * 2 ^ (63 - t) := by
      rw [← Nat.mul_succ]
      exact Nat.mul_le_mul_left _ hq
    omega
  apply Nat.eq_of_testBit_eq
  intro j
  rw [Nat.testBit_and, low_bit h, low_bit e2, Nat.testBit_two_pow]
  by_cases hj : j < t + 1
  · simp [hj]
  · simp only [hj, if_false]
    rw [Nat.testBit_two_pow_sub_succ hq]
    have : ¬ (t = j) := by omega
    simp [this]
    exact fun a _ => a
end

def bruijn : List Nat := [0, 1, 56, 2, 57, 49, 28, 3, 61, 58, 42, 50, 38, 29, 17, 4, 62, 47, 59, 36, 45, 43, 51, 22, 53, 39, 33, 30, 24, 18, 12, 5, 63, 55, 48, 27, 60, 41, 37, 16, 46, 35, 44, 21, 52, 32, 23, 11, 54, 26, 40, 15, 34, 20, 31, 10, 25, 14, 19, 9, 13, 8, 7, 6]
theorem bruijn_at (t : Nat) (ht : t < 64) : 2 ^ t * 285870213051353865 % 2 ^ 64 / 2 ^ 58 < 64 ∧ bruijn.getD (2 ^ t * 285870213051353865 % 2 ^ 64 / 2 ^ 58) 0 = t := by
  have : ∀ t : Fin 64, 2 ^ t.1 * 285870213051353865 % 2 ^ 64 / 2 ^ 58 < 64 ∧ bruijn.getD (2 ^ t.1 * 285870213051353865 % 2 ^ 64 / 2 ^ 58) 0 = t.1 := by decide +kernel
  exact this ⟨t, ht⟩
theorem mem_slots {m i : Nat} : i ∈ slotsOf m ↔ i < 64 ∧ m.testBit i = true := by
  unfold slotsOf; rw [List.mem_filter, List.mem_range]
theorem slots_nodup (m : Nat) : (slotsOf m).Nodup := List.Nodup.sublist List.filter_sublist List.nodup_range
theorem slots_len (m : Nat) : (slotsOf m).length ≤ 64 := by
  have := List.length_filter_le (fun i => m.testBit i) (List.range 64)
  simpa [slotsOf] using this
theorem slots_zero : slotsOf 0 = [] := by simp [slotsOf]
end Go.Proofs.YtgmekeeemimnpaaDoor
