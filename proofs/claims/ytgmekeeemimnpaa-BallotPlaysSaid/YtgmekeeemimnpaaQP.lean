/- Plain laws of the quorum: what the grants come to, and the counting. -/
import Derived.Test.YtgmekeeemimnpaaQ4
namespace Go.Proofs.Ytgmekeeemimnpaa
open Go Go.Maps Go.MapKept Go.RowKit

/-- How many of the voters are among some. -/
def cnt (vs ys : List Int) : Nat := (vs.filter (fun x => decide (x ∈ ys))).length

theorem aget_map {vs : List Int} {f : Int → Bool} {x : Int} : aget (vs.map (fun v => (v, f v))) x = if x ∈ vs then some (f x) else none := by
  induction vs with
  | nil => rfl
  | cons v r ih =>
    unfold aget at *
    rw [List.map_cons, List.find?_cons]
    by_cases h : v = x
    · subst h; simp
    · have h' : x ≠ v := fun e => h e.symm
      simp only [h, decide_false]
      rw [ih]
      simp [h']
theorem grantL_map (vs : List Int) (f : Int → Bool) (y : Int) : grantL (vs.map (fun v => (v, f v))) y = vs.map (fun v => (v, f v || decide (v = y))) := by
  have key : aget (vs.map (fun v => (v, f v))) y = if y ∈ vs then some (f y) else none := aget_map
  unfold grantL
  by_cases hm : y ∈ vs
  · rw [if_pos hm] at key
    rw [key]
    cases hf : f y with
    | false =>
      rw [if_pos rfl]
      unfold aput
      rw [key]
      simp only [Option.isSome_some, if_true, List.map_map]
      apply List.map_congr_left
      intro v _
      simp only [Function.comp]
      by_cases e : v = y
      · simp [e]
      · simp [e]
    | true =>
      rw [if_neg (by simp)]
      apply List.map_congr_left
      intro v _
      by_cases e : v = y
      · subst e; simp [hf]
      · simp [e]
  · rw [if_neg hm] at key
    rw [key, if_neg (by simp)]
    apply List.map_congr_left
    intro v hv
    have e : v ≠ y := fun e => hm (e ▸ hv)
    simp [e]
theorem grants_eq (vs ys : List Int) : ∀ (f : Int → Bool), grants (vs.map (fun v => (v, f v))) ys = vs.map (fun v => (v, f v || decide (v ∈ ys))) := by
  induction ys with
  | nil => intro f; simp [grants]
  | cons y r ih =>
    intro f
    show grants (grantL (vs.map (fun v => (v, f v))) y) r = _
    rw [grantL_map, ih]
    apply List.map_congr_left
    intro v _
    simp only [List.mem_cons, Prod.mk.injEq, true_and]
    cases f v <;> by_cases e : v = y <;> by_cases m : v ∈ r <;> simp [e, m]
theorem grants_fresh (vs ys : List Int) : grants (fresh vs) ys = vs.map (fun v => (v, decide (v ∈ ys))) := by
  have := grants_eq vs ys (fun _ => false)
  simpa [fresh] using this
theorem yes_grants (vs ys : List Int) : yes (grants (fresh vs) ys) = cnt vs ys := by
  rw [grants_fresh]
  simp [yes, cnt, List.filter_map, Function.comp_def]
theorem length_grants (vs ys : List Int) : (grants (fresh vs) ys).length = vs.length := by
  rw [grants_fresh]; simp
theorem wonB_grants (vs ys : List Int) : wonB (grants (fresh vs) ys) = decide (vs.length < 2 * cnt vs ys) := by
  unfold wonB
  rw [yes_grants, length_grants]
theorem majB_eq (vs ys : List Int) : majB vs ys = (rightB vs && decide (vs.length < 2 * cnt vs ys)) := by
  unfold majB
  rw [wonB_grants]
theorem majB_iff {vs ys : List Int} : majB vs ys = true ↔ rightB vs = true ∧ vs.length < 2 * cnt vs ys := by
  rw [majB_eq]; simp

theorem filter_or_le {α : Type} (p q : α → Bool) : ∀ l : List α, (l.filter p).length + (l.filter q).length = (l.filter (fun x => p x || q x)).length + (l.filter (fun x => p x && q x)).length
  | [] => rfl
  | x :: r => by
    have ih := filter_or_le p q r
    simp only [List.filter_cons]
    cases p x <;> cases q x <;> simp <;> omega
/-- Two that are each more than half have one in common. -/
theorem meet {vs a b : List Int} (ha : vs.length < 2 * cnt vs a) (hb : vs.length < 2 * cnt vs b) : ∃ x ∈ vs, x ∈ a ∧ x ∈ b := by
  have h := filter_or_le (fun x => decide (x ∈ a)) (fun x => decide (x ∈ b)) vs
  have h1 := List.length_filter_le (fun x => decide (x ∈ a) || decide (x ∈ b)) vs
  unfold cnt at ha hb
  have h2 : 0 < (vs.filter (fun x => decide (x ∈ a) && decide (x ∈ b))).length := by omega
  obtain ⟨x, hx⟩ := List.exists_mem_of_length_pos h2
  simp only [List.mem_filter, Bool.and_eq_true, decide_eq_true_eq] at hx
  exact ⟨x, hx.1, hx.2⟩

theorem cnt_mono {vs ys zs : List Int} (h : ∀ x, x ∈ ys → x ∈ zs) : cnt vs ys ≤ cnt vs zs := by
  unfold cnt
  induction vs with
  | nil => simp
  | cons v r ih =>
    simp only [List.filter_cons]
    by_cases h1 : v ∈ ys
    · simp [h1, h v h1]; exact ih
    · by_cases h2 : v ∈ zs <;> simp [h1, h2] <;> omega
theorem cnt_self (vs : List Int) : cnt vs vs = vs.length := by
  unfold cnt
  rw [List.filter_eq_self.2]
  intro x hx; simpa using hx
theorem cnt_nil (vs : List Int) : cnt vs [] = 0 := by simp [cnt]

theorem rightB_perm {vs ws : List Int} (h : vs.Perm ws) : rightB vs = rightB ws := by
  unfold rightB
  rw [decide_eq_decide, h.nodup_iff, h.length_eq]
  simp only [h.mem_iff]
theorem cnt_perm {vs ws ys zs : List Int} (h : vs.Perm ws) (k : ys.Perm zs) : cnt vs ys = cnt ws zs := by
  unfold cnt
  rw [(h.filter _).length_eq]
  simp only [k.mem_iff]
theorem majB_perm {vs ws ys zs : List Int} (h : vs.Perm ws) (k : ys.Perm zs) : majB vs ys = majB ws zs := by
  rw [majB_eq, majB_eq, rightB_perm h, cnt_perm h k, h.length_eq]

theorem filter_tail {T D : List Int} (hn : (T ++ D).Nodup) : (T ++ D).filter (fun x => decide (x ∈ D)) = D := by
  rw [List.nodup_append] at hn
  rw [List.filter_append]
  have h2 : T.filter (fun x => decide (x ∈ D)) = [] := by
    rw [List.filter_eq_nil_iff]
    intro x hx
    simp only [decide_eq_true_eq]
    exact fun hd => hn.2.2 x hx x hd rfl
  rw [h2, List.nil_append, List.filter_eq_self]
  intro x hx; simpa using hx
theorem cnt_drop {vs : List Int} (hn : vs.Nodup) (m : Nat) : cnt vs (vs.drop m) = vs.length - m := by
  have h := filter_tail (T := vs.take m) (D := vs.drop m) (by rw [List.take_append_drop]; exact hn)
  rw [List.take_append_drop] at h
  unfold cnt
  rw [h, List.length_drop]
end Go.Proofs.Ytgmekeeemimnpaa
