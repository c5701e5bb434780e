/- ClaimsOrder, plain: who has a slot behind claims. -/
import Derived.Test.YtgmekeeemimnpaaDoorCR
import Derived.Test.YtgmekeeemimnpaaDoorCDropped
namespace Go.Proofs.YtgmekeeemimnpaaDoor.R
open Go

/-- A claim whose id and epoch are right, its epoch above 0. -/
def okU (c : CR) : Prop := idB c.1 = true ∧ 1 ≤ c.2.1 ∧ c.2.1 ≤ 281474976710656
/-- Claims of unlike epochs. -/
def Unl (l : List CR) : Prop := (∀ c ∈ l, okU c) ∧ l.Pairwise (fun a b => a.2.1 ≠ b.2.1)
def madeT (l : List CR) : Nat → Int := l.foldl (fun f c => clT f c.1 c.2.1 c.2.2.testBit) zeroT
theorem madeT_snoc (l : List CR) (c : CR) : madeT (l ++ [c]) = clT (madeT l) c.1 c.2.1 c.2.2.testBit := by
  unfold madeT; rw [List.foldl_append]; rfl
/-- The greatest claim of a slot. -/
def Top (l : List CR) (i : Nat) (o e : Int) : Prop :=
  (o = 0 ∧ e = 0 ∧ ∀ c ∈ l, c.2.2.testBit i = false) ∨ (∃ c ∈ l, c.2.2.testBit i = true ∧ o = c.1 ∧ e = c.2.1 ∧ ∀ d ∈ l, d.2.2.testBit i = true → d.2.1 ≤ e)
theorem Top.mem {l m : List CR} {i : Nat} {o e : Int} (h : Top l i o e) (hm : ∀ c, c ∈ l ↔ c ∈ m) : Top m i o e := by
  rcases h with ⟨h1, h2, h3⟩ | ⟨c, hc, h1, h2, h3, h4⟩
  · exact .inl ⟨h1, h2, fun c hc => h3 c ((hm c).2 hc)⟩
  · exact .inr ⟨c, (hm c).1 hc, h1, h2, h3, fun d hd => h4 d ((hm d).2 hd)⟩
theorem unl_eq {l : List CR} (h : l.Pairwise (fun a b => a.2.1 ≠ b.2.1)) {c d : CR} (hc : c ∈ l) (hd : d ∈ l) (he : c.2.1 = d.2.1) : c = d := by
  obtain ⟨i, hi, rfl⟩ := List.mem_iff_getElem.1 hc
  obtain ⟨j, hj, rfl⟩ := List.mem_iff_getElem.1 hd
  have hp := List.pairwise_iff_getElem.1 h
  rcases Nat.lt_trichotomy i j with h1 | h1 | h1
  · exact absurd he (hp i j hi hj h1)
  · subst h1; rfl
  · exact absurd he.symm (hp j i hj hi h1)
theorem Top.one {l : List CR} (hu : Unl l) {i : Nat} {o e o' e' : Int} (h : Top l i o e) (h' : Top l i o' e') : o = o' := by
  rcases h with ⟨h1, h2, h3⟩ | ⟨c, hc, h1, h2, h3, h4⟩
  · rcases h' with ⟨g1, _, _⟩ | ⟨d, hd, g1, _⟩
    · rw [h1, g1]
    · rw [h3 d hd] at g1; cases g1
  · rcases h' with ⟨_, _, g3⟩ | ⟨d, hd, g1, g2, g3, g4⟩
    · rw [g3 c hc] at h1; cases h1
    · have a := h4 d hd g1
      have b := g4 c hc h1
      have : c = d := unl_eq hu.2 hc hd (by omega)
      rw [h2, g2, this]
theorem top_snoc {l : List CR} {i : Nat} (hi : i < 64) {f : Nat → Int} (h : Top l i (f i) (f (64 + i))) {c : CR} (hc : okU c) (hl : ∀ d ∈ l, okU d) : Top (l ++ [c]) i (clT f c.1 c.2.1 c.2.2.testBit i) (clT f c.1 c.2.1 c.2.2.testBit (64 + i)) := by
  have hid : c.1 ≠ 0 := by have := hc.1; unfold idB at this; simp at this; omega
  have hlid : ∀ d ∈ l, d.1 ≠ 0 := fun d hd => by have := (hl d hd).1; unfold idB at this; simp at this; omega
  have e1 : clT f c.1 c.2.1 c.2.2.testBit i = if c.2.2.testBit i && took f c.1 c.2.1 i then c.1 else f i := by unfold clT; rw [if_pos hi]
  have e2 : clT f c.1 c.2.1 c.2.2.testBit (64 + i) = if c.2.2.testBit i then (if f i == c.1 then max (f (64 + i)) c.2.1 else if took f c.1 c.2.1 i then c.2.1 else f (64 + i)) else f (64 + i) := by
    unfold clT; rw [if_neg (by omega), show 64 + i - 64 = i by omega]
  have hk : took f c.1 c.2.1 i = (!(f i == c.1) && (f i == 0 || decide (f (64 + i) < c.2.1))) := rfl
  rw [e1, e2, hk]
  cases hb : c.2.2.testBit i with
  | false =>
    simp only [Bool.false_and, Bool.false_eq_true, if_false]
    rcases h with ⟨h1, h2, h3⟩ | ⟨d, hd, h1, h2, h3, h4⟩
    · refine .inl ⟨h1, h2, fun d hd => ?_⟩
      rcases List.mem_append.1 hd with hd | hd
      · exact h3 d hd
      · simp at hd; subst hd; exact hb
    · refine .inr ⟨d, by simp [hd], h1, h2, h3, fun g hg hgb => ?_⟩
      rcases List.mem_append.1 hg with hg | hg
      · exact h4 g hg hgb
      · simp at hg; subst hg; rw [hb] at hgb; cases hgb
  | true =>
    simp only [Bool.true_and, if_true]
    rcases h with ⟨h1, h2, h3⟩ | ⟨d, hd, h1, h2, h3, h4⟩
    · have n1 : (f i == c.1) = false := by rw [h1]; simpa using fun e => hid e.symm
      rw [n1, h1]
      simp
      refine .inr ⟨c, by simp, hb, rfl, rfl, fun g hg hgb => ?_⟩
      rcases List.mem_append.1 hg with hg | hg
      · rw [h3 g hg] at hgb; cases hgb
      · simp at hg; subst hg; exact Int.le_refl _
    · have hne := hlid d hd
      have z1 : (f i == 0) = false := by rw [h2]; simpa using hne
      by_cases hx : f i = c.1
      · have n1 : (f i == c.1) = true := by simpa using hx
        rw [n1]
        simp
        by_cases hle : c.2.1 ≤ f (64 + i)
        · rw [show max (f (64 + i)) c.2.1 = f (64 + i) by omega]
          refine .inr ⟨d, by simp [hd], h1, h2, h3, fun g hg hgb => ?_⟩
          rcases List.mem_append.1 hg with hg | hg
          · exact h4 g hg hgb
          · simp at hg; subst hg; exact hle
        · rw [show max (f (64 + i)) c.2.1 = c.2.1 by omega]
          refine .inr ⟨c, by simp, hb, hx, rfl, fun g hg hgb => ?_⟩
          rcases List.mem_append.1 hg with hg | hg
          · have := h4 g hg hgb; omega
          · simp at hg; subst hg; exact Int.le_refl _
      · have n1 : (f i == c.1) = false := by simpa using hx
        rw [n1, z1]
        by_cases hlt : f (64 + i) < c.2.1
        · simp [hlt]
          refine .inr ⟨c, by simp, hb, rfl, rfl, fun g hg hgb => ?_⟩
          rcases List.mem_append.1 hg with hg | hg
          · have := h4 g hg hgb; omega
          · simp at hg; subst hg; exact Int.le_refl _
        · simp [hlt]
          refine .inr ⟨d, by simp [hd], h1, h2, h3, fun g hg hgb => ?_⟩
          rcases List.mem_append.1 hg with hg | hg
          · exact h4 g hg hgb
          · simp at hg; subst hg; omega
theorem made_top {i : Nat} (hi : i < 64) : ∀ n (l : List CR), l.length = n → (∀ c ∈ l, okU c) → Top l i (madeT l i) (madeT l (64 + i))
  | 0, l, h, _ => by
    rw [List.length_eq_zero_iff] at h
    subst h
    exact .inl ⟨rfl, rfl, fun c hc => by simp at hc⟩
  | n + 1, l, h, hu => by
    rcases List.eq_nil_or_concat l with rfl | ⟨l', c, rfl⟩
    · simp at h
    · rw [List.concat_eq_append] at h hu ⊢
      rw [madeT_snoc]
      exact top_snoc hi (made_top hi n l' (by simpa using h) (fun d hd => hu d (by simp [hd]))) (hu c (by simp)) (fun d hd => hu d (by simp [hd]))
theorem made_right : ∀ n (l : List CR), l.length = n → (∀ c ∈ l, okU c) → rightT (madeT l) = true
  | 0, l, h, _ => by
    rw [List.length_eq_zero_iff] at h
    subst h
    exact rightT_iff.2 (fun i _ => by simp [ok1, madeT, zeroT])
  | n + 1, l, h, hu => by
    rcases List.eq_nil_or_concat l with rfl | ⟨l', c, rfl⟩
    · simp at h
    · rw [List.concat_eq_append] at h hu ⊢
      rw [madeT_snoc]
      have hc := hu c (by simp)
      refine clT_right ?_
      rw [okC_eq, made_right n l' (by simpa using h) (fun d hd => hu d (by simp [hd])), hc.1]
      unfold epB
      have := hc.2
      simp
      omega
/-- The greatest so far: its id, its epoch. -/
def bestS (i : Nat) (b : Int × Int) (c : CR) : Int × Int := if c.2.2.testBit i && decide (b.2 < c.2.1) then (c.1, c.2.1) else b
def bestF (i : Nat) (l : List CR) : Int × Int := l.foldl (bestS i) (0, 0)
theorem bestF_snoc (i : Nat) (l : List CR) (c : CR) : bestF i (l ++ [c]) = bestS i (bestF i l) c := by
  unfold bestF; rw [List.foldl_append]; rfl
theorem best_top {i : Nat} : ∀ n (l : List CR), l.length = n → (∀ c ∈ l, okU c) → Top l i (bestF i l).1 (bestF i l).2
  | 0, l, h, _ => by
    rw [List.length_eq_zero_iff] at h
    subst h
    exact .inl ⟨rfl, rfl, fun c hc => by simp at hc⟩
  | n + 1, l, h, hu => by
    rcases List.eq_nil_or_concat l with rfl | ⟨l', c, rfl⟩
    · simp at h
    · rw [List.concat_eq_append] at h hu ⊢
      rw [bestF_snoc]
      have ih := best_top (i := i) n l' (by simpa using h) (fun d hd => hu d (by simp [hd]))
      have hc := hu c (by simp)
      obtain ⟨⟨o, e⟩, hoe⟩ : ∃ p, bestF i l' = p := ⟨_, rfl⟩
      rw [hoe] at ih ⊢
      simp only at ih
      unfold bestS
      cases hb : c.2.2.testBit i with
      | false =>
        simp only [Bool.false_and, Bool.false_eq_true, if_false]
        rcases ih with ⟨h1, h2, h3⟩ | ⟨d, hd, h1, h2, h3, h4⟩
        · refine .inl ⟨h1, h2, fun d hd => ?_⟩
          rcases List.mem_append.1 hd with hd | hd
          · exact h3 d hd
          · simp at hd; subst hd; exact hb
        · refine .inr ⟨d, by simp [hd], h1, h2, h3, fun g hg hgb => ?_⟩
          rcases List.mem_append.1 hg with hg | hg
          · exact h4 g hg hgb
          · simp at hg; subst hg; rw [hb] at hgb; cases hgb
      | true =>
        by_cases hlt : e < c.2.1
        · rw [if_pos (by simp [hlt])]
          refine .inr ⟨c, by simp, hb, rfl, rfl, fun g hg hgb => ?_⟩
          rcases List.mem_append.1 hg with hg | hg
          · rcases ih with ⟨h1, h2, h3⟩ | ⟨d, hd, h1, h2, h3, h4⟩
            · rw [h3 g hg] at hgb; cases hgb
            · have := h4 g hg hgb; simp only; omega
          · simp at hg; subst hg; exact Int.le_refl _
        · rw [if_neg (by simp [hlt])]
          rcases ih with ⟨h1, h2, h3⟩ | ⟨d, hd, h1, h2, h3, h4⟩
          · exfalso
            have := hc.2.1
            omega
          · refine .inr ⟨d, by simp [hd], h1, h2, h3, fun g hg hgb => ?_⟩
            rcases List.mem_append.1 hg with hg | hg
            · exact h4 g hg hgb
            · simp at hg; subst hg; simp only; omega
/-- Claims of unlike epochs, in whatever order and however often: one owner. -/
theorem order_one {l m : List CR} (hu : Unl l) (hm : ∀ c, c ∈ m ↔ c ∈ l) {i : Nat} (hi : i < 64) : madeT m i = (bestF i l).1 := by
  have h1 := made_top hi _ m rfl (fun c hc => hu.1 c ((hm c).1 hc))
  exact Top.one hu (h1.mem hm) (best_top _ l rfl hu.1)
end Go.Proofs.YtgmekeeemimnpaaDoor.R
