/- A slice of records of one-cell fields that came in, read as a list. -/
import Derived.Test.YtgmekeeemimnpaaRow
import Derived.Deep.Slices
import Derived.Deep.Fields
namespace Go.Proofs.Ytgmekeeemimnpaa
open Go Go.RowKit Go.ChangeShapes Go.WideShapes Go.Deep

/-- A slice value whose elements are the records xs, each of K cells, nil let in. -/
structure Recs {α : Type} (enc : α → List Value) (K : Nat) (d : α) (w : World) (A : Option Addr) (n : Nat) (xs : List α) : Prop where
  len : xs.length = n
  at_ : 0 < n → ∃ b off, A = some ⟨b, off, none⟩ ∧ b < w.heap.size ∧ ∀ i, i < n → ∀ j v, (enc (xs.getD i d))[j]? = some v → w.cell? ⟨b, off + (i * K + j), none⟩ = some v
section
variable {α : Type} {enc : α → List Value} {K : Nat} {d : α} {w w' : World} {A : Option Addr} {n : Nat} {xs : List α}
theorem Recs.nil (w : World) : Recs enc K d w none 0 [] := ⟨rfl, fun h => absurd h (by omega)⟩
theorem Recs.keep (h : Recs enc K d w A n xs) (hs : w.heap.size ≤ w'.heap.size) (hk : ∀ b off, A = some ⟨b, off, none⟩ → b < w.heap.size → w'.heap[b]? = w.heap[b]?) : Recs enc K d w' A n xs :=
  ⟨h.len, fun hn => by
    obtain ⟨b, off, e, hb, hc⟩ := h.at_ hn
    exact ⟨b, off, e, by omega, fun i hi j v hv => (World.cell?_of_block (hk b off e hb)).trans (hc i hi j v hv)⟩⟩
theorem Recs.chg {S : Nat → Prop} (h : Recs enc K d w A n xs) (hc : Chg S w w') (hS : ∀ b off, A = some ⟨b, off, none⟩ → b < w.heap.size → ¬ S b) : Recs enc K d w' A n xs :=
  h.keep hc.size (fun b off e hb => hc.block b hb (hS b off e hb))
theorem Recs.new (h : Recs enc K d w A n xs) (hc : Chg (fun _ => False) w w') : Recs enc K d w' A n xs := h.chg hc (fun _ _ _ _ h => h)
theorem getD_mem' {xs : List α} {d : α} {k : Nat} (h : k < xs.length) : xs.getD k d ∈ xs := by
  simp only [List.getD, List.getElem?_eq_getElem h, Option.getD_some]
  exact List.getElem_mem h
theorem take_succ_getD' (xs : List α) (d : α) (k : Nat) (h : k < xs.length) : xs.take (k + 1) = xs.take k ++ [xs.getD k d] := by
  rw [List.take_succ_eq_append_getElem h]
  simp only [List.getD, List.getElem?_eq_getElem h, Option.getD_some]
end

theorem list_of {α : Type} (P : Nat → α → Prop) (d : α) : ∀ n, (∀ i, i < n → ∃ a, P i a) → ∃ xs : List α, xs.length = n ∧ ∀ i, i < n → P i (xs.getD i d)
  | 0, _ => ⟨[], rfl, fun _ h => by omega⟩
  | n + 1, h => by
    obtain ⟨xs, hl, hx⟩ := list_of P d n (fun i hi => h i (by omega))
    obtain ⟨a, ha⟩ := h n (by omega)
    refine ⟨xs ++ [a], by simp [hl], fun i hi => ?_⟩
    by_cases he : i < n
    · have := hx i he
      simpa [List.getD, List.getElem?_append, hl, he] using this
    · obtain rfl : i = n := by omega
      simpa [List.getD, List.getElem?_append, hl] using ha

section
variable {H : Type} {encH : TypeId × Value → H} {W : World}
/-- Out of an argument's reading. -/
theorem recs_of_trod {α : Type} {enc : α → List Value} {K : Nat} {d : α} {t e : TypeId} (ht : Try.prog.underlying t = some (.slice e)) (hK : Try.prog.cellsOf e = K) (hK0 : 0 < K) (good : α → Prop)
    (hread : ∀ n cs' y, DataW.trod encH Try.prog W 0 (fun _ => true) true n e cs' = some y → ∃ a, cs' = enc a ∧ good a)
    {a : Option Addr} {len cap : Nat} {dd : DataW H} {p : List MemPlace} (h : DataW.Trod encH Try.prog W 0 (fun _ => true) true t (.slice a len cap) dd p) : ∃ xs : List α, Recs enc K d W a len xs ∧ (∀ x ∈ xs, good x) ∧ len ≤ cap ∧ cap ≤ maxLen := by
  obtain ⟨fuel, hf⟩ := h
  rcases open_slice ht hf with ⟨hcs, _⟩ | ⟨x, l, c, m, n, D, Pl, hcs, _, hl, hm, hmm, _, hi⟩
  · simp [Value.cells] at hcs
    obtain ⟨rfl, rfl, rfl⟩ := hcs
    exact ⟨[], Recs.nil W, by simp, Nat.le_refl _, by unfold maxLen; omega⟩
  · simp [Value.cells] at hcs
    obtain ⟨rfl, rfl, rfl⟩ := hcs
    simp only [if_true] at hmm
    subst hmm
    rw [hK] at hi
    have hP : ∀ i, i < len → ∃ a : α, good a ∧ ∀ j v, (enc a)[j]? = some v → W.cell? (x.add (i * K + j)) = some v := by
      intro i hil
      obtain ⟨cs', hc, ht'⟩ := hi i (by omega)
      obtain ⟨a, rfl, hg⟩ := hread n cs' _ ht'
      obtain ⟨_, hcl, hat⟩ := World.cells?_some hc
      refine ⟨a, hg, fun j v hv => ?_⟩
      have hj : j < K := by rw [← hcl]; exact (List.getElem?_eq_some_iff.1 hv).1
      rw [← Go.Deep.add_add, hat j hj, hv]
    obtain ⟨xs, hxl, hxs⟩ := list_of (fun i a => good a ∧ ∀ j v, (enc a)[j]? = some v → W.cell? (x.add (i * K + j)) = some v) d len hP
    refine ⟨xs, ⟨hxl, fun hp => ?_⟩, fun y hy => ?_, hl, hm⟩
    · obtain ⟨cs', hc, ht'⟩ := hi 0 (by omega)
      obtain ⟨_, hcl, hat⟩ := World.cells?_some hc
      obtain ⟨b, off, spot⟩ := x
      have h0 := hat 0 hK0
      have hc0 : ∃ v, cs'[0]? = some v := ⟨cs'[0]'(by omega), List.getElem?_eq_getElem (by omega)⟩
      obtain ⟨v, hv⟩ := hc0
      rw [hv] at h0
      have hspot : spot = none := by
        have := World.cell?_spot h0
        simpa [Addr.add] using this
      subst hspot
      have h0' : W.cell? ⟨b, off, none⟩ = some v := by simpa [Addr.add] using h0
      refine ⟨b, off, rfl, cell_lt h0', fun i hil j v hv => ?_⟩
      have := (hxs i hil).2 j v hv
      rwa [Go.WideShapes.add_plain] at this
    · obtain ⟨i, hi', rfl⟩ := List.getElem_of_mem hy
      have := (hxs i (by omega)).1
      simpa [List.getD, hi'] using this
end
end Go.Proofs.Ytgmekeeemimnpaa
