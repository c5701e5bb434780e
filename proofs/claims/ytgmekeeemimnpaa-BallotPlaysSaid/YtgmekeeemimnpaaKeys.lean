/- A map's keys, collected and sorted by the library; a slice of the call's own, sorted. -/
import Derived.Test.YtgmekeeemimnpaaLayI
import Derived.Test.YtgmekeeemimnpaaApp
namespace Go.Proofs.Ytgmekeeemimnpaa
open Go Go.Maps Go.MapKept Go.RowKit Go.Sort Go.Shelf

/-- Ints, rising. -/
def sortI (xs : List Int) : List Int := xs.mergeSort leI
theorem sortI_perm (xs : List Int) : (sortI xs).Perm xs := List.mergeSort_perm xs leI
theorem sortI_len (xs : List Int) : (sortI xs).length = xs.length := (sortI_perm xs).length_eq
theorem mem_sortI {xs : List Int} {x : Int} : x ∈ sortI xs ↔ x ∈ xs := (sortI_perm xs).mem_iff
theorem sortI_le (xs : List Int) : (sortI xs).Pairwise (fun a b => a ≤ b) := by
  have tr : ∀ a b c : Int, leI a b = true → leI b c = true → leI a c = true := fun a b c h1 h2 => by simp only [leI, decide_eq_true_eq] at *; exact Int.le_trans h1 h2
  have to : ∀ a b : Int, (leI a b || leI b a) = true := fun a b => by simp only [leI, Bool.or_eq_true, decide_eq_true_eq]; exact Int.le_total a b
  exact (List.pairwise_mergeSort tr to xs).imp (fun h => by simpa [leI] using h)
theorem sortI_of_perm {xs ys : List Int} (h : xs.Perm ys) : sortI xs = sortI ys := mergeSort_of_perm_i h
theorem sortI_lt {xs : List Int} (hn : xs.Nodup) : (sortI xs).Pairwise (fun a b => a < b) := by
  have h1 := sortI_le xs
  have h2 : (sortI xs).Nodup := (sortI_perm xs).nodup_iff.2 hn
  exact (h1.and h2).imp (fun ⟨a, b⟩ => by omega)
/-- What rises and has the same members is the same. -/
theorem rise_ext : ∀ {xs ys : List Int}, xs.Pairwise (fun a b => a < b) → ys.Pairwise (fun a b => a < b) → (∀ x, x ∈ xs ↔ x ∈ ys) → xs = ys
  | [], [], _, _, _ => rfl
  | [], y :: _, _, _, h => absurd ((h y).2 (by simp)) (by simp)
  | x :: _, [], _, _, h => absurd ((h x).1 (by simp)) (by simp)
  | x :: xs, y :: ys, hx, hy, h => by
    obtain ⟨hx1, hx2⟩ := List.pairwise_cons.1 hx
    obtain ⟨hy1, hy2⟩ := List.pairwise_cons.1 hy
    have e : x = y := by
      rcases List.mem_cons.1 ((h x).1 (by simp)) with e | e
      · exact e
      · rcases List.mem_cons.1 ((h y).2 (by simp)) with e' | e'
        · exact e'.symm
        · have := hx1 y e'; have := hy1 x e; omega
    subst e
    rw [rise_ext hx2 hy2 (fun z => ?_)]
    have hz := h z
    simp only [List.mem_cons] at hz
    constructor
    · intro hm
      rcases hz.1 (.inr hm) with e | e
      · subst e; exact absurd (hx1 z hm) (by omega)
      · exact e
    · intro hm
      rcases hz.2 (.inr hm) with e | e
      · subst e; exact absurd (hy1 z hm) (by omega)
      · exact e

theorem calls_sort (w : World) (base : Nat) (v : Value) (xs : List Int) (h : OwnI w base 3 v xs) (hx : xs.length < 4611686018427387904) :
    Calls Try.prog 103 #[v] w fun e w' => e = .returned (.tuple #[]) ∧ OwnI w' base 3 v (sortI xs) ∧ Chg (fun i => v.ownBlock = some i) w w' := by
  rcases h.2 with ⟨rfl, h0⟩ | ⟨g, cap, cur, rfl, hg, hh, h1, h2, h3, h4⟩
  · have hn : xs = [] := List.eq_nil_of_length_eq_zero h0
    subst hn
    refine (AnyM.slices_Sort_int_none lay_sortI none 0 w).mono ?_
    rintro e w' ⟨rfl, rfl⟩
    exact ⟨rfl, by simpa [sortI] using h, Chg.refl _ _⟩
  · have hH : Holds encZ w g 0 xs.toArray := holds_of_block_i hh (by simpa using h4)
    refine (AnyM.slices_Sort_int lay_sortI g 0 cap xs w hH (Array.getElem?_eq_some_iff.1 hh).1 hx).mono ?_
    rintro e w' ⟨rfl, n, os, rfl⟩
    refine ⟨rfl, ?_, ?_⟩
    · have := ownsRow_sorted_i (n := n) (os := os) (ss := xs) (ts := sortI xs) (sortI_len xs) hg hh h1 h2 (by simpa using h3)
      unfold OwnI
      rw [sortI_len]
      exact this
    · exact (Chg.of_grown (grownBy_sorted_i _)).mono (fun i hi => hi)

section
variable {α : Type} {P : Program} {k : TypeId} {ev : α → Value} {w : World} {b : Nat} {L : List (Int × α)}
theorem MapIs.owns (hk : P.underlying k = some (.int .i64)) (h : MapIs (Value.int .i64) ev okI w b L) (hL : L.length ≤ maxLen) :
    ∃ D : DataW Unit, w.ownsMap P k (fun _ => some (.lit (.bool true), [])) b L.length D ∧ (intKeys D).Perm (L.map (·.1)) ∧ Maps.size D = L.length := by
  obtain ⟨es, clock, hb, hst, hm, hg⟩ := h
  have hlen : es.size = L.length := by have := congrArg List.length hm; simpa using this
  have hkeys : es.toList.map (·.key) = L.map (fun p => Value.int .i64 p.1) := by
    have := congrArg (List.map (fun q : Value × Value => q.1)) hm
    simpa [List.map_map, Function.comp_def] using this
  have hrd : ∀ x ∈ es.toList, ∃ y, Go.WideElems.rd (H := Unit) P k (fun _ => some (.lit (.bool true), [])) x = some y := by
    intro x hx
    have : x.key ∈ L.map (fun p => Value.int .i64 p.1) := hkeys ▸ List.mem_map.2 ⟨x, hx, rfl⟩
    obtain ⟨p, hp, he⟩ := List.mem_map.1 this
    have hko := keyOf_int_mk (k := k) hk (show (Lit.int .i64 p.1).wf = true from hg p hp)
    exact ⟨_, Go.WideElems.rd_mk (born := x.born) (val := x.val) (he ▸ hko) rfl⟩
  refine ⟨_, ⟨es, clock, hb, ⟨by omega, hst, hrd⟩, by omega, rfl⟩, ?_, ?_⟩
  · show (((es.toList.map (Go.WideElems.rg (H := Unit) P k (fun _ => some (.lit (.bool true), [])))).foldr DataW.insert []).map (fun p => Go.intOf p.1)).Perm _
    refine ((Go.WideShapes.sorted_perm _).map _).trans ?_
    rw [List.map_map]
    have e : es.toList.map ((fun p : Lit × DataW Unit => Go.intOf p.1) ∘ Go.WideElems.rg (H := Unit) P k (fun _ => some (.lit (.bool true), []))) = L.map (·.1) := by
      apply List.ext_getElem?
      intro i
      simp only [List.getElem?_map]
      have h1 := congrArg (·[i]?) hkeys
      simp only [List.getElem?_map] at h1
      cases hi : es.toList[i]? with
      | none =>
        rw [hi] at h1
        cases hl : L[i]? with
        | none => rfl
        | some p => rw [hl] at h1; cases h1
      | some x =>
        rw [hi] at h1
        cases hl : L[i]? with
        | none => rw [hl] at h1; cases h1
        | some p =>
          rw [hl] at h1
          simp only [Option.map_some, Option.some.injEq] at h1 ⊢
          obtain ⟨y, hy⟩ := hrd x (List.mem_of_getElem? hi)
          have hk1 := Go.WideElems.rd_key hy
          have hko := keyOf_int_mk (k := k) hk (show (Lit.int .i64 p.1).wf = true from hg p (List.mem_of_getElem? hl))
          rw [h1, hko] at hk1
          injection hk1 with hk1
          show Go.intOf (Go.WideElems.rg (H := Unit) P k _ x).1 = p.1
          rw [Go.WideElems.rg_of hy, ← hk1]
          rfl
    rw [e]
  · show ((es.toList.map (Go.WideElems.rg (H := Unit) P k (fun _ => some (.lit (.bool true), [])))).foldr DataW.insert []).length = _
    rw [(Go.WideShapes.sorted_perm _).length_eq]
    simpa using hlen
end

theorem sorts_in (m : Nat) : AnyZI.SortsIn Try.prog lay_sortedI_ren Fence.wide m :=
  ⟨fun blk off cap ss W hH hblk hsz => callsIn_wide.2 (AnyM.slices_Sort_int lay_sortI blk off cap ss W hH hblk hsz),
   fun p cap W => callsIn_wide.2 (AnyM.slices_Sort_int_none lay_sortI p cap W)⟩

section
variable {α : Type} {ev : α → Value} {b : Nat} {L : List (Int × α)}
theorem calls_sorted (g : Nat) (lb : Array Value) (eg : ∀ args w, (callFunc g args).run Try.prog w = .ok (.enter g args) w) (S : List Int → Prop) (N : Nat) (hN : N ≤ 1000000) (w : World) (hseq : SeqGives Fence.wide 2 Try.prog g lb encZ S N w) :
    Calls Try.prog 109 #[.func (.func g) #[] lb] w fun e w' => ∃ (v : Value) (ss : List Int), e = .returned v ∧ S ss ∧ OwnI w' w.heap.size 3 v (sortI ss) ∧ Chg (fun _ => False) w w' := by
  refine (callsIn_wide (n := 5)).1 ((AnyZI.sorted_in lay_sortedI Fence.wide 5 trivial trivial trivial trivial rfl (by omega) (sorts_in _) (enters_of Try.func103 (by kernel_rfl) rfl) g lb trivial eg S N (by unfold maxLen; omega) (by omega) w hseq).mono ?_)
  rintro e w' ⟨v, ss, rfl, hS, hrow, hnil, hb⟩
  refine ⟨v, ss, rfl, hS, ?_, Chg.of_below' hb⟩
  unfold OwnI
  rw [sortI_len]
  exact hrow
/-- What maps.Keys hands back, sorted. -/
def KeysIs (w : World) (L : List Int) (e : Ending) (w' : World) : Prop := ∃ A n c, e = .returned (.slice A n c) ∧ OwnI w' w.heap.size 3 (.slice A n c) (sortI L) ∧ Chg (fun _ => False) w w'
theorem keysB_calls (w : World) : Calls Try.prog 123 #[.map (some b)] w fun e w' => e = .returned (.func (.func 144) #[] #[.pointer (some ⟨w.heap.size, 0, none⟩)]) ∧ w' = w.alloc (.cells #[.map (some b)] 116) :=
  (callsIn_wide (n := 5)).1 (AnyZI.keys_in lay_keysB Fence.wide 5 trivial rfl (some b) w)
theorem keysW_calls (w : World) : Calls Try.prog 110 #[.map (some b)] w fun e w' => e = .returned (.func (.func 127) #[] #[.pointer (some ⟨w.heap.size, 0, none⟩)]) ∧ w' = w.alloc (.cells #[.map (some b)] 127) :=
  (callsIn_wide (n := 5)).1 (AnyZI.keys_in lay_keysW Fence.wide 5 trivial rfl (some b) w)
theorem sortedB_calls (w : World) (h : MapIs (Value.int .i64) ev okI w b L) (hL : L.length ≤ 1000000) :
    Calls Try.prog 109 #[.func (.func 144) #[] #[.pointer (some ⟨w.heap.size, 0, none⟩)]] (w.alloc (.cells #[.map (some b)] 116)) fun e w' => KeysIs (w.alloc (.cells #[.map (some b)] 116)) (L.map (·.1)) e w' := by
  obtain ⟨D, hown, hperm, hsz⟩ := (h.alloc (.cells #[.map (some b)] 116)).owns Try.underlying3 (by unfold maxLen; omega)
  have hseq := AnyZI.keys_gives (ρ := lay_keysB_ren) { lay_keysB with } Fence.wide 2 trivial rfl (by omega) w.heap.size b L.length D (w.alloc (.cells #[.map (some b)] 116)) (by simp) ((Blk.new w _ _).cell 0) hown
  rw [hsz] at hseq
  refine (calls_sorted 144 #[.pointer (some ⟨w.heap.size, 0, none⟩)] (enters_of Try.func144 (by kernel_rfl) rfl) _ L.length hL _ hseq).mono ?_
  rintro e w' ⟨v, ss, rfl, hS, ho, hc⟩
  rw [sortI_of_perm (hS.trans hperm)] at ho
  obtain ⟨A, c, rfl, _⟩ := ho.slice
  exact ⟨A, _, c, rfl, ho, hc⟩
theorem sortedW_calls (w : World) (h : MapIs (Value.int .i64) ev okI w b L) (hL : L.length ≤ 1000000) :
    Calls Try.prog 109 #[.func (.func 127) #[] #[.pointer (some ⟨w.heap.size, 0, none⟩)]] (w.alloc (.cells #[.map (some b)] 127)) fun e w' => KeysIs (w.alloc (.cells #[.map (some b)] 127)) (L.map (·.1)) e w' := by
  obtain ⟨D, hown, hperm, hsz⟩ := (h.alloc (.cells #[.map (some b)] 127)).owns Try.underlying3 (by unfold maxLen; omega)
  have hseq := AnyZI.keys_gives (ρ := lay_keysW_ren) { lay_keysW with } Fence.wide 2 trivial rfl (by omega) w.heap.size b L.length D (w.alloc (.cells #[.map (some b)] 127)) (by simp) ((Blk.new w _ _).cell 0) hown
  rw [hsz] at hseq
  refine (calls_sorted 127 #[.pointer (some ⟨w.heap.size, 0, none⟩)] (enters_of Try.func127 (by kernel_rfl) rfl) _ L.length hL _ hseq).mono ?_
  rintro e w' ⟨v, ss, rfl, hS, ho, hc⟩
  rw [sortI_of_perm (hS.trans hperm)] at ho
  obtain ⟨A, c, rfl, _⟩ := ho.slice
  exact ⟨A, _, c, rfl, ho, hc⟩
end
end Go.Proofs.Ytgmekeeemimnpaa
