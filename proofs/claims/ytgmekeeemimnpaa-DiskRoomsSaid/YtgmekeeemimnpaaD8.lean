/- Package disk's Names: a map's names, collected and sorted by the library. -/
import Derived.Test.YtgmekeeemimnpaaD7
namespace Go.Proofs.Ytgmekeeemimnpaa
open Go Go.Maps Go.MapKept Go.RowKit Go.Sort Go.Shelf

def encL (l : Str) : List Value := [encStr l]
theorem encL_len (l : Str) : (encL l).length = 1 := rfl
theorem flat_encL (xs : List Str) : xs.flatMap encL = xs.map encStr := by
  induction xs with
  | nil => rfl
  | cons x xs ih => rw [List.flatMap_cons, ih]; rfl
/-- Names, rising. -/
def sortS (xs : List Str) : List Str := xs.mergeSort leB
theorem sortS_perm (xs : List Str) : (sortS xs).Perm xs := List.mergeSort_perm xs leB
theorem sortS_len (xs : List Str) : (sortS xs).length = xs.length := (sortS_perm xs).length_eq
theorem sortS_of_perm {xs ys : List Str} (h : xs.Perm ys) : sortS xs = sortS ys := mergeSort_of_perm h

section
variable {α : Type} {P : Program} {k : TypeId} {ev : α → Value} {w : World} {b : Nat} {L : List (Str × α)}
theorem MapIs.ownsS (hk : P.underlying k = some .string) (h : MapIs encStr ev okS w b L) (hL : L.length ≤ maxLen) :
    ∃ D : DataW Unit, w.ownsMap P k (fun _ => some (.lit (.bool true), [])) b L.length D ∧ (strKeys D).Perm (L.map (·.1)) ∧ Maps.size D = L.length := by
  obtain ⟨es, clock, hb, hst, hm, hg⟩ := h
  have hlen : es.size = L.length := by have := congrArg List.length hm; simpa using this
  have hkeys : es.toList.map (·.key) = L.map (fun p => encStr p.1) := by
    have := congrArg (List.map (fun q : Value × Value => q.1)) hm
    simpa [List.map_map, Function.comp_def] using this
  have hko' : ∀ p ∈ L, keyOf P k (encStr p.1) = some (.string p.1) := fun p hp => by
    have := Go.WideMaps.keyOf_string_mk (k := k) hk (s := ⟨p.1.toArray⟩) (by simpa [okS, ByteArray.size] using hg p hp)
    simpa using this
  have hrd : ∀ x ∈ es.toList, ∃ y, Go.WideElems.rd (H := Unit) P k (fun _ => some (.lit (.bool true), [])) x = some y := by
    intro x hx
    have : x.key ∈ L.map (fun p => encStr p.1) := hkeys ▸ List.mem_map.2 ⟨x, hx, rfl⟩
    obtain ⟨p, hp, he⟩ := List.mem_map.1 this
    exact ⟨_, Go.WideElems.rd_mk (born := x.born) (val := x.val) (he ▸ hko' p hp) rfl⟩
  refine ⟨_, ⟨es, clock, hb, ⟨by omega, hst, hrd⟩, by omega, rfl⟩, ?_, ?_⟩
  · show (((es.toList.map (Go.WideElems.rg (H := Unit) P k (fun _ => some (.lit (.bool true), [])))).foldr DataW.insert []).map (fun p => strOf p.1)).Perm _
    refine ((Go.WideShapes.sorted_perm _).map _).trans ?_
    rw [List.map_map]
    have e : es.toList.map ((fun p : Lit × DataW Unit => strOf p.1) ∘ Go.WideElems.rg (H := Unit) P k (fun _ => some (.lit (.bool true), []))) = L.map (·.1) := by
      apply List.ext_getElem?
      intro i
      simp only [List.getElem?_map]
      have h1 := congrArg (·[i]?) hkeys
      simp only [List.getElem?_map] at h1
      cases hi : es.toList[i]? with
      | none =>
        rw [hi] at h1
        cases hl : L[i]? with
        | none => rfl
        | some p => rw [hl] at h1; cases h1
      | some x =>
        rw [hi] at h1
        cases hl : L[i]? with
        | none => rw [hl] at h1; cases h1
        | some p =>
          rw [hl] at h1
          simp only [Option.map_some, Option.some.injEq] at h1 ⊢
          obtain ⟨y, hy⟩ := hrd x (List.mem_of_getElem? hi)
          have hk1 := Go.WideElems.rd_key hy
          rw [h1, hko' p (List.mem_of_getElem? hl)] at hk1
          injection hk1 with hk1
          show strOf (Go.WideElems.rg (H := Unit) P k _ x).1 = p.1
          rw [Go.WideElems.rg_of hy, ← hk1]
          rfl
    rw [e]
  · show ((es.toList.map (Go.WideElems.rg (H := Unit) P k (fun _ => some (.lit (.bool true), [])))).foldr DataW.insert []).length = _
    rw [(Go.WideShapes.sorted_perm _).length_eq]
    simpa using hlen
end

theorem sorts_inS (m : Nat) : AnyZ.SortsIn Try.prog lay_sortedD_ren Fence.wide m :=
  ⟨fun blk off cap ss W hH hblk hsz => callsIn_wide.2 (AnyM.slices_Sort_string lay_sortD blk off cap ss W hH hblk hsz),
   fun p cap W => callsIn_wide.2 (AnyM.slices_Sort_string_none lay_sortD p cap W)⟩
/-- What sorted names are: a new slice. -/
def NamesIs (w : World) (ss : List Str) (e : Ending) (w' : World) : Prop := ∃ A n c, e = .returned (.slice A n c) ∧ n = ss.length ∧ OwnR encL 1 w' w.heap.size 9 (.slice A n c) ss ∧ Chg (fun _ => False) w w'
section
variable {α : Type} {ev : α → Value} {b : Nat} {L : List (Str × α)}
theorem keysS_calls (w : World) : Calls Try.prog 119 #[.map (some b)] w fun e w' => e = .returned (.func (.func 132) #[] #[.pointer (some ⟨w.heap.size, 0, none⟩)]) ∧ w' = w.alloc (.cells #[.map (some b)] 154) :=
  (callsIn_wide (n := 5)).1 (AnyZ.keys_in lay_keysD Fence.wide 5 trivial rfl (some b) w)
theorem sortedS_calls (w : World) (h : MapIs encStr ev okS w b L) (hL : L.length ≤ 1000000) :
    Calls Try.prog 118 #[.func (.func 132) #[] #[.pointer (some ⟨w.heap.size, 0, none⟩)]] (w.alloc (.cells #[.map (some b)] 154)) fun e w' => NamesIs (w.alloc (.cells #[.map (some b)] 154)) (sortS (L.map (·.1))) e w' := by
  obtain ⟨D, hown, hperm, hsz⟩ := (h.alloc (.cells #[.map (some b)] 154)).ownsS Try.underlying9 (by unfold maxLen; omega)
  have hseq : SeqGives Fence.wide 2 Try.prog 132 #[.pointer (some ⟨w.heap.size, 0, none⟩)] encStr (fun ss => ss.Perm (strKeys D)) (Maps.size D) (w.alloc (.cells #[.map (some b)] 154)) :=
    AnyZ.keys_gives (ρ := lay_keysD_ren) { lay_keysD with } Fence.wide _ trivial rfl (by omega) w.heap.size b L.length D (w.alloc (.cells #[.map (some b)] 154)) (by simp) ((Blk.new w _ _).cell 0) hown
  rw [hsz] at hseq
  refine ((callsIn_wide (n := 5)).1 (AnyZ.sorted_in lay_sortedD Fence.wide 5 trivial trivial trivial trivial rfl (by omega) (sorts_inS _) (enters_of Try.func131 (by kernel_rfl) rfl) 132 #[.pointer (some ⟨w.heap.size, 0, none⟩)] trivial (enters_of Try.func132 (by kernel_rfl) rfl) _ L.length (by unfold maxLen; omega) (by omega) _ hseq)).mono ?_
  rintro e w' ⟨v, ss, rfl, hS, hrow, hnil, hb⟩
  have hs : ss.mergeSort (fun x y => decide (x ≤ y)) = sortS (L.map (·.1)) := sortS_of_perm (hS.trans hperm)
  have hlen : ss.length = (sortS (L.map (·.1))).length := by rw [sortS_len]; exact (hS.trans hperm).length_eq
  rw [hs, hlen, ← flat_encL] at hrow
  have ho : OwnR encL 1 w' (w.alloc (.cells #[.map (some b)] 154)).heap.size 9 v (sortS (L.map (·.1))) := hrow
  obtain ⟨A, c, rfl, _⟩ := ho.slice
  exact ⟨A, _, c, rfl, rfl, ho, Chg.of_below' hb⟩
end
section
variable {w : World} {d m : Nat} {s : DSt}
def DNames (w : World) (L : Files) (e : Ending) (w' : World) : Prop := ∃ A n c, e = .returned (.tuple #[.slice A n c, .int .i64 0]) ∧ n = L.length ∧ Recs encL 1 [] w' A n (sortS (L.map (·.1))) ∧ n ≤ c ∧ c ≤ maxLen ∧ Chg (fun _ => False) w w'
set_option maxRecDepth 100000 in
set_option maxHeartbeats 2000000 in
theorem names_calls (w : World) (h : DiskAt w d m s) (hd : s.down = false) (hL : s.L.length ≤ 1000000) : Calls Try.prog 93 #[.pointer (some ⟨d, 0, none⟩)] w (DNames w s.L) := by
  have c0 : w.cell? ⟨d, 0, none⟩ = some (.map (some m)) := h.blk.cell 0
  have c3 : w.cell? ⟨d, 3, none⟩ = some (.bool s.down) := h.blk.cell 3
  rw [hd] at c3
  have HS := hideIt (sortedS_calls w h.map hL)
  have HK := hideIt (keysS_calls (b := m) w)
  clear h hd
  go_enter Try.func93, Try.ntmps93
  go_wp2_with (first
    | (go_at_call 119; refine HK.out.mono ?_; rintro e w1 ⟨rfl, rfl⟩)
    | (go_at_call 118; refine HS.out.mono ?_; rintro e w2 ⟨A, n, c, rfl, hn, ho, k2⟩; have HO := hideIt ho; have HN := hideIt hn; clear ho hn))
  go_ret2
  obtain ⟨A0, c0', e0, q1, q2, -, -⟩ := HO.out.slice
  cases e0
  exact ⟨_, _, _, rfl, by rw [sortS_len, List.length_map], HO.out.recs encL_len rfl, q1, q2, ((Chg.refl _ w).alloc _).trans k2⟩
end
end Go.Proofs.Ytgmekeeemimnpaa
