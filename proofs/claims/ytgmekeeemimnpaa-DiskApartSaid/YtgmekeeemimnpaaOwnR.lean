/- Slices of records that the call itself made: append, cut, store. -/
import Derived.Test.YtgmekeeemimnpaaRec
import Derived.ArgAppend
namespace Go.Proofs.Ytgmekeeemimnpaa
open Go Go.Maps Go.MapKept Go.RowKit

section
variable {α : Type} {enc : α → List Value} {K : Nat} {d : α}
theorem flat_len (hK : ∀ a, (enc a).length = K) : ∀ xs : List α, (xs.flatMap enc).length = xs.length * K
  | [] => by simp
  | a :: xs => by rw [List.flatMap_cons, List.length_append, hK, flat_len hK xs, List.length_cons, Nat.add_mul, Nat.one_mul, Nat.add_comm]
theorem flat_get (hK : ∀ a, (enc a).length = K) : ∀ (xs : List α) (i j : Nat), i < xs.length → j < K → (xs.flatMap enc)[i * K + j]? = (enc (xs.getD i d))[j]?
  | [], i, j, h, _ => absurd h (by simp)
  | a :: xs, 0, j, _, hj => by
    rw [List.flatMap_cons, Nat.zero_mul, Nat.zero_add, List.getElem?_append_left (by rw [hK]; exact hj)]
    rfl
  | a :: xs, i + 1, j, h, hj => by
    rw [List.flatMap_cons, List.getElem?_append_right (by rw [hK, Nat.add_mul]; omega), hK, show (i + 1) * K + j - K = i * K + j by rw [Nat.add_mul]; omega, flat_get hK xs i j (by simpa using h) hj]
    rfl
theorem flat_set (hK : ∀ a, (enc a).length = K) : ∀ (xs : List α) (i j : Nat) (u : Value) (a' : α), i < xs.length → j < K → enc a' = (enc (xs.getD i d)).set j u → (xs.flatMap enc).set (i * K + j) u = (xs.set i a').flatMap enc
  | [], i, j, u, a', h, _, _ => absurd h (by simp)
  | a :: xs, 0, j, u, a', _, hj, he => by
    rw [List.flatMap_cons, Nat.zero_mul, Nat.zero_add, List.set_append_left _ _ (by rw [hK]; exact hj), List.set_cons_zero, List.flatMap_cons, he]
    rfl
  | a :: xs, i + 1, j, u, a', h, hj, he => by
    rw [List.flatMap_cons, List.set_append_right _ _ (by rw [hK, Nat.add_mul]; omega), hK, show (i + 1) * K + j - K = i * K + j by rw [Nat.add_mul]; omega, flat_set hK xs i j u a' (by simpa using h) hj (by rw [he]; rfl), List.set_cons_succ, List.flatMap_cons]
theorem flat_take (hK : ∀ a, (enc a).length = K) (xs : List α) (k : Nat) : (xs.take k).flatMap enc = (xs.flatMap enc).take (k * K) := by
  rcases Nat.lt_or_ge xs.length k with h | h
  · have h1 : xs.take k = xs := List.take_of_length_le (by omega)
    rw [h1]
    exact (List.take_of_length_le (by rw [flat_len hK]; exact Nat.mul_le_mul_right _ (by omega))).symm
  · have h2 : xs.flatMap enc = (xs.take k).flatMap enc ++ (xs.drop k).flatMap enc := by rw [← List.flatMap_append, List.take_append_drop]
    rw [h2, List.take_left' (by rw [flat_len hK, List.length_take, Nat.min_eq_left h])]
end

/-- v is a slice of the call's own (from block 'base' on) that holds the records xs. -/
def OwnR {α : Type} (enc : α → List Value) (K : Nat) (w : World) (base e : Nat) (v : Value) (xs : List α) : Prop := w.ownsRow base e K v xs.length (xs.flatMap enc)
section
variable {α : Type} {enc : α → List Value} {K : Nat} {d : α} {w w' : World} {base e : Nat} {v : Value} {xs : List α}
theorem OwnR.nil (w : World) (base e : Nat) : OwnR enc K w base e (.slice none 0 0) [] := ⟨by simp, .inl ⟨rfl, rfl⟩⟩
theorem OwnR.empty (w : World) (base e : Nat) (hb : base ≤ w.heap.size) : OwnR enc K (w.alloc (.cells #[] e)) base e (.slice (some ⟨w.heap.size, 0, none⟩) 0 0) [] :=
  ⟨by simp, .inr ⟨w.heap.size, 0, #[], rfl, hb, (heap_alloc w _).1, Nat.le_refl _, Nat.zero_le _, by simp, by simp⟩⟩
theorem OwnR.slice (h : OwnR enc K w base e v xs) : ∃ A c, v = .slice A xs.length c ∧ xs.length ≤ c ∧ c ≤ maxLen ∧ (∀ b off, A = some ⟨b, off, none⟩ → base ≤ b) ∧ (A = none → xs.length = 0 ∧ c = 0) := by
  rcases h.2 with ⟨rfl, h0⟩ | ⟨g, cap, cur, rfl, hg, _, h1, h2, _⟩
  · exact ⟨none, 0, by rw [h0], by omega, by unfold maxLen; omega, fun b off e => (by cases e), fun _ => ⟨h0, rfl⟩⟩
  · exact ⟨_, cap, rfl, h1, h2, fun b off e => (by cases e; exact hg), fun e => by cases e⟩
theorem OwnR.recs (hK : ∀ a, (enc a).length = K) (h : OwnR enc K w base e v xs) {A : Option Addr} {n c : Nat} (hv : v = .slice A n c) : Recs enc K d w A n xs := by
  rcases h.2 with ⟨rfl, h0⟩ | ⟨g, cap, cur, rfl, hg, hh, h1, h2, h3, h4⟩
  · cases hv
    exact ⟨h0, fun h => absurd h (by omega)⟩
  · cases hv
    refine ⟨rfl, fun _ => ⟨g, 0, rfl, (Array.getElem?_eq_some_iff.1 hh).1, fun i hi j u hu => ?_⟩⟩
    have hj : j < K := by rw [← hK (xs.getD i d)]; exact (List.getElem?_eq_some_iff.1 hu).1
    have hlt : i * K + j < xs.length * K := by
      have : (i + 1) * K ≤ xs.length * K := Nat.mul_le_mul_right _ hi
      rw [Nat.add_mul] at this; omega
    rw [Nat.zero_add, World.ownsRow.cellAt h _ hlt, flat_get (d := d) hK xs i j hi hj, hu]
theorem OwnR.chg {S : Nat → Prop} (h : OwnR enc K w base e v xs) (hc : Chg S w w') (hS : ∀ g, v.ownBlock = some g → ¬ S g) : OwnR enc K w' base e v xs := by
  refine ⟨h.1, ?_⟩
  rcases h.2 with ⟨rfl, h0⟩ | ⟨g, cap, cur, rfl, hg, hh, rest⟩
  · exact .inl ⟨rfl, h0⟩
  · exact .inr ⟨g, cap, cur, rfl, hg, (hc.block g (Array.getElem?_eq_some_iff.1 hh).1 (hS g rfl)).trans hh, rest⟩
theorem OwnR.new (h : OwnR enc K w base e v xs) (hc : Chg (fun _ => False) w w') : OwnR enc K w' base e v xs := h.chg hc (fun _ _ h => h)
theorem OwnR.alloc (h : OwnR enc K w base e v xs) (o : Obj) : OwnR enc K (w.alloc o) base e v xs := h.new ((Chg.refl _ w).alloc o)
theorem OwnR.drew (h : OwnR enc K w base e v xs) : OwnR enc K w.drew base e v xs := h
theorem OwnR.low (h : OwnR enc K w base e v xs) {b' : Nat} (hb : b' ≤ base) : OwnR enc K w b' e v xs := by
  refine ⟨h.1, ?_⟩
  rcases h.2 with h0 | ⟨g, cap, cur, h1, hg, rest⟩
  · exact .inl h0
  · exact .inr ⟨g, cap, cur, h1, by omega, rest⟩
theorem OwnR.base_le (h : OwnR enc K w base e v xs) {g : Nat} (hg : v.ownBlock = some g) : base ≤ g := by
  rcases h.2 with ⟨rfl, _⟩ | ⟨g', cap, cur, rfl, hb, _⟩
  · cases hg
  · cases hg; exact hb
theorem OwnR.lt (h : OwnR enc K w base e v xs) {g : Nat} (hg : v.ownBlock = some g) : g < w.heap.size := by
  rcases h.2 with ⟨rfl, _⟩ | ⟨g', cap, cur, rfl, _, hh, _⟩
  · cases hg
  · cases hg; exact (Array.getElem?_eq_some_iff.1 hh).1
/-- One cell of one record is stored. -/
theorem OwnR.set_ (hK : ∀ a, (enc a).length = K) {g n c : Nat} (h : OwnR enc K w base e (.slice (some ⟨g, 0, none⟩) n c) xs) (hn : n = xs.length) {i j : Nat} (hi : i < xs.length) (hj : j < K) (u : Value) (a' : α) (he : enc a' = (enc (xs.getD i d)).set j u) :
    OwnR enc K (w.setCell ⟨g, i * K + j, none⟩ u) base e (.slice (some ⟨g, 0, none⟩) n c) (xs.set i a') := by
  subst hn
  have := (World.ownsRow.stored h (i * K + j) u).1
  rw [flat_set (d := d) hK xs i j u a' hi hj he] at this
  unfold OwnR
  rw [List.length_set]
  exact this
theorem flat_seg (hK : ∀ a, (enc a).length = K) : ∀ (xs : List α) (i : Nat) (a' : α), i < xs.length → (xs.set i a').flatMap enc = (xs.flatMap enc).take (i * K) ++ enc a' ++ (xs.flatMap enc).drop (i * K + K)
  | [], i, a', h => absurd h (by simp)
  | a :: xs, 0, a', _ => by
    rw [List.set_cons_zero, List.flatMap_cons, List.flatMap_cons, Nat.zero_mul, Nat.zero_add, List.take_zero, List.nil_append, List.drop_append, hK, Nat.sub_self, List.drop_of_length_le (by rw [hK]; exact Nat.le_refl _)]
    rfl
  | a :: xs, i + 1, a', h => by
    have e0 : (enc a).length = K := hK a
    have e1 : (enc a ++ xs.flatMap enc).take ((i + 1) * K) = enc a ++ (xs.flatMap enc).take (i * K) := by
      rw [List.take_append, List.take_of_length_le (l := enc a) (by rw [e0, Nat.add_mul]; omega), e0, show (i + 1) * K - K = i * K by rw [Nat.add_mul]; omega]
    have e2 : (enc a ++ xs.flatMap enc).drop ((i + 1) * K + K) = (xs.flatMap enc).drop (i * K + K) := by
      rw [List.drop_append, List.drop_of_length_le (l := enc a) (by rw [e0, Nat.add_mul]; omega), e0, List.nil_append, show (i + 1) * K + K - K = i * K + K by rw [Nat.add_mul]; omega]
    rw [List.set_cons_succ, List.flatMap_cons, List.flatMap_cons, flat_seg hK xs i a' (by simpa using h), e1, e2]
    simp [List.append_assoc]
/-- One record is stored whole. -/
theorem OwnR.storeAll {P : Program} (hK : ∀ a, (enc a).length = K) (h1 : ∀ a, ∀ u ∈ enc a, u.oneCell' = true) (hie : (P.info? e).map (·.size) = some K) {g n c : Nat} (h : OwnR enc K w base e (.slice (some ⟨g, 0, none⟩) n c) xs) (hn : n = xs.length) {i : Nat} (hi : i < xs.length) (a' : α) :
    ∃ w', (storeVar e ⟨g, i * K, none⟩ (.agg (enc a').toArray)).run P w = .ok () w' ∧ OwnR enc K w' base e (.slice (some ⟨g, 0, none⟩) n c) (xs.set i a') ∧ Chg (fun i => i = g) w w' := by
  subst hn
  obtain ⟨ie, hie, hsz⟩ := Option.map_eq_some_iff.1 hie
  rcases h.2 with ⟨h', _⟩ | ⟨g', cap, cur, h', hb, hg, hnc, hcm, hcs, htake⟩
  · cases h'
  · simp only [Value.slice.injEq, Option.some.injEq, Addr.mk.injEq, and_true, true_and] at h'
    obtain ⟨rfl, rfl⟩ := h'
    have hle : (i + 1) * K ≤ xs.length * K := Nat.mul_le_mul_right _ hi
    have hle2 : xs.length * K ≤ c * K := Nat.mul_le_mul_right _ hnc
    rw [Nat.add_mul, Nat.one_mul] at hle
    have hr := run_storeCells_at P g (i * K) e (enc a') 0 cur w hg (by rw [hK, hcs]; omega) (h1 a')
    obtain ⟨cur', hcur'⟩ : ∃ cur', (cur.toList.take (i * K + 0) ++ enc a' ++ cur.toList.drop (i * K + 0 + (enc a').length)).toArray = cur' := ⟨_, rfl⟩
    rw [hcur'] at hr
    refine ⟨w.setRow g cur', ?_, ⟨by rw [flat_len hK, List.length_set], .inr ⟨g, c, cur', by rw [List.length_set], hb, setRow_heap w g cur cur' _ _ hg, by rw [List.length_set]; exact hnc, hcm, ?_, ?_⟩⟩, ⟨rfl, rfl, rfl, by simp, fun j _ hne => setRow_other w g j _ hne⟩⟩
    · simp [storeVar, Value.cells, sizeOf, typeInfo, hie, hsz, hK, hr, Result.andThen]
    · rw [← hcur']; simp [hK]; omega
    · rw [flat_seg hK xs i a' hi, ← htake, List.length_set, ← hcur']
      have hcl : cur.toList.length = c * K := by simpa using hcs
      simp only [Nat.add_zero]
      rw [hK, List.take_take, Nat.min_eq_left (by omega), List.drop_take, List.append_assoc, List.append_assoc]
      rw [List.take_append, List.take_of_length_le (by rw [List.length_take]; omega), List.length_take, Nat.min_eq_left (by omega)]
      congr 1
      rw [List.take_append, List.take_of_length_le (by rw [hK]; omega), hK]
      congr 1
      congr 1
      omega
theorem OwnR.free {g n c : Nat} (h : OwnR enc K w base e (.slice (some ⟨g, 0, none⟩) n c) xs) (hn : n = xs.length) (j : Nat) : w.frozen? ⟨g, j, none⟩ = false := by
  subst hn
  exact World.ownsRow.frozenAt h j
end

section
variable {α : Type} {enc : α → List Value} {K : Nat} {d : α} {w w' : World} {A : Option Addr} {n : Nat} {xs : List α}
theorem Recs.cells_at (hK : ∀ a, (enc a).length = K) (h : Recs enc K d w A n xs) {ad : Addr} (hA : A = some ad) : ∀ (j : Nat) (u : Value), (xs.flatMap enc)[j]? = some u → w.cell? (ad.add j) = some u := by
  intro j u hu
  have hjl : j < xs.length * K := by rw [← flat_len hK]; exact (List.getElem?_eq_some_iff.1 hu).1
  have hK0 : 0 < K := by rcases Nat.eq_zero_or_pos K with h0 | h0; subst h0; simp at hjl; exact h0
  have hi : j / K < xs.length := (Nat.div_lt_iff_lt_mul hK0).2 hjl
  have hj : j % K < K := Nat.mod_lt _ hK0
  have hd : j / K * K + j % K = j := by rw [Nat.mul_comm]; exact Nat.div_add_mod j K
  obtain ⟨b, off, e, hb, hc⟩ := h.at_ (by rw [← h.len]; exact Nat.lt_of_le_of_lt (Nat.zero_le _) hi)
  rw [hA] at e
  cases e
  have h1 := flat_get (d := d) hK xs (j / K) (j % K) hi hj
  rw [hd, hu] at h1
  have h2 := hc (j / K) (by rw [← h.len]; exact hi) (j % K) u h1.symm
  rw [hd] at h2
  rw [Go.WideShapes.add_plain]
  exact h2
theorem Recs.take (h : Recs enc K d w A n xs) {k : Nat} (hk : k ≤ n) : Recs enc K d w A k (xs.take k) :=
  ⟨by rw [List.length_take, h.len]; omega, fun hp => by
    obtain ⟨b, off, e, hb, hc⟩ := h.at_ (by omega)
    refine ⟨b, off, e, hb, fun i hi j v hv => hc i (by omega) j v ?_⟩
    have : (xs.take k).getD i d = xs.getD i d := by simp [List.getD, hi]
    rw [this] at hv
    exact hv⟩
/-- Where 's[k:]' lies, of elements of K cells. -/
def cutK (A : Option Addr) (c k K : Nat) : Option Addr := if c = k then A else A.map (·.add (k * K))
theorem Recs.drop (h : Recs enc K d w A n xs) {k c : Nat} (hk : k ≤ n) (hc : n ≤ c) : Recs enc K d w (cutK A c k K) (n - k) (xs.drop k) :=
  ⟨by rw [List.length_drop, h.len], fun hp => by
    obtain ⟨b, off, rfl, hb, hcell⟩ := h.at_ (by omega)
    refine ⟨b, off + k * K, by unfold cutK; rw [if_neg (by omega)]; simp [Addr.add], hb, fun i hi j v hv => ?_⟩
    have e1 : (xs.drop k).getD i d = xs.getD (k + i) d := by simp [List.getD, List.getElem?_drop]
    rw [e1] at hv
    have := hcell (k + i) (by omega) j v hv
    rw [← this]
    congr 2
    rw [Nat.add_mul]
    omega⟩
theorem run_cutK_from {P : Program} {t e : TypeId} (ht : P.underlying t = some (.slice e)) (he : ∀ w, (sizeOf e).run P w = .ok K w) (w : World) (A : Option Addr) (n c k : Nat) (hk : k ≤ n) :
    (Instr.slice t (.slice A n c) (some (.int .i64 (k : Int))) none none).run P w = .ok (.slice (cutK A c k K) (n - k) (c - k)) w := by
  simp [Instr.slice, run_underlying ht, Instr.sliceBounds, run_sliceBound, he, cutK, Result.andThen, hk]
theorem run_cutK_to {P : Program} {t e : TypeId} (ht : P.underlying t = some (.slice e)) (he : ∀ w, (sizeOf e).run P w = .ok K w) (w : World) (A : Option Addr) (n c k : Nat) (hk : k ≤ c) :
    (Instr.slice t (.slice A n c) none (some (.int .i64 (k : Int))) none).run P w = .ok (.slice A k c) w := by
  simp [Instr.slice, run_underlying ht, Instr.sliceBounds, run_sliceBound, he, Result.andThen, hk, Addr.add]
theorem run_cutK_to3 {P : Program} {t e : TypeId} (ht : P.underlying t = some (.slice e)) (he : ∀ w, (sizeOf e).run P w = .ok K w) (w : World) (A : Option Addr) (n c k : Nat) (hk : k ≤ c) :
    (Instr.slice t (.slice A n c) none (some (.int .i64 (k : Int))) (some (.int .i64 (k : Int)))).run P w = .ok (.slice A k k) w := by
  simp [Instr.slice, run_underlying ht, Instr.sliceBounds, run_sliceBound, he, Result.andThen, hk, Addr.add]
end

section
variable {α : Type} {enc : α → List Value} {K : Nat} {d : α} {P : Program} {w : World} {base e : Nat} {v : Value} {xs ys : List α}
theorem run_append_nilK (t ty : TypeId) (i : TypeInfo) (ht : P.underlying t = some (.slice e)) (hi : P.info? e = some i) (hown : OwnR enc K w base e v xs) (c : Nat) : (Builtin.append_ #[t, t] ty #[v, .slice none 0 c]).run P w = .ok v w := by
  rcases hown.2 with ⟨rfl, h0⟩ | ⟨g, cap, cur, rfl, _, _, hnc, _⟩
  · simp [Builtin.append_, run_underlying ht, sizeOf, typeInfo, hi, Builtin.lenOf, Builtin.firstCells]
  · simp [Builtin.append_, run_underlying ht, sizeOf, typeInfo, hi, Builtin.lenOf, Builtin.firstCells, hnc, storeCells]
/-- What a type's row says of its records. -/
structure RecT (P : Program) (t e : TypeId) (K bytes : Nat) : Prop where
  ht : P.underlying t = some (.slice e)
  info : ∃ i z, P.info? e = some i ∧ i.zero = some z ∧ i.size = K ∧ i.bytes = bytes ∧ z.cells.size = K
  pos : 0 < K
theorem RecT.of {t e : TypeId} {K bytes : Nat} (ht : P.underlying t = some (.slice e)) (h : (P.info? e).map (fun i => (i.size, i.bytes, (i.zero.map (fun z => z.cells.size)))) = some (K, bytes, some K)) (hp : 0 < K) : RecT P t e K bytes := by
  refine ⟨ht, ?_, hp⟩
  cases he : P.info? e with
  | none => rw [he] at h; cases h
  | some i =>
    rw [he] at h
    simp only [Option.map_some, Option.some.injEq, Prod.mk.injEq] at h
    obtain ⟨h1, h2, h3⟩ := h
    cases hz : i.zero with
    | none => rw [hz] at h3; cases h3
    | some z =>
      rw [hz] at h3
      simp only [Option.map_some, Option.some.injEq] at h3
      exact ⟨i, z, rfl, hz, h1, h2, h3⟩
theorem run_append_recs {bytes : Nat} (t ty : TypeId) (T : RecT P t e K bytes) (hK : ∀ a, (enc a).length = K) (h1 : ∀ a, ∀ u ∈ enc a, u.oneCell' = true)
    (hown : OwnR enc K w base e v xs) {A : Option Addr} {m c : Nat} (hr : Recs enc K d w A m ys) (hb : xs.length + m ≤ 1000000000) (hby : bytes ≤ 1000) (hbase : base ≤ w.heap.size) :
    ∃ v' w', (Builtin.append_ #[t, t] ty #[v, .slice A m c]).run P w = .ok v' w' ∧ OwnR enc K w' base e v' (xs ++ ys) ∧ w.grownBy w' v.ownBlock ∧ (v'.ownBlock = v.ownBlock ∨ v'.ownBlock = some w.heap.size) := by
  obtain ⟨i, z, hi, hz, hsize, hbytes, hzs⟩ := T.info
  rcases A with _ | ad
  · have hm : m = 0 := by
      rcases Nat.eq_zero_or_pos m with h0 | h0
      · exact h0
      · obtain ⟨b, off, e, _⟩ := hr.at_ h0
        cases e
    subst hm
    have hn : ys = [] := List.eq_nil_of_length_eq_zero hr.len
    subst hn
    exact ⟨v, w, run_append_nilK t ty i T.ht hi hown c, by simpa using hown, World.grownBy.refl w _, .inl rfl⟩
  · have hlen := hr.len
    have hmul : (xs.length + m) * bytes ≤ 1000000000 * 1000 := Nat.mul_le_mul hb hby
    obtain ⟨v', w', hrun, h2, h3, _, h5⟩ := run_append_own_at (P := P) w base t ty e i z K bytes T.ht hi hz hsize hbytes hzs T.pos v xs.length (xs.flatMap enc) hown ad m c (ys.flatMap enc) (by rw [flat_len hK, hlen]) (hr.cells_at hK rfl)
      (fun u hu => by obtain ⟨a, _, ha⟩ := List.mem_flatMap.1 hu; exact h1 a u ha) (by unfold maxLen; omega) (by omega) hbase
    refine ⟨v', w', hrun, ?_, h3, h5⟩
    unfold OwnR
    rw [List.flatMap_append, List.length_append, hlen]
    exact h2
/-- .. onto a slice that is full. -/
theorem run_append_full {bytes : Nat} (t ty : TypeId) (T : RecT P t e K bytes) (hK : ∀ a, (enc a).length = K) {B A : Option Addr} {n m c : Nat} (hs : Recs enc K d w B n xs) (hB : ∃ b, B = some b) (hr : Recs enc K d w A m ys) (hm : 0 < m) (hb : n + m ≤ 1000000000) (hby : bytes ≤ 1000) :
    ∃ v' w', (Builtin.append_ #[t, t] ty #[.slice B n n, .slice A m c]).run P w = .ok v' w' ∧ OwnR enc K w' w.heap.size e v' (xs ++ ys) ∧ w.grownBy w' none := by
  obtain ⟨i, z, hi, hz, hsize, hbytes, hzs⟩ := T.info
  obtain ⟨ba, rfl⟩ := hB
  obtain ⟨b, off, rfl, _⟩ := hr.at_ hm
  have hmul : (n + m) * bytes ≤ 1000000000 * 1000 := Nat.mul_le_mul hb hby
  obtain ⟨v', w', hrun, h2, h3⟩ := run_append_arg_grows (P := P) w t ty e i z K bytes T.ht hi hz hsize hbytes hzs T.pos ba n n (xs.flatMap enc) (by rw [flat_len hK, hs.len]) (hs.cells_at hK rfl) ⟨b, off, none⟩ m c (ys.flatMap enc) (by rw [flat_len hK, hr.len]) (hr.cells_at hK rfl) (by omega) (by unfold maxLen; omega) (by omega)
  refine ⟨v', w', hrun, ?_, h3⟩
  unfold OwnR
  rw [List.flatMap_append, List.length_append, hs.len, hr.len]
  exact h2
variable {ops : Array Oper} {rest : List Oper} {o : Oper} {a : Act} {Q : Exit → Act → World → Prop}
theorem wpList_append_recs {bytes : Nat} (w : World) (hgd : o.guard = none) (s x : Operand) (t : TypeId) (ho : o.op = .call { callee := .builtin .append, args := #[s, x], argTypes := #[t, t] }) (T : RecT P t e K bytes) (hK : ∀ a, (enc a).length = K) (h1 : ∀ a, ∀ u ∈ enc a, u.oneCell' = true)
    (hs : a.eval s = v) (hown : OwnR enc K w base e v xs) {A : Option Addr} {m c : Nat} (hx : a.eval x = .slice A m c) (hr : Recs enc K d w A m ys) (hb : xs.length + m ≤ 1000000000) (hby : bytes ≤ 1000) (hbase : base ≤ w.heap.size)
    (h : ∀ v' w', OwnR enc K w' base e v' (xs ++ ys) → w.grownBy w' v.ownBlock → (v'.ownBlock = v.ownBlock ∨ v'.ownBlock = some w.heap.size) → wpList P ops Q rest (a.put o.dst v') w') : wpList P ops Q (o :: rest) a w := by
  refine wpList_plain hgd fun K' hK' => ?_
  obtain ⟨v', w', hrun, h2, h3, h4⟩ := run_append_recs (w := w) t o.type T hK h1 hown (c := c) hr hb hby hbase
  unfold Oper.wp execOp
  simp only [ho, resolve, invoke, builtin, Sem.run_bind, Sem.run_pure, Result.andThen_ok, List.map_toArray, List.map_cons, List.map_nil, hs, hx, hrun]
  exact hK' _ _ (h v' w' h2 h3 h4)
theorem step_append_recs {bytes : Nat} {w : World} {Kc : Act → World → Prop} {E : Prop} (hgd : o.guard = none) (s x : Operand) (t : TypeId) (ho : o.op = .call { callee := .builtin .append, args := #[s, x], argTypes := #[t, t] }) (T : RecT P t e K bytes) (hK : ∀ a, (enc a).length = K) (h1 : ∀ a, ∀ u ∈ enc a, u.oneCell' = true)
    (hs : a.eval s = v) (hown : OwnR enc K w base e v xs) {A : Option Addr} {m c : Nat} (hx : a.eval x = .slice A m c) (hr : Recs enc K d w A m ys) (hb : xs.length + m ≤ 1000000000) (hby : bytes ≤ 1000) (hbase : base ≤ w.heap.size)
    (h : ∀ v' w', OwnR enc K w' base e v' (xs ++ ys) → w.grownBy w' v.ownBlock → (v'.ownBlock = v.ownBlock ∨ v'.ownBlock = some w.heap.size) → Kc (a.put o.dst v') w') :
    if Region.wanted o (yielded ops a.tmps) = true then Oper.wp P o a w Kc Q else E := by
  have hw : Region.wanted o (yielded ops a.tmps) = true := by simp [Region.wanted, hgd]
  rw [if_pos hw]
  obtain ⟨v', w', hrun, h2, h3, h4⟩ := run_append_recs (w := w) t o.type T hK h1 hown (c := c) hr hb hby hbase
  unfold Oper.wp execOp
  simp only [ho, resolve, invoke, builtin, Sem.run_bind, Sem.run_pure, Result.andThen_ok, List.map_toArray, List.map_cons, List.map_nil, hs, hx, hrun]
  exact h v' w' h2 h3 h4
theorem step_append_full {bytes : Nat} {w : World} {Kc : Act → World → Prop} {E : Prop} (hgd : o.guard = none) (s x : Operand) (t : TypeId) (ho : o.op = .call { callee := .builtin .append, args := #[s, x], argTypes := #[t, t] }) (T : RecT P t e K bytes) (hK : ∀ a, (enc a).length = K)
    {B A : Option Addr} {n m c : Nat} (hs : a.eval s = .slice B n n) (hB : ∃ b, B = some b) (hs' : Recs enc K d w B n xs) (hx : a.eval x = .slice A m c) (hr : Recs enc K d w A m ys) (hm : 0 < m) (hb : n + m ≤ 1000000000) (hby : bytes ≤ 1000)
    (h : ∀ v' w', OwnR enc K w' w.heap.size e v' (xs ++ ys) → w.grownBy w' none → Kc (a.put o.dst v') w') :
    if Region.wanted o (yielded ops a.tmps) = true then Oper.wp P o a w Kc Q else E := by
  have hw : Region.wanted o (yielded ops a.tmps) = true := by simp [Region.wanted, hgd]
  rw [if_pos hw]
  obtain ⟨v', w', hrun, h2, h3⟩ := run_append_full (w := w) t o.type T hK hs' hB (c := c) hr hm hb hby
  unfold Oper.wp execOp
  simp only [ho, resolve, invoke, builtin, Sem.run_bind, Sem.run_pure, Result.andThen_ok, List.map_toArray, List.map_cons, List.map_nil, hs, hx, hrun]
  exact h v' w' h2 h3
end
end Go.Proofs.Ytgmekeeemimnpaa
