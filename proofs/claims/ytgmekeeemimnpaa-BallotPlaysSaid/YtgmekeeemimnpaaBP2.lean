/- Layer 15's steps that came in; its own ballot ('twin') in memory: four slices of ints of the call's own, apart. -/
import Derived.Test.YtgmekeeemimnpaaBP1
import Derived.Test.YtgmekeeemimnpaaB3
import Derived.Test.YtgmekeeemimnpaaRec
import Derived.Test.YtgmekeeemimnpaaOwn3
namespace Go.Proofs.Ytgmekeeemimnpaa
open Go Go.Maps Go.MapKept Go.RowKit Go.ChangeShapes Go.WideShapes

/-- A step: how, which epoch, whom, when, with which voters (a slice). -/
abbrev ActB := Int × Int × Int × Int × Option Addr × Nat × Nat
def encAB (a : ActB) : List Value := [.int .i64 a.1, .int .i64 a.2.1, .int .i64 a.2.2.1, .int .i64 a.2.2.2.1, .slice a.2.2.2.2.1 a.2.2.2.2.2.1 a.2.2.2.2.2.2]
def d0AB : ActB := (0, 0, 0, 0, none, 0, 0)
def okAB (W : World) (a : ActB) : Prop := okI a.1 ∧ okI a.2.1 ∧ okI a.2.2.1 ∧ okI a.2.2.2.1 ∧ (∃ xs, Ints W a.2.2.2.2.1 a.2.2.2.2.2.1 xs) ∧ a.2.2.2.2.2.1 ≤ a.2.2.2.2.2.2 ∧ a.2.2.2.2.2.2 ≤ maxLen
theorem infoAB : (Try.prog.info? 90).map (·.size) = some 5 := by kernel_rfl
theorem aggAB (w : World) : (isAgg 90).run Try.prog w = .ok true w := by kernel_rfl
theorem zeroAB (w : World) : (zeroValue 90).run Try.prog w = .ok (.agg #[.int .i64 0, .int .i64 0, .int .i64 0, .int .i64 0, .slice none 0 0]) w := by kernel_rfl
theorem cellsAB : Try.prog.cellsOf 90 = 5 := by kernel_rfl
section
variable {H : Type} {encH : TypeId × Value → H} {W : World}
theorem actB_struct {t : TypeId} {fs : Array Field} (ht : Try.prog.underlying t = some (.struct fs)) (hK : Try.prog.cellsOf t = 5) (hfs : ∀ i, i < 4 → ∃ f, fs[i]? = some f ∧ f.offset = i ∧ f.type = 3) (hf4 : ∃ f, fs[4]? = some f ∧ f.offset = 4 ∧ f.type = 25)
    {n : Nat} {cs : List Value} {y : DataW H × List MemPlace} (h : DataW.trod encH Try.prog W 0 (fun _ => true) true n t cs = some y) : ∃ a : ActB, cs = encAB a ∧ okAB W a := by
  obtain ⟨xs, m, _, _, hl, hlen, hf⟩ := DataW.trod_struct ht h
  rw [hK] at hl
  have hi : ∀ i, i < 4 → ∃ z, cs[i]? = some (.int .i64 z) ∧ okI z := by
    intro i hi
    obtain ⟨f, hfi, ho, hty⟩ := hfs i hi
    have h1 := hf i f hfi
    have hil : i < xs.length := by rw [hlen]; exact (Array.getElem?_eq_some_iff.1 hfi).1
    rw [hty, ho, List.getElem?_eq_getElem hil] at h1
    obtain ⟨z, hz, _, wz⟩ := DataW.trod_int Try.underlying3 h1
    refine ⟨z, ?_, wz⟩
    have hc : Try.prog.cellsOf 3 = 1 := by kernel_rfl
    rw [hc] at hz
    have h2 := congrArg (·[0]?) hz
    simpa [List.getElem?_take, List.getElem?_drop] using h2
  obtain ⟨a0, h0, k0⟩ := hi 0 (by omega)
  obtain ⟨a1, h1, k1⟩ := hi 1 (by omega)
  obtain ⟨a2, h2, k2⟩ := hi 2 (by omega)
  obtain ⟨a3, h3, k3⟩ := hi 3 (by omega)
  have hs : ∃ (A : Option Addr) (n c : Nat), cs[4]? = some (.slice A n c) ∧ (∃ zs, Ints W A n zs) ∧ n ≤ c ∧ c ≤ maxLen := by
    obtain ⟨f, hfi, ho, hty⟩ := hf4
    have h1 := hf 4 f hfi
    have hil : 4 < xs.length := by rw [hlen]; exact (Array.getElem?_eq_some_iff.1 hfi).1
    rw [hty, ho, List.getElem?_eq_getElem hil] at h1
    have hc : Try.prog.cellsOf 25 = 1 := by kernel_rfl
    rw [hc] at h1
    have h5 : (cs.drop 4).take 1 = [cs[4]'(by omega)] := by
      rw [List.take_one, List.head?_drop, List.getElem?_eq_getElem (by omega)]
      rfl
    rw [h5] at h1
    have hget : cs[4]? = some (cs[4]'(by omega)) := List.getElem?_eq_getElem (by omega)
    rcases open_ints Try.underlying25 Try.underlying3 (by kernel_rfl) h1 with ⟨hcs, _⟩ | ⟨x, l, c, zs, hcs, _, hl', hm, hz, hd, hcell, hwz⟩
    · injection hcs with hcs _
      exact ⟨none, 0, 0, by rw [hget, hcs], ⟨[], Ints.nil W⟩, Nat.le_refl _, by unfold maxLen; omega⟩
    · injection hcs with hcs _
      have hlz : l ≤ zs.length := by rw [hz]; split <;> omega
      refine ⟨some x, l, c, by rw [hget, hcs], ⟨zs.take l, ⟨by simp; omega, fun n hn => hwz n (List.mem_of_mem_take hn), fun hp => ?_⟩⟩, hl', hm⟩
      obtain ⟨b, off, rfl, hc'⟩ := ints_at hcell (by omega)
      refine ⟨b, off, rfl, cell_lt (hc' 0 (by omega)), fun j hj => ?_⟩
      rw [hc' j (by omega)]
      simp [List.getD, hj]
  obtain ⟨A, k, c, h4, r1, r2, r3⟩ := hs
  refine ⟨(a0, a1, a2, a3, A, k, c), ?_, k0, k1, k2, k3, r1, r2, r3⟩
  apply List.ext_getElem?
  intro i
  rcases i with _ | _ | _ | _ | _ | i
  · exact h0
  · exact h1
  · exact h2
  · exact h3
  · exact h4
  · rw [List.getElem?_eq_none (by omega), List.getElem?_eq_none (by simp [encAB])]
theorem actsB_of_trod {a : Option Addr} {len cap : Nat} {d : DataW H} {p : List MemPlace} (h : DataW.Trod encH Try.prog W 0 (fun _ => true) true 85 (.slice a len cap) d p) : ∃ xs, Recs encAB 5 d0AB W a len xs ∧ (∀ x ∈ xs, okAB W x) ∧ len ≤ cap ∧ cap ≤ maxLen :=
  recs_of_trod Try.underlying85 cellsAB (by decide) (okAB W) (fun _ _ _ hy => actB_struct Try.underlying90 cellsAB (fun i hi => by
      rcases i with _ | _ | _ | _ | i
      · exact ⟨_, rfl, rfl, rfl⟩
      · exact ⟨_, rfl, rfl, rfl⟩
      · exact ⟨_, rfl, rfl, rfl⟩
      · exact ⟨_, rfl, rfl, rfl⟩
      · omega) ⟨_, rfl, rfl, rfl⟩ hy) h
end

/-! ### the twin -/
/-- One of the call's own slices is written in place. -/
theorem OwnI.set_ {w : World} {base e g n c : Nat} {xs : List Int} (h : OwnI w base e (.slice (some ⟨g, 0, none⟩) n c) xs) (hn : n = xs.length) (i : Nat) (y : Int) :
    OwnI (w.setCell ⟨g, i, none⟩ (.int .i64 y)) base e (.slice (some ⟨g, 0, none⟩) n c) (xs.set i y) := by
  subst hn
  have := (World.ownsRow.stored h i (.int .i64 y)).1
  rw [← List.map_set] at this
  unfold OwnI
  rw [List.length_set]
  exact this
theorem OwnI.free {w : World} {base e g n c : Nat} {xs : List Int} (h : OwnI w base e (.slice (some ⟨g, 0, none⟩) n c) xs) (hn : n = xs.length) (j : Nat) : w.frozen? ⟨g, j, none⟩ = false := by
  subst hn
  exact World.ownsRow.frozenAt h j
theorem OwnI.addr {w : World} {base e : Nat} {A : Option Addr} {n c : Nat} {xs : List Int} (h : OwnI w base e (.slice A n c) xs) (hp : 0 < xs.length) : ∃ g, A = some ⟨g, 0, none⟩ := by
  rcases h.2 with ⟨h', h0⟩ | ⟨g', cap, cur, h', _⟩
  · omega
  · cases h'
    exact ⟨g', rfl⟩

/-- Two slices lie in unlike blocks. -/
def Ap (v u : Value) : Prop := ∀ g, v.ownBlock = some g → u.ownBlock ≠ some g
theorem Ap.symm {v u : Value} (h : Ap v u) : Ap u v := fun g h1 h2 => h g h2 h1
/-- Four slices of the call's own, no two in one block, none in a block of G. -/
structure Own4 (G : Nat → Prop) (w : World) (base e : Nat) (v1 : Value) (x1 : List Int) (v2 : Value) (x2 : List Int) (v3 : Value) (x3 : List Int) (v4 : Value) (x4 : List Int) : Prop where
  o1 : OwnI w base e v1 x1
  o2 : OwnI w base e v2 x2
  o3 : OwnI w base e v3 x3
  o4 : OwnI w base e v4 x4
  d12 : Ap v1 v2
  d13 : Ap v1 v3
  d14 : Ap v1 v4
  d23 : Ap v2 v3
  d24 : Ap v2 v4
  d34 : Ap v3 v4
  g1 : ∀ g, v1.ownBlock = some g → ¬ G g
  g2 : ∀ g, v2.ownBlock = some g → ¬ G g
  g3 : ∀ g, v3.ownBlock = some g → ¬ G g
  g4 : ∀ g, v4.ownBlock = some g → ¬ G g
section
variable {G G' S : Nat → Prop} {w w' w1 : World} {base e : Nat} {v1 v2 v3 v4 v' : Value} {x1 x2 x3 x4 ys : List Int}
theorem Own4.nil (w : World) (base e : Nat) : Own4 G w base e (.slice none 0 0) [] (.slice none 0 0) [] (.slice none 0 0) [] (.slice none 0 0) [] :=
  ⟨OwnI.nil _ _ _, OwnI.nil _ _ _, OwnI.nil _ _ _, OwnI.nil _ _ _, fun _ h => (by cases h), fun _ h => (by cases h), fun _ h => (by cases h), fun _ h => (by cases h), fun _ h => (by cases h), fun _ h => (by cases h), fun _ h => (by cases h), fun _ h => (by cases h), fun _ h => (by cases h), fun _ h => (by cases h)⟩
theorem Own4.rot (h : Own4 G w base e v1 x1 v2 x2 v3 x3 v4 x4) : Own4 G w base e v2 x2 v3 x3 v4 x4 v1 x1 :=
  ⟨h.o2, h.o3, h.o4, h.o1, h.d23, h.d24, h.d12.symm, h.d34, h.d13.symm, h.d14.symm, h.g2, h.g3, h.g4, h.g1⟩
/-- .. where only blocks of G, and new ones, turn. -/
theorem Own4.far (h : Own4 G w base e v1 x1 v2 x2 v3 x3 v4 x4) (hc : Chg G w w') : Own4 G w' base e v1 x1 v2 x2 v3 x3 v4 x4 :=
  ⟨h.o1.chg hc h.g1, h.o2.chg hc h.g2, h.o3.chg hc h.g3, h.o4.chg hc h.g4, h.d12, h.d13, h.d14, h.d23, h.d24, h.d34, h.g1, h.g2, h.g3, h.g4⟩
theorem Own4.new (h : Own4 G w base e v1 x1 v2 x2 v3 x3 v4 x4) (hc : Chg (fun _ => False) w w') : Own4 G w' base e v1 x1 v2 x2 v3 x3 v4 x4 := h.far (hc.mono (fun _ h => h.elim))
/-- The guard takes on new blocks. -/
theorem Own4.guard (h : Own4 G w base e v1 x1 v2 x2 v3 x3 v4 x4) (hc : Chg G w w') (hG : ∀ i, G' i → i < w.heap.size → G i) : Own4 G' w' base e v1 x1 v2 x2 v3 x3 v4 x4 :=
  ⟨(h.far hc).o1, (h.far hc).o2, (h.far hc).o3, (h.far hc).o4, h.d12, h.d13, h.d14, h.d23, h.d24, h.d34, fun g hg hn => h.g1 g hg (hG g hn (h.o1.lt hg)), fun g hg hn => h.g2 g hg (hG g hn (h.o2.lt hg)), fun g hg hn => h.g3 g hg (hG g hn (h.o3.lt hg)), fun g hg hn => h.g4 g hg (hG g hn (h.o4.lt hg))⟩
/-- The first one is put anew: its block is the old one or a new one. -/
theorem Own4.put (h : Own4 G w base e v1 x1 v2 x2 v3 x3 v4 x4) (hG : ∀ i, G i → i < w.heap.size) (hc : Chg (fun i => v1.ownBlock = some i) w w') (ho : OwnI w' base e v' ys) (hl : ∀ g, v'.ownBlock = some g → v1.ownBlock = some g ∨ w.heap.size ≤ g) :
    Own4 G w' base e v' ys v2 x2 v3 x3 v4 x4 := by
  refine ⟨ho, h.o2.chg hc (fun g hg e => h.d12 g e hg), h.o3.chg hc (fun g hg e => h.d13 g e hg), h.o4.chg hc (fun g hg e => h.d14 g e hg), fun g hg => ?_, fun g hg => ?_, fun g hg => ?_, h.d23, h.d24, h.d34, fun g hg => ?_, h.g2, h.g3, h.g4⟩
  · rcases hl g hg with e | e
    · exact h.d12 g e
    · intro e2; have := h.o2.lt e2; omega
  · rcases hl g hg with e | e
    · exact h.d13 g e
    · intro e2; have := h.o3.lt e2; omega
  · rcases hl g hg with e | e
    · exact h.d14 g e
    · intro e2; have := h.o4.lt e2; omega
  · rcases hl g hg with e | e
    · exact h.g1 g e
    · intro e2; have := hG g e2; omega
end

/-- The twin's state. -/
structure TwSt where
  on : Bool
  ep : Int
  un : Int
  vs : List Int
  ys : List Int
  ws : List Int
  ts : List Int
/-- A twin at block t, beside the blocks F. -/
def Twin (w : World) (base : Nat) (F : Nat → Prop) (t : Nat) (s : TwSt) : Prop :=
  (∃ v1 v2 v3 v4, Blk w t 88 #[.bool s.on, .int .i64 s.ep, .int .i64 s.un, v1, v2, v3, v4] ∧ Own4 (fun i => F i ∨ i = t) w base 3 v1 s.vs v2 s.ys v3 s.ws v4 s.ts) ∧ base ≤ t ∧ ¬ F t ∧ ∀ i, F i → i < w.heap.size
section
variable {w w' : World} {base t : Nat} {F F' : Nat → Prop} {s : TwSt}
/-- What turns in F alone leaves the twin. -/
theorem Twin.far (h : Twin w base F t s) (hc : Chg F w w') : Twin w' base F t s := by
  obtain ⟨⟨v1, v2, v3, v4, hb, ho⟩, h1, h2, h3⟩ := h
  exact ⟨⟨v1, v2, v3, v4, hb.chg hc h2, ho.far (hc.mono (fun _ => .inl))⟩, h1, h2, fun i hi => Nat.lt_of_lt_of_le (h3 i hi) hc.size⟩
theorem Twin.new (h : Twin w base F t s) (hc : Chg (fun _ => False) w w') : Twin w' base F t s := h.far (hc.mono (fun _ h => h.elim))
theorem Twin.guard (h : Twin w base F t s) (hF : ∀ i, F' i → i < w.heap.size → F i) (hF' : ∀ i, F' i → i < w'.heap.size) (hc : Chg F w w') : Twin w' base F' t s := by
  obtain ⟨⟨v1, v2, v3, v4, hb, ho⟩, h1, h2, h3⟩ := h
  exact ⟨⟨v1, v2, v3, v4, hb.chg hc h2, ho.guard (hc.mono (fun _ => .inl)) (fun i hi hlt => hi.elim (fun h => .inl (hF i h hlt)) .inr)⟩, h1, fun h => h2 (hF t h hb.lt), hF'⟩
end
end Go.Proofs.Ytgmekeeemimnpaa
