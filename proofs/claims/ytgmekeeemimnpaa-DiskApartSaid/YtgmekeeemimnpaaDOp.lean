/- Layer 12's steps that came in. -/
import Derived.Test.YtgmekeeemimnpaaDSwaps
namespace Go.Proofs.Ytgmekeeemimnpaa
open Go Go.Maps Go.MapKept Go.RowKit Go.Sort Go.ChangeShapes Go.WideShapes

/-- A step: kind, name, to, data (a slice of bytes), n, keep (a slice of ints). -/
structure OpD where
  k : Int
  nm : Str
  to_ : Str
  A : Option Addr
  an : Nat
  ac : Nat
  n : Int
  B : Option Addr
  bn : Nat
  bc : Nat
def encOp (o : OpD) : List Value := [.int .i64 o.k, encStr o.nm, encStr o.to_, .slice o.A o.an o.ac, .int .i64 o.n, .slice o.B o.bn o.bc]
def d0Op : OpD := ⟨0, [], [], none, 0, 0, 0, none, 0, 0⟩
structure okOp (W : World) (o : OpD) : Prop where
  k : okI o.k
  nm : okS o.nm
  to_ : okS o.to_
  data : ∃ xs, Bytes W o.A o.an xs
  dn : o.an ≤ o.ac
  dc : o.ac ≤ maxLen
  n : okI o.n
  keep : ∃ zs, Ints W o.B o.bn zs
theorem infoOp : (Try.prog.info? 108).map (·.size) = some 6 := by kernel_rfl
theorem aggOp (w : World) : (isAgg 108).run Try.prog w = .ok true w := by kernel_rfl
theorem zeroOp (w : World) : (zeroValue 108).run Try.prog w = .ok (.agg #[.int .i64 0, .string ⟨#[]⟩, .string ⟨#[]⟩, .slice none 0 0, .int .i64 0, .slice none 0 0]) w := by kernel_rfl
theorem cellsOp : Try.prog.cellsOf 108 = 6 := by kernel_rfl
section
variable {H : Type} {encH : TypeId × Value → H} {W : World}
/-- A field of one cell. -/
theorem field1 {t T : TypeId} {fs : Array Field} (ht : Try.prog.underlying t = some (.struct fs)) {i : Nat} (hi : ∃ f, fs[i]? = some f ∧ f.offset = i ∧ f.type = T) (hT : Try.prog.cellsOf T = 1) {n : Nat} {cs : List Value} {y : DataW H × List MemPlace} (hl : i < cs.length)
    (h : DataW.trod encH Try.prog W 0 (fun _ => true) true n t cs = some y) : ∃ (v : Value) (m : Nat) (z : DataW H × List MemPlace), cs[i]? = some v ∧ DataW.trod encH Try.prog W 0 (fun _ => true) true m T [v] = some z := by
  obtain ⟨xs, m, _, _, _, hlen, hf⟩ := DataW.trod_struct ht h
  obtain ⟨f, hfi, ho, hty⟩ := hi
  have h1 := hf i f hfi
  have hil : i < xs.length := by rw [hlen]; exact (Array.getElem?_eq_some_iff.1 hfi).1
  rw [hty, ho, List.getElem?_eq_getElem hil, hT] at h1
  have h5 : (cs.drop i).take 1 = [cs[i]] := by
    rw [List.take_one, List.head?_drop, List.getElem?_eq_getElem hl]
    rfl
  rw [h5] at h1
  exact ⟨cs[i], m, xs[i], List.getElem?_eq_getElem hl, h1⟩
theorem op_struct {t : TypeId} {fs : Array Field} (ht : Try.prog.underlying t = some (.struct fs)) (hK : Try.prog.cellsOf t = 6) (h0 : ∃ f, fs[0]? = some f ∧ f.offset = 0 ∧ f.type = 3) (h1 : ∃ f, fs[1]? = some f ∧ f.offset = 1 ∧ f.type = 9) (h2 : ∃ f, fs[2]? = some f ∧ f.offset = 2 ∧ f.type = 9)
    (h3 : ∃ f, fs[3]? = some f ∧ f.offset = 3 ∧ f.type = 95) (h4 : ∃ f, fs[4]? = some f ∧ f.offset = 4 ∧ f.type = 3) (h5 : ∃ f, fs[5]? = some f ∧ f.offset = 5 ∧ f.type = 25)
    {n : Nat} {cs : List Value} {y : DataW H × List MemPlace} (h : DataW.trod encH Try.prog W 0 (fun _ => true) true n t cs = some y) : ∃ o : OpD, cs = encOp o ∧ okOp W o := by
  have hl : cs.length = 6 := by
    obtain ⟨xs, m, _, _, hl, _, _⟩ := DataW.trod_struct ht h
    rw [hK] at hl
    exact hl
  have c1 : Try.prog.cellsOf 3 = 1 := by kernel_rfl
  have c2 : Try.prog.cellsOf 95 = 1 := by kernel_rfl
  have c3 : Try.prog.cellsOf 25 = 1 := by kernel_rfl
  obtain ⟨v0, m0, z0, e0, t0⟩ := field1 ht h0 c1 (by omega) h
  obtain ⟨v1, m1, z1, e1, t1⟩ := field1 ht h1 cellsS (by omega) h
  obtain ⟨v2, m2, z2, e2, t2⟩ := field1 ht h2 cellsS (by omega) h
  obtain ⟨v3, m3, z3, e3, t3⟩ := field1 ht h3 c2 (by omega) h
  obtain ⟨v4, m4, z4, e4, t4⟩ := field1 ht h4 c1 (by omega) h
  obtain ⟨v5, m5, z5, e5, t5⟩ := field1 ht h5 c3 (by omega) h
  obtain ⟨a0, r0, _, k0⟩ := DataW.trod_int Try.underlying3 t0
  obtain ⟨a1, r1, _, k1⟩ := DataW.trod_string Try.underlying9 t1
  obtain ⟨a2, r2, _, k2⟩ := DataW.trod_string Try.underlying9 t2
  obtain ⟨a4, r4, _, k4⟩ := DataW.trod_int Try.underlying3 t4
  obtain ⟨A, an, ac, rfl⟩ : ∃ A an ac, v3 = .slice A an ac := by
    rcases open_ints Try.underlying95 Try.underlying5 (by kernel_rfl) t3 with ⟨hcs, _⟩ | ⟨x, l, c, zs, hcs, _⟩
    · injection hcs with hcs _; exact ⟨none, 0, 0, hcs⟩
    · injection hcs with hcs _; exact ⟨some x, l, c, hcs⟩
  obtain ⟨B, bn, bc, rfl⟩ : ∃ B bn bc, v5 = .slice B bn bc := by
    rcases open_ints Try.underlying25 Try.underlying3 (by kernel_rfl) t5 with ⟨hcs, _⟩ | ⟨x, l, c, zs, hcs, _⟩
    · injection hcs with hcs _; exact ⟨none, 0, 0, hcs⟩
    · injection hcs with hcs _; exact ⟨some x, l, c, hcs⟩
  obtain ⟨xs, q1, q2, q3⟩ := bytes_of_trod (d := z3.1) (p := z3.2) ⟨m3, t3⟩
  obtain ⟨zs, p1, _, _⟩ := ints_of_trod (d := z5.1) (p := z5.2) ⟨m5, t5⟩
  injection r0 with r0 _
  injection r1 with r1 _
  injection r2 with r2 _
  injection r4 with r4 _
  subst r0 r1 r2 r4
  refine ⟨⟨a0, a1.data.toList, a2.data.toList, A, an, ac, a4, B, bn, bc⟩, ?_, ⟨k0, by show a1.data.toList.length ≤ maxLen; rw [Array.length_toList]; exact k1, by show a2.data.toList.length ≤ maxLen; rw [Array.length_toList]; exact k2, ⟨xs, q1⟩, q2, q3, k4, ⟨zs, p1⟩⟩⟩
  apply List.ext_getElem?
  intro i
  rcases i with _ | _ | _ | _ | _ | _ | i
  · exact e0
  · exact e1
  · exact e2
  · exact e3
  · exact e4
  · exact e5
  · rw [List.getElem?_eq_none (by omega), List.getElem?_eq_none (by simp [encOp])]
theorem ops_of_trod {a : Option Addr} {len cap : Nat} {d : DataW H} {p : List MemPlace} (h : DataW.Trod encH Try.prog W 0 (fun _ => true) true 106 (.slice a len cap) d p) : ∃ xs, Recs encOp 6 d0Op W a len xs ∧ (∀ x ∈ xs, okOp W x) ∧ len ≤ cap ∧ cap ≤ maxLen :=
  recs_of_trod Try.underlying106 cellsOp (by decide) (okOp W) (fun _ _ _ hy => op_struct Try.underlying108 cellsOp ⟨_, rfl, rfl, rfl⟩ ⟨_, rfl, rfl, rfl⟩ ⟨_, rfl, rfl, rfl⟩ ⟨_, rfl, rfl, rfl⟩ ⟨_, rfl, rfl, rfl⟩ ⟨_, rfl, rfl, rfl⟩ hy) h
end
end Go.Proofs.Ytgmekeeemimnpaa
