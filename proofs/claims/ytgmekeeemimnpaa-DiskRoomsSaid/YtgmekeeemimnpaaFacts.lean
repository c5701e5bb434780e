/- The closed facts on the program's head, shared by all rows: read word by word, so that no one fact is dear. -/
import Derived.Test.YtgmekeeemimnpaaRows
import Derived.JoinedOf
namespace Go.Proofs.Ytgmekeeemimnpaa
open Go

theorem take2 {α : Type} {l : List α} {a b : α} (h : l.take 2 = [a, b]) : ∃ rest, l = a :: b :: rest := by
  match l, h with
  | x :: y :: rest, h =>
    simp only [List.take_succ_cons, List.take_zero, List.cons.injEq, and_true] at h
    exact ⟨rest, by rw [h.1, h.2]⟩

set_option maxRecDepth 100000 in
theorem headWords : ∃ rest, behindMainWord (wordsSigns Try.prog.initOrder.toList) = "cut".toList :: "at".toList :: rest := by
  obtain ⟨cs, h1, h2⟩ : ∃ cs, Try.prog.initOrder = String.ofList cs ∧ (behindMainWord (wordsSigns cs)).take 2 = ["cut".toList, "at".toList] := ⟨_, rfl, by kernel_rfl⟩
  rw [h1, String.toList_ofList]
  exact take2 h2

theorem laysLater_ : Try.prog.laysLater = false := by kernel_rfl
theorem bearsReflect_ : Try.prog.bearsReflect = false := by kernel_rfl
theorem doorFits_ : Try.prog.doorFits [] = true := by kernel_rfl
theorem strip_ (r : List (List Char)) : stripLifts liftWords ("cut".toList :: r) = ([], "cut".toList :: r) := by kernel_rfl
section
variable {P : Program} {rest : List (List Char)} (h : behindMainWord (wordsSigns P.initOrder.toList) = "cut".toList :: "at".toList :: rest)
include h
theorem headLifts_of : P.headLifts = [] := by
  unfold Program.headLifts
  rw [h, strip_]
  simp
theorem mayEnter_of (h1 : P.laysLater = false) (h2 : P.bearsReflect = false) (h3 : P.doorFits [] = true) : P.mayEnter = true := by
  unfold Program.mayEnter
  rw [h]
  simp only [strip_, h1, h2, h3]
  simp
theorem liftsFinal_of : P.liftsFinal = false := by
  unfold Program.liftsFinal
  rw [h, headLifts_of h]
  simp
theorem make_of : P.make = some .cut := by
  unfold Program.make
  rw [h]
  simp
end
theorem mayEnter_ : Try.prog.mayEnter = true := by
  obtain ⟨rest, h⟩ := headWords
  exact mayEnter_of h laysLater_ bearsReflect_ doorFits_
theorem liftsFinal_ : Try.prog.liftsFinal = false := by
  obtain ⟨rest, h⟩ := headWords
  exact liftsFinal_of h
theorem make_ : Try.prog.make = some .cut := by
  obtain ⟨rest, h⟩ := headWords
  exact make_of h
theorem laidOut_ : laidOutB Try.prog = true := by kernel_rfl
theorem mapsRowed_ : mapsRowed Try.prog = true := by kernel_rfl
theorem stops_ : (Try.prog.stops == []) = true := by kernel_rfl
theorem stopKnobs_ : (Try.prog.stopKnobs == []) = true := by kernel_rfl
theorem stopsHeard_ : Try.prog.stopsHeard = true := by kernel_rfl
theorem plainKeys_ : Try.prog.plainKeys = false := by kernel_rfl

/-- A row's closed facts out of the program's and of what is its own. -/
theorem joined_gen {P : Program} (g2 : laidOutB P = true) (g3 : mapsRowed P = true) (g7 : (P.stops == []) = true) (g9 : (P.stopKnobs == []) = true) (g23 : P.stopsHeard = true) (g24 : P.mayEnter = true) (g22 : P.plainKeys = false) (gl : P.liftsFinal = false) (gm : P.make = some .cut) {f : FuncId} {fn : Func} {s : ChangeSpec} {c : OpenClaim}
    (k1 : c.wf (OpenSpec.ofChange s) = true) (k4 : fn.params.all (P.readableRec ·) = true) (k5 : namedTie P c.named s.vars = true) (k6 : (c.stops == []) = true) (k8 : (c.knobs == []) = true)
    (k10 : (c.inPlace == P.inPlace f) = true) (k11 : (c.unfollowed == P.unfollowed f) = true) (k12 : (c.recurses == P.recurses f) = true) (k13 : (c.named == P.varsNamed f) = true)
    (k14 : (c.maps == (fn.params.toList ++ s.plain.varTypes P).any (P.mapsRec ·)) = true) (k15 : (c.ifaces == (fn.params.toList ++ s.plain.varTypes P).any (P.ifacesRec ·)) = true) (k16 : (c.mapsOut == P.mapsAmong fn.resultTypes.toList) = true)
    (k17 : (c.loops == (fn.params.toList ++ s.plain.varTypes P).any (P.loopsFrom ·)) = true) (k17b : (c.wideKeys == (fn.params.toList ++ s.plain.varTypes P ++ fn.resultTypes.toList).any (P.wideKeysFrom ·)) = true)
    (k18 : s.vars.all (P.varReadable ·) = true) (k19 : fn.resultTypes.all (fun t => P.readableRec t && decide (t < P.types.size)) = true) (k20 : (c.ifacesOut == fn.resultTypes.toList.any (P.ifacesRec ·)) = true) (k21 : (c.loopsOut == fn.resultTypes.toList.any (P.loopsFrom ·)) = true)
    (k22 : c.plainKeys = false) (k23 : c.shortTexts.isNone = true) (k24b : c.lifted = false) (k24c : c.make = .cut)
    (k25 : (c.kinds == (if c.domain.isEmpty then [] else fn.params.toList.map fun t => match P.underlying t with | some (.int k) => some k | _ => none)) = true) (k26 : (c.pinned == c.pinnedBy) = true)
    (k27 : (c.veiled == (fn.params.toList ++ s.plain.varTypes P ++ fn.resultTypes.toList).any (P.veiledRec ·)) = true) (k28 : c.veiledFits P fn.params.toList (fn.params.toList ++ s.plain.varTypes P ++ fn.resultTypes.toList) = true) :
    joinedFacts P f fn s c = true := by
  have e22 : (c.plainKeys == P.plainKeys) = true := by rw [k22, g22]; rfl
  have e24 : (c.lifted == P.liftsFinal) = true := by rw [k24b, gl]; rfl
  have e25 : (P.make == some c.make) = true := by rw [k24c, gm]; rfl
  simp only [joinedFacts, Bool.and_eq_true]
  exact ⟨⟨⟨⟨⟨⟨⟨⟨⟨⟨⟨⟨⟨⟨⟨⟨⟨⟨⟨⟨⟨⟨⟨⟨⟨⟨⟨⟨⟨⟨⟨k1, g2⟩, g3⟩, k4⟩, k5⟩, k6⟩, g7⟩, k8⟩, g9⟩, k10⟩, k11⟩, k12⟩, k13⟩, k14⟩, k15⟩, k16⟩, k17⟩, k17b⟩, k18⟩, k19⟩, k20⟩, k21⟩, e22⟩, k23⟩, g23⟩, g24⟩, e24⟩, e25⟩, k25⟩, k26⟩, k27⟩, k28⟩
end Go.Proofs.Ytgmekeeemimnpaa
