/- Package disk's find, Write, Sync, Rename, Read, Safe, Arm, walked. -/
import Derived.Test.YtgmekeeemimnpaaD3
namespace Go.Proofs.Ytgmekeeemimnpaa
open Go Go.Maps Go.MapKept Go.RowKit Go.Sort

def zeroF : Value := .agg #[.slice none 0 0, .bool false]
/-- What find answers. -/
def findR (s : DSt) (x : Str) : Value × Int := if s.down then (zeroF, 50) else match aget s.L x with
  | none => (zeroF, 52)
  | some f => (evF f, 0)
theorem results_cell2 {P : Program} {fn : Func} {p u : Tmp} {ty : TypeId} (h : fn.results = #[.cell p ty, .tmp u]) {tmps : Array Value} {w : World} {ad : Addr} {x : Value} (hp : tmps.getD p undef = .pointer (some ad))
    (hl : (loadVar ty ad).run P w = .ok x w) : (results fn tmps).run P w = .ok (.tuple #[x, tmps.getD u undef]) w := by
  have hp' : tmps[p]?.getD undef = .pointer (some ad) := by simpa using hp
  simp only [results, h]
  simp [Result.andThen, hp', asAddr, hl]
section
variable {w : World} {d m : Nat} {s : DSt}
set_option maxRecDepth 100000 in
set_option maxHeartbeats 4000000 in
theorem find_calls (x : Str) (w : World) (h : DiskAt w d m s) (hx : okS x) : Calls Try.prog 117 #[.pointer (some ⟨d, 0, none⟩), encStr x] w fun e w' => e = .returned (.tuple #[(findR s x).1, .int .i64 (findR s x).2]) ∧ Chg (fun _ => False) w w' := by
  obtain ⟨L, room, left, down⟩ := s
  have c1 : Chg (fun _ => False) w (w.alloc (.cells #[.slice none 0 0, .bool false] 160)) := (Chg.refl _ w).alloc _
  have h1 := h.new c1
  have c0 : (w.alloc (.cells #[.slice none 0 0, .bool false] 160)).cell? ⟨d, 0, none⟩ = some (.map (some m)) := h1.blk.cell 0
  have hl := h1.map.look (P := Try.prog) encS Try.underlying154 (zeroFile _) hx true
  have hd : d < w.heap.size := h.blk.lt
  have c3 : w.cell? ⟨d, 3, none⟩ = some (.bool down) := h.blk.cell 3
  cases ha : aget L x with
  | none =>
    simp only [ha, Option.map_none, Option.getD_none, Option.isSome_none, if_true] at hl
    cases down with
    | true =>
      have H := hideIt (show findR ⟨L, room, left, true⟩ x = (zeroF, 50) from rfl)
      clear ha h h1 c1
      go_enter Try.func117, Try.ntmps117
      go_wp2
      refine bodyPost_ret (results_cell2 rfl rfl (((Blk.new w 160 #[.slice none 0 0, .bool false]).alloc _).loadAll (P := Try.prog) infoFile aggFile rfl)) rfl ?_
      rw [H.out]
      exact ⟨rfl, ((Chg.refl _ w).alloc _).alloc _⟩
    | false =>
      have H := hideIt (show findR ⟨L, room, left, false⟩ x = (zeroF, 52) from by unfold findR; simp [ha])
      clear ha h h1 c1
      go_enter Try.func117, Try.ntmps117
      go_wp2
      refine bodyPost_ret (results_cell2 rfl rfl (((Blk.new w 160 #[.slice none 0 0, .bool false]).alloc _).loadAll (P := Try.prog) infoFile aggFile rfl)) rfl ?_
      rw [H.out]
      exact ⟨rfl, ((Chg.refl _ w).alloc _).alloc _⟩
  | some f =>
    obtain ⟨A, n, c, sf, xs⟩ := f
    simp only [ha, Option.map_some, Option.getD_some, Option.isSome_some, if_true, evF] at hl
    cases down with
    | true =>
      have H := hideIt (show findR ⟨L, room, left, true⟩ x = (zeroF, 50) from rfl)
      clear ha h h1 c1
      go_enter Try.func117, Try.ntmps117
      go_wp2
      refine bodyPost_ret (results_cell2 rfl rfl (((Blk.new w 160 #[.slice none 0 0, .bool false]).alloc _).loadAll (P := Try.prog) infoFile aggFile rfl)) rfl ?_
      rw [H.out]
      exact ⟨rfl, ((Chg.refl _ w).alloc _).alloc _⟩
    | false =>
      have H := hideIt (show findR ⟨L, room, left, false⟩ x = (.agg #[.slice A n c, .bool sf], 0) from by unfold findR; simp [ha, evF])
      clear ha h h1 c1
      go_enter Try.func117, Try.ntmps117
      go_wp2
      refine bodyPost_ret (results_cell2 rfl rfl (((Blk.new w 160 #[.slice A n c, .bool sf]).alloc _).loadAll (P := Try.prog) infoFile aggFile rfl)) rfl ?_
      rw [H.out]
      exact ⟨rfl, ((Chg.refl _ w).alloc _).alloc _⟩
end
end Go.Proofs.Ytgmekeeemimnpaa
