/- Package report's New, Len, counts, Clear, Note, walked. (Printed by wip/gen/rp2.py.) -/
import Derived.Test.YtgmekeeemimnpaaRp1
import Derived.Test.YtgmekeeemimnpaaQ1
import Derived.StillTailTactics
import Derived.Deep.QuietTactic
import Derived.BigQuiet
namespace Go.Proofs.Ytgmekeeemimnpaa
open Go Go.Maps Go.MapKept Go.RowKit

/-- A book at block b, its map at m. -/
def BookAt (w : World) (b m : Nat) (win : Int) (L : List (Pr × Int)) : Prop :=
  Blk w b 139 #[.int .i64 win, .map (some m)] ∧ MapIs ekPr (Value.int .i64) okPr w m L ∧ (1 ≤ win ∧ win ≤ 1073741824) ∧ (∀ p ∈ L, (1 ≤ p.1.1 ∧ p.1.1 ≤ 4294967296) ∧ (1 ≤ p.1.2 ∧ p.1.2 ≤ 4294967296) ∧ 0 ≤ p.2 ∧ p.2 ≤ 1099511627776)
theorem infoPr : (Try.prog.info? 141).map (·.size) = some 2 := by kernel_rfl
theorem aggPr (w : World) : (isAgg 141).run Try.prog w = .ok true w := by kernel_rfl
theorem zeroPr (w : World) : (zeroValue 141).run Try.prog w = .ok (.agg #[.int .i64 0, .int .i64 0]) w := by kernel_rfl
theorem zeroI (w : World) : (zeroValue 3).run Try.prog w = .ok (.int .i64 0) w := by kernel_rfl
/-- What a Note answers. -/
def noteE (a y t : Int) : Int := if min a y < 1 ∨ 4294967296 < max a y ∨ t < 0 ∨ 1099511627776 < t then 10 else if a = y then 33 else 0
def noteP (L : List (Pr × Int)) (a y t : Int) : List (Pr × Int) := if noteE a y t = 0 then aput L (a, y) (max ((aget L (a, y)).getD 0) t) else L
section
variable {w w' : World} {b m : Nat} {win : Int} {L : List (Pr × Int)} {S : Nat → Prop}
theorem BookAt.chg (h : BookAt w b m win L) (hc : Chg S w w') (h1 : ¬ S b) (h2 : ¬ S m) : BookAt w' b m win L := ⟨h.1.chg hc h1, h.2.1.chg hc h2, h.2.2⟩
theorem BookAt.new (h : BookAt w b m win L) (hc : Chg (fun _ => False) w w') : BookAt w' b m win L := h.chg hc (fun h => h) (fun h => h)
theorem BookAt.ne (h : BookAt w b m win L) : m ≠ b := map_ne_blk h.2.1 h.1
theorem BookAt.nodup (h : BookAt w b m win L) : keysNodup L := h.2.1.nodup
end
theorem rnew_no (win : Int) (w : World) (h : ¬ (1 ≤ win ∧ win ≤ 1073741824)) : Calls Try.prog 57 #[.int .i64 win] w fun e w' => e = .returned (.tuple #[.pointer none, .int .i64 10]) ∧ w = w' := by
  by_cases h1 : win < 1
  · go_enter Try.func57, Try.ntmps57
    go_wp2
    go_ret2
    exact ⟨rfl, rfl⟩
  · have h2 : 1073741824 < win := by omega
    clear h
    go_enter Try.func57, Try.ntmps57
    go_wp2
    go_ret2
    exact ⟨rfl, rfl⟩
def BookNew (w : World) (win : Int) (e : Ending) (w' : World) : Prop :=
  ∃ b m, e = .returned (.tuple #[.pointer (some ⟨b, 0, none⟩), .int .i64 0]) ∧ BookAt w' b m win [] ∧ w.heap.size ≤ b ∧ w.heap.size ≤ m ∧ Chg (fun _ => False) w w'
theorem rnew_yes (win : Int) (w : World) (h1 : 1 ≤ win) (h2 : win ≤ 1073741824) : Calls Try.prog 57 #[.int .i64 win] w (BookNew w win) := by
  have hmm := @run_makeMap Try.prog
  go_enter Try.func57, Try.ntmps57
  go_wp2
  go_ret2
  refine ⟨_, w.heap.size, rfl, ⟨blk_at (by simp) (Blk.new (w.alloc (.map #[] 0)) _ _), (MapIs.made w).alloc _, ⟨h1, h2⟩, by simp⟩, by simp, Nat.le_refl _, ((Chg.refl _ w).alloc _).alloc _⟩
section
variable {w : World} {b m : Nat} {win : Int} {L : List (Pr × Int)}
theorem rlen_calls (h : BookAt w b m win L) : Calls Try.prog 62 #[.pointer (some ⟨b, 0, none⟩)] w fun e w' => e = .returned (.int .i64 (L.length : Int)) ∧ w = w' := by
  have c1 : w.cell? ⟨b, 1, none⟩ = some (.map (some m)) := h.1.cell 1
  have hlen := fun ty => MapIs.len (P := Try.prog) (w := w) h.2.1 Try.underlying137 ty
  go_enter Try.func62, Try.ntmps62
  go_wp2
  go_ret
  exact ⟨rfl, rfl⟩
/-- Does a report of 'at' count? -/
def countsB (win t now : Int) : Bool := decide (now ≤ t ∨ now - t ≤ win)
theorem counts_calls (t now : Int) (ht : 0 ≤ t ∧ t ≤ 1099511627776) (hn : -9223372036854775808 ≤ now ∧ now ≤ 9223372036854775807) (h : Blk w b 139 #[.int .i64 win, .map (some m)]) :
    Calls Try.prog 102 #[.pointer (some ⟨b, 0, none⟩), .int .i64 t, .int .i64 now] w fun e w' => e = .returned (.bool (countsB win t now)) ∧ w = w' := by
  have c0 : w.cell? ⟨b, 0, none⟩ = some (.int .i64 win) := h.cell 0
  by_cases h1 : now ≤ t
  · have H : Hid (countsB win t now = true) := hideIt (by unfold countsB; simp [h1])
    go_enter Try.func102, Try.ntmps102
    go_wp2
    go_ret
    exact ⟨ret_bool H.out.symm, rfl⟩
  · by_cases h2 : now - t ≤ win
    · have H : Hid (countsB win t now = true) := hideIt (by unfold countsB; simp [h2])
      go_enter Try.func102, Try.ntmps102
      go_wp2
      go_ret
      exact ⟨ret_bool H.out.symm, rfl⟩
    · have H : Hid (countsB win t now = false) := hideIt (by unfold countsB; simp [h1, h2])
      go_enter Try.func102, Try.ntmps102
      go_wp2
      go_ret
      exact ⟨ret_bool H.out.symm, rfl⟩
def BookE (w : World) (b m : Nat) (win : Int) (L : List (Pr × Int)) (r : Value) (e : Ending) (w' : World) : Prop := e = .returned r ∧ BookAt w' b m win L ∧ Chg (fun i => i = m) w w'
set_option maxRecDepth 100000 in
set_option maxHeartbeats 2000000 in
theorem clear_calls (a y : Int) (ha : okI a) (hy : okI y) (h : BookAt w b m win L) :
    Calls Try.prog 64 #[.pointer (some ⟨b, 0, none⟩), .int .i64 a, .int .i64 y] w (BookE w b m win (adel L (a, y)) (.bool (aget L (a, y)).isSome)) := by
  obtain ⟨w2, s2, t2, c2, z2⟩ := keep_rec (P := Try.prog) w infoPr (cs := #[.int .i64 0, .int .i64 0]) (cs' := #[.int .i64 a, .int .i64 y]) rfl rfl (by intro v hv; simp at hv; rcases hv with rfl | rfl <;> rfl)
  have H2 := h.new c2
  have k1 : w2.cell? ⟨b, 1, none⟩ = some (.map (some m)) := H2.1.cell 1
  have p0 : w2.cell? ⟨w.heap.size, 0, none⟩ = some (.int .i64 a) := t2.cell 0
  have p1 : w2.cell? ⟨w.heap.size, 1, none⟩ = some (.int .i64 y) := t2.cell 1
  have hlook := (MapIs.drew H2.2.1).look pairEnc Try.underlying137 (zeroI w2.drew) (x := (a, y)) ⟨ha, hy⟩ true
  obtain ⟨r, hr⟩ : ∃ r, (aget L (a, y)).isSome = r := ⟨_, rfl⟩
  obtain ⟨v, hv⟩ : ∃ v, ((aget L (a, y)).map (Value.int .i64)).getD (.int .i64 0) = v := ⟨_, rfl⟩
  rw [hr, hv] at hlook
  simp only [ekPr] at hlook
  have HR := hideIt hr
  clear hr hv z2
  have B2 := hideIt H2
  have T2 := hideIt t2
  have C2 := hideIt c2
  have H0 := hideIt h
  clear H2 t2 c2 h
  go_enter Try.func64, Try.ntmps64
  go_wp2_with (first
    | (refine wpList_allocv _ rfl 141 rfl (zeroPr _) ?_)
    | (refine wpList_storev _ rfl 141 _ _ rfl rfl rfl s2 ?_))
  go_region
  all_goals
    go_wp2
    have k5 : w2.drew.cell? ⟨b, 1, none⟩ = some (.map (some m)) := k1
    have p5 : w2.drew.cell? ⟨w.heap.size, 0, none⟩ = some (.int .i64 a) := p0
    have p6 : w2.drew.cell? ⟨w.heap.size, 1, none⟩ = some (.int .i64 y) := p1
    have B5 := hideIt (show BookAt w2.drew b m win L from ⟨B2.out.1.drew, B2.out.2.1.drew, B2.out.2.2⟩)
    have C5 := hideIt C2.out.drew
    clear k1 p0 p1 hlook B2 C2 T2 s2
    generalize w2.drew = w5 at *
    go_still_tail 5, (by kernel_rfl)
    change wpList _ _ _ _ _ w5.drew
    go_wp2_with (at_delete; refine wpList_drop _ rfl _ _ 137 rfl 3 pairEnc Try.underlying137 B5.out.2.1.drew rfl (a, y) rfl ⟨ha, hy⟩ ?_; intro w4 hm4 ht4)
    go_ret
    have hb4 := (B5.out.1.drew).turned ht4
    exact ⟨by rw [HR.out]; rfl, ⟨hb4, hm4, B5.out.2.2.1, fun p hp => B5.out.2.2.2 p (mem_adel.1 hp).1⟩, ((C5.out.drew).mono (fun _ h => h.elim)).trans (Chg.mapTurned ht4)⟩
end
end Go.Proofs.Ytgmekeeemimnpaa
