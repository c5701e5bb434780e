/- Package report's Note, walked. (Printed by wip/gen/rp2.py.) -/
import Derived.Test.YtgmekeeemimnpaaRp2
namespace Go.Proofs.Ytgmekeeemimnpaa
open Go Go.Maps Go.MapKept Go.RowKit
section
variable {w : World} {b m : Nat} {win : Int} {L : List (Pr × Int)}

set_option maxRecDepth 100000 in
set_option maxHeartbeats 4000000 in
theorem note_calls (a y t : Int) (ha : okI a) (hy : okI y) (ht : okI t) (hB : BookAt w b m win L) :
    Calls Try.prog 58 #[.pointer (some ⟨b, 0, none⟩), .int .i64 a, .int .i64 y, .int .i64 t] w (BookE w b m win (noteP L a y t) (.int .i64 (noteE a y t))) := by
  obtain ⟨a1, a2⟩ := okI_iff.1 ha
  obtain ⟨y1, y2⟩ := okI_iff.1 hy
  obtain ⟨t1, t2⟩ := okI_iff.1 ht
  by_cases q0 : min a y < 1
  · have HE : Hid (noteE a y t = 10) := hideIt (by unfold noteE; rw [if_pos (by left; omega)])
    have HP : Hid (noteP L a y t = L) := hideIt (by unfold noteP; rw [HE.out]; rfl)
    go_enter Try.func58, Try.ntmps58
    go_wp2
    all_goals
      go_ret
      exact ⟨by rw [HE.out]; rfl, by rw [HP.out]; exact hB, Chg.refl _ _⟩
  by_cases q1 : 4294967296 < max a y
  · have HE : Hid (noteE a y t = 10) := hideIt (by unfold noteE; rw [if_pos (by right; left; omega)])
    have HP : Hid (noteP L a y t = L) := hideIt (by unfold noteP; rw [HE.out]; rfl)
    go_enter Try.func58, Try.ntmps58
    go_wp2
    all_goals
      go_ret
      exact ⟨by rw [HE.out]; rfl, by rw [HP.out]; exact hB, Chg.refl _ _⟩
  by_cases q2 : t < 0
  · have HE : Hid (noteE a y t = 10) := hideIt (by unfold noteE; rw [if_pos (by right; right; left; omega)])
    have HP : Hid (noteP L a y t = L) := hideIt (by unfold noteP; rw [HE.out]; rfl)
    go_enter Try.func58, Try.ntmps58
    go_wp2
    all_goals
      go_ret
      exact ⟨by rw [HE.out]; rfl, by rw [HP.out]; exact hB, Chg.refl _ _⟩
  by_cases q3 : 1099511627776 < t
  · have HE : Hid (noteE a y t = 10) := hideIt (by unfold noteE; rw [if_pos (by right; right; right; omega)])
    have HP : Hid (noteP L a y t = L) := hideIt (by unfold noteP; rw [HE.out]; rfl)
    go_enter Try.func58, Try.ntmps58
    go_wp2
    all_goals
      go_ret
      exact ⟨by rw [HE.out]; rfl, by rw [HP.out]; exact hB, Chg.refl _ _⟩
  by_cases q4 : a = y
  · have HE : Hid (noteE a y t = 33) := hideIt (by unfold noteE; rw [if_neg (by omega), if_pos q4])
    have HP : Hid (noteP L a y t = L) := hideIt (by unfold noteP; rw [HE.out]; rfl)
    subst q4
    go_enter Try.func58, Try.ntmps58
    go_wp2
    all_goals
      go_ret
      exact ⟨by rw [HE.out]; rfl, by rw [HP.out]; exact hB, Chg.refl _ _⟩
  have HE : Hid (noteE a y t = 0) := hideIt (by unfold noteE; rw [if_neg (by omega), if_neg q4])
  have HP : Hid (noteP L a y t = aput L (a, y) (max ((aget L (a, y)).getD 0) t)) := hideIt (by unfold noteP; rw [HE.out]; rfl)
  obtain ⟨w2, s2, t2', c2, z2⟩ := keep_rec (P := Try.prog) w infoPr (cs := #[.int .i64 0, .int .i64 0]) (cs' := #[.int .i64 a, .int .i64 y]) rfl rfl (by intro v hv; simp at hv; rcases hv with rfl | rfl <;> rfl)
  have H2 := hB.new c2
  have k1 : w2.cell? ⟨b, 1, none⟩ = some (.map (some m)) := H2.1.cell 1
  have p0 : w2.cell? ⟨w.heap.size, 0, none⟩ = some (.int .i64 a) := t2'.cell 0
  have p1 : w2.cell? ⟨w.heap.size, 1, none⟩ = some (.int .i64 y) := t2'.cell 1
  have hlook := (MapIs.drew H2.2.1).look pairEnc Try.underlying137 (zeroI w2.drew) (x := (a, y)) ⟨ha, hy⟩ false
  obtain ⟨v, hv⟩ : ∃ v, (aget L (a, y)).getD 0 = v := ⟨_, rfl⟩
  have hv2 : ((aget L (a, y)).map (Value.int .i64)).getD (.int .i64 0) = .int .i64 v := by rw [← hv]; cases aget L (a, y) <;> rfl
  have hvb : Hid (0 ≤ v ∧ v ≤ 1099511627776) := hideIt (by
    rw [← hv]
    cases hg : aget L (a, y) with
    | none => simp
    | some z => exact (hB.2.2.2 _ (aget_some_mem hg)).2.2)
  rw [hv2] at hlook
  simp only [ekPr, Bool.false_eq_true, if_false] at hlook
  rw [hv] at HP
  clear hv hv2 z2
  have B2 := hideIt H2
  have C2 := hideIt c2
  have QA := hideIt (show (1 ≤ a ∧ a ≤ 4294967296) ∧ (1 ≤ y ∧ y ≤ 4294967296) ∧ 0 ≤ t ∧ t ≤ 1099511627776 by omega)
  clear H2 t2' c2 hB
  go_enter Try.func58, Try.ntmps58
  go_wp2_with (first
    | (refine wpList_allocv _ rfl 141 rfl (zeroPr _) ?_)
    | (refine wpList_storev _ rfl 141 _ _ rfl rfl rfl s2 ?_))
  all_goals
    go_still_tail 13, (by kernel_rfl)
    change wpList _ _ _ _ _ w2.drew
    go_wp2_with (at_mapUpdate; refine wpList_store _ rfl _ _ _ 137 rfl 3 pairEnc Try.underlying137 B2.out.2.1.drew rfl (a, y) rfl ⟨ha, hy⟩ (if v < t then t else v) rfl ?_; intro w4 hm4 ht4)
    all_goals
      go_ret
      have hb4 := (B2.out.1.drew).turned ht4
      rw [show (if v < t then t else v) = max v t by omega] at hm4
      refine ⟨by rw [HE.out]; rfl, ?_, ((C2.out.drew).mono (fun _ h => h.elim)).trans (Chg.mapTurned ht4)⟩
      rw [HP.out]
      refine ⟨hb4, hm4, B2.out.2.2.1, fun p hp => ?_⟩
      rcases mem_aput.1 hp with rfl | ⟨hp, _⟩
      · have := QA.out
        have := hvb.out
        simp only
        omega
      · exact B2.out.2.2.2 p hp
end
end Go.Proofs.Ytgmekeeemimnpaa
