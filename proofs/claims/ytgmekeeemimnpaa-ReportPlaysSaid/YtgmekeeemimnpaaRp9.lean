/- Package report's remove, Expire, Forget, walked. -/
import Derived.Test.YtgmekeeemimnpaaRp8
namespace Go.Proofs.Ytgmekeeemimnpaa
open Go Go.Maps Go.MapKept Go.RowKit

section
variable {w : World} {b m : Nat} {win : Int} {L : List (Pr × Int)}
set_option maxHeartbeats 2000000 in
theorem remove_calls (h : BookAt w b m win L) (hL : L.length ≤ 1000000) (cf : FuncId) (cb : Array Value) (pd : Pr × Int → Bool) (eg : ∀ args w, (callFunc cf args).run Try.prog w = .ok (.enter cf args) w)
    (hcl : ∀ (W : World) (a y t : Int), Chg (fun i => i = m) w W → ((a, y), t) ∈ L → Calls Try.prog cf (#[.agg #[.int .i64 a, .int .i64 y], .int .i64 t] ++ cb) W fun e W' => e = .returned (.bool (pd ((a, y), t))) ∧ Chg (fun _ => False) W W') (r : Nat) (hr : r + (L.filter (fun p => !pd p)).length = L.length) :
    Calls Try.prog 104 #[.pointer (some ⟨b, 0, none⟩), .func (.func cf) #[] cb] w (BookE w b m win (L.filter (fun p => !pd p)) (.int .i64 (r : Int))) := by
  have c1 : w.cell? ⟨b, 1, none⟩ = some (.map (some m)) := h.1.cell 1
  have hne := h.ne
  have HD := hideIt (rdel_calls h.2.1 cf cb pd eg hcl)
  have H := hideIt h
  obtain ⟨L', hL'⟩ : ∃ L', L.filter (fun p => !pd p) = L' := ⟨_, rfl⟩
  have HL' := hideIt hL'
  rw [hL'] at HD hr ⊢
  have hlen := fun ty => MapIs.len (P := Try.prog) (w := w) h.2.1 Try.underlying137 ty
  obtain ⟨n0, hn0⟩ : ∃ n0, L.length = n0 := ⟨_, rfl⟩
  obtain ⟨n1, hn1⟩ : ∃ n1, L'.length = n1 := ⟨_, rfl⟩
  rw [hn0] at hlen hr hL
  rw [hn1] at hr
  have HN1 := hideIt hn1
  have hrr : (n0 : Int) - (n1 : Int) = (r : Int) := by omega
  have HRR := hideIt hrr
  clear hL' h hcl hn0 hn1 hrr
  go_enter Try.func104, Try.ntmps104
  go_wp2_with fail
  refine HD.out.mono ?_
  rintro e w1 ⟨rfl, hm1, k1⟩
  have hb1 := H.out.1.chg k1 hne.symm
  have c1' : w1.cell? ⟨b, 1, none⟩ = some (.map (some m)) := hb1.cell 1
  have hlen1 := fun ty => MapIs.len (P := Try.prog) (w := w1) hm1 Try.underlying137 ty
  rw [HN1.out] at hlen1
  go_wp2
  go_ret
  refine ⟨?_, ⟨hb1, hm1, H.out.2.2.1, fun p hp => ?_⟩, k1⟩
  · have := HRR.out
    rw [← this]
    rfl
  · rw [← HL'.out] at hp
    exact H.out.2.2.2 p (List.mem_filter.1 hp).1
end
end Go.Proofs.Ytgmekeeemimnpaa
