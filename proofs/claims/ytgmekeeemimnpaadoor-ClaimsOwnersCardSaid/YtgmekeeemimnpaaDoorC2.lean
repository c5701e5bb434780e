/- math/bits.TrailingZeros64 and a set's list, walked. -/
import Derived.Test.YtgmekeeemimnpaaDoorC1
import Derived.Test.YtgmekeeemimnpaaDoorApp
import Derived.Test.YtgmekeeemimnpaaDoorChecked
import Derived.Deep.QuietTactic
import Derived.BigQuiet
import Derived.Lib.LaidTab
namespace Go.Proofs.YtgmekeeemimnpaaDoor
open Go Go.Maps Go.MapKept Go.RowKit

/-- The library's table lies in block 0. -/
def TabW (w : World) : Prop := 0 < w.heap.size ∧ ∀ k, k < 64 → w.cell? ⟨0, k, none⟩ = some (.int .u8 ((bruijn.getD k 0 : Nat) : Int))
theorem TabW.chg {S : Nat → Prop} {w w' : World} (h : TabW w) (hc : Chg S w w') (hS : ¬ S 0) : TabW w' :=
  ⟨Nat.lt_of_lt_of_le h.1 hc.size, fun k hk => (hc.cell h.1 hS).trans (h.2 k hk)⟩

theorem neg_u64 {m : Nat} (h0 : m ≠ 0) (hm : m < 2 ^ 64) : IntKind.u64.wrap (-(m : Int)) = ((2 ^ 64 - m : Nat) : Int) := by
  rw [IntKind.wrap_u64]; omega

set_option maxHeartbeats 400000 in
theorem tz_calls (w : World) (hT : TabW w) (m t q : Nat) (h0 : m ≠ 0) (hm : m < 2 ^ 64) (h : m = 2 ^ (t + 1) * q + 2 ^ t) :
    Calls Tryd.prog 26 #[.int .u64 (m : Int)] w fun e w' => e = .returned (.int .i64 (t : Int)) ∧ w = w' := by
  have ht := low_lt h hm
  have hn := neg_u64 h0 hm
  obtain ⟨P, hP⟩ : ∃ P : Nat, P = 2 ^ t := ⟨_, rfl⟩
  have ha : bits .and .u64 (m : Int) ((2 ^ 64 - m : Nat) : Int) = (P : Int) := by
    rw [u64_and_nat _ _ hm (by omega), low_alone h hm, hP]
  obtain ⟨hb1, hb2⟩ := bruijn_at t ht
  have hc := hT.2 _ hb1
  rw [hb2] at hc
  rw [← hP] at hb1 hc
  obtain ⟨x, hx⟩ : ∃ x : Nat, x = P * 285870213051353865 % 2 ^ 64 / 2 ^ 58 := ⟨_, rfl⟩
  rw [← hx] at hb1 hc
  have hd : IntKind.u64.wrap ((P : Int) * 285870213051353865) / 288230376151711744 = (x : Int) := by
    have hx' : x = P * 285870213051353865 % 18446744073709551616 / 288230376151711744 := hx
    rw [IntKind.wrap_u64, hx', Int.natCast_ediv, Int.natCast_emod, Int.natCast_mul]
    rfl
  have hz : ((m : Int) == 0) = false := by simp; omega
  clear h hP hb2 hx
  go_enter Tryd.func26, Tryd.ntmps26
  go_wp2_with fail
  go_ret
  exact ⟨rfl, rfl⟩

theorem infoInt : (Tryd.prog.info? 3).map (fun i => (i.zero, i.size, i.bytes)) = some (some (.int .i64 0), 1, 8) := by kernel_rfl
def slotsI (m : Nat) : List Int := (slotsOf m).map (fun (i : Nat) => (i : Int))
theorem slotsI_len (m : Nat) : (slotsI m).length ≤ 64 := by unfold slotsI; rw [List.length_map]; exact slots_len m
theorem slotsI_ok (m : Nat) : ∀ x ∈ slotsI m, okI x := by
  intro x hx
  unfold slotsI at hx
  obtain ⟨i, hi, rfl⟩ := List.mem_map.1 hx
  have := (mem_slots.1 hi).1
  exact okI_iff.2 (by omega)

theorem slotsI_step {m t q : Nat} (h : m = 2 ^ (t + 1) * q + 2 ^ t) (hm : m < 2 ^ 64) : slotsI m = (t : Int) :: slotsI (m &&& (m - 1)) := by
  unfold slotsI; rw [slots_step h hm]; rfl

def ListIs (m : Nat) (w : World) (e : Ending) (w' : World) : Prop := ∃ A n c, e = .returned (.slice A n c) ∧ OwnI w' w.heap.size 3 (.slice A n c) (slotsI m) ∧ Chg (fun _ => False) w w'
set_option maxRecDepth 100000 in
set_option maxHeartbeats 1000000 in
theorem list_calls (w : World) (hT : TabW w) (m : Nat) (hm : m < 2 ^ 64) : Calls Tryd.prog 18 #[.int .u64 (m : Int)] w fun e w' => ListIs m w e w' := by
  obtain ⟨i0, hi, hz0, hz1, hz2⟩ : ∃ i, Tryd.prog.info? 3 = some i ∧ i.zero = some (.int .i64 0) ∧ i.size = 1 ∧ i.bytes = 8 := by
    have h := infoInt
    cases he : Tryd.prog.info? 3 with
    | none => rw [he] at h; cases h
    | some i => rw [he] at h; simp at h; exact ⟨i, rfl, h.1, h.2.1, h.2.2⟩
  have HI := hideIt hi
  clear hi
  have HT := hideIt hT
  clear hT
  go_enter Tryd.func18, Tryd.ntmps18
  go_wp2
  go_loopw [3, 4] (fun v r wr => ∃ (k N c' : Nat) (A' : Option Addr) (xs : List Int), k < 2 ^ 64 ∧ r = .int .u64 (k : Int) ∧ v = .slice A' N c' ∧ OwnI wr w.heap.size 3 (.slice A' N c') xs ∧ xs ++ slotsI k = slotsI m ∧ Chg (fun _ => False) w wr) (fun _ r _ => (intOf r).toNat)
  case atStart => exact ⟨m, 0, 0, none, [], hm, rfl, rfl, OwnI.nil _ _ _, rfl, Chg.refl _ _⟩
  case round =>
    obtain ⟨k, N, c', A', xs, hk, rfl, rfl, ho, hx, hc⟩ := hrel
    by_cases h0 : k = 0
    · have hz : ((k : Int) == 0) = true := by simp; omega
      have hxs : xs = slotsI m := by
        rw [← hx, h0]; simp [slotsI, slots_zero]
      rw [hxs] at ho
      have HO := hideIt ho
      have HC := hideIt hc
      clear hx hxs h0 ho hc
      go_wp2
      all_goals go_ret
      exact ⟨_, _, _, rfl, HO.out, HC.out⟩
    · have hz : ((k : Int) == 0) = false := by simp; omega
      obtain ⟨t, q, hl⟩ := low_split k h0
      have ht := low_lt hl hk
      have hs := slotsI_step hl hk
      have HTZ := hideIt (tz_calls wr (HT.out.chg hc (fun h => h)) k t q h0 hk hl)
      have hs1 : IntKind.u64.wrap ((k : Int) - 1) = ((k - 1 : Nat) : Int) := by rw [IntKind.wrap_u64]; omega
      have hs2 : bits .and .u64 (k : Int) ((k - 1 : Nat) : Int) = ((k &&& (k - 1) : Nat) : Int) := u64_and_nat _ _ hk (by omega)
      have hr := Nat.and_le_right (n := k) (m := k - 1)
      obtain ⟨k2, hk2⟩ : ∃ k2, k2 = k &&& (k - 1) := ⟨_, rfl⟩
      rw [← hk2] at hs hs2 hr
      have hx2 : (xs ++ [(t : Int)]) ++ slotsI k2 = slotsI m := by rw [← hx, hs]; simp
      have HX2 := hideIt hx2
      have hbs : xs.length + 1 ≤ 17592186043904 := by
        have h1 := congrArg List.length hx2
        have h2 := slotsI_len m
        simp only [List.length_append, List.length_singleton] at h1
        omega
      have hokt : okI (t : Int) := okI_iff.2 (by omega)
      have hbase : w.heap.size ≤ (wr.alloc (.cells #[.int .i64 (t : Int)] 3)).heap.size := by have := hc.size; simp; omega
      have HS := hideIt hs
      have HK2 := hideIt hk2
      have HL := hideIt hl
      clear hs hx hx2 hk2 hl
      have t1 : True := trivial
      go_wp2_with (first | (go_at_call 26; refine HTZ.out.mono ?_; rintro e w1 ⟨rfl, rfl⟩) | (have _t := t1; at_builtin; refine wpList_append_ints _ rfl _ _ 35 rfl i0 _ Tryd.underlying35 HI.out hz0 hz1 hz2 rfl rfl (ho.alloc _) rfl (Ints.one wr 3 (t : Int) hokt) hbs hbase ?_; intro v3 w3 o3 g3 l3; clear t1 _t; have c3 : Chg (fun _ => False) w w3 := (hc.alloc _).grown g3 (fun i e => .inr (ho.base_le e)); obtain ⟨A3, k3, hv3, hk3, hm3, _⟩ := o3.slice; obtain ⟨N3, hN3⟩ : ∃ N3, Hid ((xs ++ [(t : Int)]).length = N3) := ⟨_, hideIt rfl⟩; rw [hN3.out] at hv3; rw [hv3] at o3; rw [hv3]; clear hv3 g3 l3 hk3))
      go_roundw
      case rel => first | exact ⟨k2, N3, k3, A3, xs ++ [(t : Int)], by omega, rfl, rfl, o3, HX2.out, c3⟩ | ((repeat apply Exists.intro); exact ⟨⟨k2, N3, k3, A3, xs ++ [(t : Int)], by omega, rfl, rfl, o3, HX2.out, c3⟩, rfl⟩)
      case measure => simp [intOf]; omega
end Go.Proofs.YtgmekeeemimnpaaDoor
