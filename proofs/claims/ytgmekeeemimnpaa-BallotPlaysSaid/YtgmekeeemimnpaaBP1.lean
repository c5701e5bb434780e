/- Layer 15's own 'has', walked. -/
import Derived.Test.YtgmekeeemimnpaaQGrows
namespace Go.Proofs.Ytgmekeeemimnpaa
open Go Go.Maps Go.MapKept Go.RowKit

set_option maxRecDepth 100000 in
set_option maxHeartbeats 4000000 in
theorem has15_calls {A : Option Addr} {n c : Nat} {l : List Int} (x : Int) (w : World) (hl : Ints w A n l) (hn : n ≤ 1000000) :
    Calls Try.prog 82 #[.slice A n c, .int .i64 x] w fun e w' => e = .returned (.bool (decide (x ∈ l))) ∧ w = w' := by
  have HL := hideIt hl
  have HLN := hideIt hl.len
  clear hl
  go_enter Try.func82, Try.ntmps82
  go_wp2
  go_loop [9] (fun i => ∃ k : Nat, k ≤ n ∧ i = .int .i64 k ∧ Hid (x ∉ l.take k)) (fun i => n - (intOf i).toNat)
  case atStart => exact ⟨0, by omega, rfl, hideIt (by simp)⟩
  case round =>
    obtain ⟨k, hk, rfl, hno⟩ := hrel
    by_cases hlt : k < n
    · obtain ⟨p, off, rfl, hbl, hcell⟩ := HL.out.at_ (by omega)
      have hx := hcell k hlt
      have htk := take_succ_getD l k (by rw [HLN.out]; exact hlt)
      have hmem : l.getD k 0 ∈ l := getD_mem (by rw [HLN.out]; exact hlt)
      obtain ⟨y, hy⟩ : ∃ y, l.getD k 0 = y := ⟨_, rfl⟩
      rw [hy] at hx htk hmem
      clear hcell hy
      by_cases he : x = y
      · have HM : Hid (decide (x ∈ l) = true) := hideIt (by rw [he]; simpa using hmem)
        have de : (x == y) = true := by simpa using he
        clear he htk hmem hno
        go_wp2
        go_ret
        exact ⟨ret_bool HM.out.symm, rfl⟩
      · have de : (x == y) = false := by simpa using he
        have HN : Hid (x ∉ l.take (k + 1)) := hideIt (by
          rw [htk]
          simp only [List.mem_append, List.mem_singleton, not_or]
          exact ⟨hno.out, he⟩)
        clear he htk hmem hno
        go_wp2
        exact ⟨⟨k + 1, by omega, by go_num, HN⟩, by simp [intOf]; omega⟩
    · obtain rfl : k = n := by omega
      have HM : Hid (decide (x ∈ l) = false) := hideIt (by
        have h1 : l.take k = l := by rw [← HLN.out, List.take_length]
        have h2 := hno.out
        rw [h1] at h2
        simpa using h2)
      clear hno
      go_wp2
      go_ret
      exact ⟨ret_bool HM.out.symm, rfl⟩
end Go.Proofs.Ytgmekeeemimnpaa
