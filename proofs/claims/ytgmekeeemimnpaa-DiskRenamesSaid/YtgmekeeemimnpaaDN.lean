/- Layer 12's own 'named', walked; it is package disk's. -/
import Derived.Test.YtgmekeeemimnpaaD11
import Derived.Laws.RangeAny
namespace Go.Proofs.Ytgmekeeemimnpaa
open Go Go.Maps Go.MapKept Go.RowKit Go.Sort

/-- Is it a letter of a name? -/
def okB (b : UInt8) : Bool := decide (97 ≤ b.toNat) && decide (b.toNat ≤ 122)
theorem noName_ok {b : UInt8} : noName b.toNat = !okB b := by
  unfold noName okB
  rw [Bool.eq_iff_iff]
  simp
  omega
theorem noName_high {r : Nat} (h : 128 ≤ r) : noName r = true := by unfold noName; simp; omega
theorem idx_none {s : ByteArray} : ∀ f pos, (∀ i (h : i < s.size), pos ≤ i → okB s[i] = true) → Lib.idxFuncFrom noName true s f pos = -1
  | 0, _, _ => rfl
  | f + 1, pos, h => by
    unfold Lib.idxFuncFrom
    split
    · next hp =>
      have h0 := h pos hp (Nat.le_refl _)
      have hb : s[pos].toNat < 128 := by unfold okB at h0; simp at h0; omega
      rw [decode_ascii s pos hp hb]
      simp only [noName_ok, h0, Bool.not_true, Bool.false_eq_true, if_false]
      exact idx_none f (pos + 1) (fun i hi hpi => h i hi (by omega))
    · rfl
theorem idx_some {s : ByteArray} : ∀ f pos, s.size ≤ pos + f → (∃ i, ∃ h : i < s.size, pos ≤ i ∧ okB s[i] = false) → 0 ≤ Lib.idxFuncFrom noName true s f pos
  | 0, pos, hf, h => by
    obtain ⟨i, hi, hp, _⟩ := h
    omega
  | f + 1, pos, hf, h => by
    obtain ⟨i, hi, hpi, hbad⟩ := h
    unfold Lib.idxFuncFrom
    rw [if_pos (by omega)]
    have hp : pos < s.size := by omega
    by_cases hb : s[pos].toNat < 128
    · rw [decode_ascii s pos hp hb]
      simp only [noName_ok]
      cases ho : okB s[pos] with
      | false => simp
      | true =>
        simp only [Bool.not_true, Bool.false_eq_true, if_false]
        refine idx_some f (pos + 1) (by omega) ⟨i, hi, ?_, hbad⟩
        rcases Nat.lt_or_ge pos i with h1 | h1
        · exact h1
        · have : pos = i := by omega
          subst this
          rw [ho] at hbad; cases hbad
    · have hd := decode_high s pos hp (by omega)
      rw [noName_high hd.1]
      simp
/-- .. in bytes. -/
theorem namedB_eq (l : Str) : namedB l = (l.all okB && (decide (1 ≤ l.length) && decide (l.length ≤ 16))) := by
  unfold namedB Lib.idxFunc
  have hsz : (ByteArray.mk l.toArray).size = l.length := by simp [ByteArray.size]
  have hget : ∀ i (h : i < (ByteArray.mk l.toArray).size), (ByteArray.mk l.toArray)[i] = l[i]'(by rw [← hsz]; exact h) := fun i h => by
    show (ByteArray.mk l.toArray).data[i] = _
    simp
  cases ha : l.all okB with
  | true =>
    have h1 : Lib.idxFuncFrom noName true ⟨l.toArray⟩ (ByteArray.mk l.toArray).size 0 = -1 := idx_none _ _ (fun i hi _ => by
      rw [hget i hi]
      exact List.all_eq_true.1 ha _ (List.getElem_mem _))
    rw [h1]
    cases l with
    | nil => simp
    | cons a t => simp
  | false =>
    have h1 : 0 ≤ Lib.idxFuncFrom noName true ⟨l.toArray⟩ (ByteArray.mk l.toArray).size 0 := idx_some _ _ (by omega) (by
      have : ∃ b ∈ l, okB b = false := by
        by_cases hx : ∃ b ∈ l, okB b = false
        · exact hx
        · exfalso
          have : l.all okB = true := List.all_eq_true.2 (fun b hb => by
            cases h : okB b with
            | true => rfl
            | false => exact absurd ⟨b, hb, h⟩ hx)
          rw [this] at ha; cases ha
      obtain ⟨b, hb, hbo⟩ := this
      obtain ⟨i, hi, rfl⟩ := List.mem_iff_getElem.1 hb
      exact ⟨i, by rw [hsz]; exact hi, Nat.zero_le _, by rw [hget]; exact hbo⟩)
    simp [h1]
set_option maxRecDepth 100000 in
set_option maxHeartbeats 4000000 in
theorem lnamed_calls (l : Str) (w : World) (hl : l.length ≤ 1000000) : Calls Try.prog 94 #[encStr l] w fun e w' => e = .returned (.bool (namedB l)) ∧ w = w' := by
  have HB := hideIt (namedB_eq l)
  obtain ⟨n, hn⟩ : ∃ n, l.length = n := ⟨_, rfl⟩
  have HN := hideIt hn
  have hn1 : n ≤ 1000000 := by omega
  go_enter Try.func94, Try.ntmps94
  go_wp2
  go_loop [6] (fun i => ∃ k : Nat, k ≤ n ∧ i = .int .i64 k ∧ Hid ((l.take k).all okB = true)) (fun i => n - (intOf i).toNat)
  case atStart => exact ⟨0, by omega, rfl, hideIt (by simp)⟩
  case round =>
    obtain ⟨k, hk, rfl, ht⟩ := hrel
    by_cases hlt : k < n
    · have hkl : k < l.length := by omega
      obtain ⟨y, hy⟩ : ∃ y : UInt8, l[k] = y := ⟨_, rfl⟩
      have hidx : ∀ W : World, (Instr.index 9 (encStr l) (.int .i64 (k : Int))).run Try.prog W = .ok (.int .u8 (y.toNat : Int)) W := fun W => by
        have hsz : (ByteArray.mk l.toArray).size = l.length := by simp [ByteArray.size]
        rw [run_index_string W 9 ⟨l.toArray⟩ .i64 (k : Int) Try.underlying9, dif_pos ⟨by omega, by rw [hsz]; omega⟩]
        have : (ByteArray.mk l.toArray)[(k : Int).toNat]'(by rw [hsz]; omega) = y := by
          rw [← hy]
          show (ByteArray.mk l.toArray).data[(k : Int).toNat] = _
          simp
        rw [this]
      have htk : l.take (k + 1) = l.take k ++ [y] := by rw [List.take_succ_eq_append_getElem hkl, hy]
      have hym : y ∈ l := by rw [← hy]; exact List.getElem_mem _
      have hall : okB y = false → namedB l = false := fun h => by
        rw [namedB_eq]
        have : l.all okB = false := by
          cases ha : l.all okB with
          | false => rfl
          | true => rw [List.all_eq_true.1 ha y hym] at h; cases h
        rw [this]; rfl
      obtain ⟨z, hz⟩ : ∃ z, y.toNat = z := ⟨_, rfl⟩
      rw [hz] at hidx
      by_cases h1 : (z : Int) < 97
      · have H := hideIt (hall (by unfold okB; rw [hz]; simp; omega))
        clear hall htk hym hy hkl ht hz hn
        go_wp2
        go_ret
        exact ⟨ret_bool H.out.symm, rfl⟩
      · by_cases h2 : 122 < (z : Int)
        · have H := hideIt (hall (by unfold okB; rw [hz]; simp; omega))
          clear hall htk hym hy hkl ht hz hn
          go_wp2
          go_ret
          exact ⟨ret_bool H.out.symm, rfl⟩
        · have H : Hid ((l.take (k + 1)).all okB = true) := hideIt (by rw [htk, List.all_append, ht.out]; simp [okB, hz]; omega)
          clear hall htk hym hy hkl ht hz hn
          go_wp2
          exact ⟨⟨k + 1, by omega, by go_num, H⟩, by simp [intOf]; omega⟩
    · obtain rfl : k = n := by omega
      have H := hideIt (show namedB l = (decide (1 ≤ k) && decide (k ≤ 16)) by
        have h1 := ht.out
        rw [← hn, List.take_length] at h1
        rw [namedB_eq, h1, Bool.true_and, hn])
      clear ht
      by_cases h1 : 1 ≤ k
      · by_cases h2 : k ≤ 16
        · have H2 := hideIt (show namedB l = true by rw [H.out]; simp [h1, h2])
          have d2 : decide ((k : Int) ≤ 16) = true := by simp; omega
          go_wp2
          go_ret
          exact ⟨ret_bool H2.out.symm, rfl⟩
        · have H2 := hideIt (show namedB l = false by rw [H.out]; simp [h2])
          have d2 : decide ((k : Int) ≤ 16) = false := by simp; omega
          go_wp2
          go_ret
          exact ⟨ret_bool H2.out.symm, rfl⟩
      · have H2 := hideIt (show namedB l = false by rw [H.out]; simp [h1])
        go_wp2
        go_ret
        exact ⟨ret_bool H2.out.symm, rfl⟩
end Go.Proofs.Ytgmekeeemimnpaa
