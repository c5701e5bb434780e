/- QuorumApart, walked: of voters who grant to one of two each at most one comes to a majority. -/
import Derived.Test.YtgmekeeemimnpaaQ6
import Derived.Test.YtgmekeeemimnpaaSl
namespace Go.Proofs.Ytgmekeeemimnpaa
open Go Go.Maps Go.MapKept Go.RowKit

def encB (b : Bool) : List Value := [.bool b]
theorem bools_of_trod {H : Type} {encH : TypeId × Value → H} {W : World} {a : Option Addr} {len cap : Nat} {d : DataW H} {p : List MemPlace} (h : DataW.Trod encH Try.prog W 0 (fun _ => true) true 26 (.slice a len cap) d p) : ∃ xs : List Bool, Recs encB 1 false W a len xs ∧ (∀ x ∈ xs, True) ∧ len ≤ cap ∧ cap ≤ maxLen :=
  recs_of_trod Try.underlying26 (by kernel_rfl) (by decide) (fun _ => True) (fun _ cs' y h => by
    obtain ⟨b, rfl, _⟩ := DataW.trod_bool Try.underlying4 h
    exact ⟨b, rfl, trivial⟩) h

/-- Those among the first k voters whose choice is b. -/
def sel (b : Bool) (vs : List Int) (bs : List Bool) (k : Nat) : List Int := (((vs.zip bs).take k).filter (fun q => q.2 == b)).map (·.1)
theorem sel_zero (b : Bool) (vs : List Int) (bs : List Bool) : sel b vs bs 0 = [] := rfl
theorem sel_same {vs : List Int} {bs : List Bool} {k : Nat} (b : Bool) (h : bs.length ≤ k) : sel b vs bs (k + 1) = sel b vs bs k := by
  unfold sel
  rw [List.take_of_length_le (by simp; omega), List.take_of_length_le (by simp; omega)]
theorem sel_succ {vs : List Int} {bs : List Bool} {k : Nat} (b : Bool) (h1 : k < vs.length) (h2 : k < bs.length) : sel b vs bs (k + 1) = if bs.getD k false = b then sel b vs bs k ++ [vs.getD k 0] else sel b vs bs k := by
  unfold sel
  rw [List.take_succ_eq_append_getElem (by simp; omega), List.filter_append, List.map_append]
  have e : (vs.zip bs)[k]'(by simp; omega) = (vs.getD k 0, bs.getD k false) := by
    rw [List.getElem_zip]
    simp [List.getD, h1, h2]
  rw [e]
  generalize bs.getD k false = y
  generalize vs.getD k 0 = x
  by_cases hb : y = b
  · subst hb
    simp
  · simp [hb]
theorem fst_zip : ∀ (vs : List Int) (bs : List Bool), ((vs.zip bs).map (·.1)).Sublist vs
  | [], _ => by simp
  | _ :: _, [] => by simp
  | v :: vs, b :: bs => by simpa using fst_zip vs bs
theorem sel_sub (b : Bool) (vs : List Int) (bs : List Bool) (k : Nat) : (sel b vs bs k).Sublist vs := by
  unfold sel
  have h1 : ((((vs.zip bs).take k).filter (fun q => q.2 == b)).map (·.1)).Sublist ((vs.zip bs).map (·.1)) := ((List.filter_sublist).trans (List.take_sublist _ _)).map _
  exact h1.trans (fst_zip vs bs)
theorem cnt_sub {vs S : List Int} (hn : vs.Nodup) (hs : S.Sublist vs) : cnt vs S = S.length := by
  unfold cnt
  apply List.Perm.length_eq
  rw [List.perm_ext_iff_of_nodup (hn.filter _) (hs.nodup hn)]
  intro x
  simp only [List.mem_filter, decide_eq_true_eq]
  exact ⟨fun h => h.2, fun h => ⟨hs.subset h, h⟩⟩
theorem sel_len (vs : List Int) (bs : List Bool) : (sel true vs bs vs.length).length + (sel false vs bs vs.length).length = min vs.length bs.length := by
  have key : ∀ l : List (Int × Bool), (l.filter (fun q => q.2 == true)).length + (l.filter (fun q => q.2 == false)).length = l.length := by
    intro l
    induction l with
    | nil => rfl
    | cons p r ih => obtain ⟨a, b⟩ := p; cases b <;> simp at * <;> omega
  unfold sel
  rw [List.length_map, List.length_map, key, List.length_take, List.length_zip]
  omega

set_option maxRecDepth 100000 in
set_option maxHeartbeats 4000000 in
theorem apart_calls {A B : Option Addr} {n m c d : Nat} {vs : List Int} {bs : List Bool} (w : World) (hv : Ints w A n vs ∧ n ≤ c ∧ c ≤ maxLen) (hy : Recs encB 1 false w B m bs ∧ (∀ x ∈ bs, True) ∧ m ≤ d ∧ d ≤ maxLen) :
    Calls Try.prog 4 #[.slice A n c, .slice B m d] w fun r w' => r = .returned (.bool true) ∧ Below w.heap.size w w' := by
  have HA := hideIt (anchor04 w)
  obtain ⟨hv, hnc, hcm⟩ := hv
  obtain ⟨hy, _, hmd, hdm⟩ := hy
  have hlv := hv.len
  have hly := hy.len
  unfold maxLen at hcm hdm
  by_cases h1 : 16 < n
  · go_enter Try.func4, Try.ntmps4
    go_wp2_with (go_at_call 31; refine HA.out.mono ?_; rintro r w1 ⟨rfl, c1⟩)
    go_ret
    exact ⟨rfl, c1.none_below⟩
  by_cases h2 : 60 < m
  · go_enter Try.func4, Try.ntmps4
    go_wp2_with (go_at_call 31; refine HA.out.mono ?_; rintro r w1 ⟨rfl, c1⟩)
    go_ret
    exact ⟨rfl, c1.none_below⟩
  cases hr : rightB vs with
  | false =>
    have HN := hideIt (fun W (hW : Chg (fun _ => False) w W) => new_no A n c vs W (hv.new hW) (by omega) hr)
    clear hr hlv hly
    go_enter Try.func4, Try.ntmps4
    go_wp2_with fail
    refine HA.out.mono ?_
    rintro r w1 ⟨rfl, c1⟩
    go_wp2_with fail
    refine (HN.out w1 c1).mono ?_
    rintro r w2 ⟨rfl, c2⟩
    go_wp2_with fail
    refine (HN.out w2 (c1.trans c2)).mono ?_
    rintro r w3 ⟨rfl, c3⟩
    go_wp2_with fail
    go_ret
    exact ⟨rfl, ((c1.trans c2).trans c3).none_below⟩
  | true =>
    have HN := hideIt (fun W (hW : Chg (fun _ => False) w W) => new_yes A n c vs W (hv.new hW) hr)
    have HR := hideIt hr
    clear hr
    go_enter Try.func4, Try.ntmps4
    go_wp2_with fail
    refine HA.out.mono ?_
    rintro r w1 ⟨rfl, c1⟩
    go_wp2_with fail
    refine (HN.out w1 c1).mono ?_
    rintro r w2 ⟨p, q, rfl, hp, hq, t2, c2⟩
    go_wp2_with fail
    refine (HN.out w2 (c1.trans c2)).mono ?_
    rintro r w3 ⟨p', q', rfl, hp', hq', t3, c3⟩
    have hpl := t2.blk.lt
    have hql := t2.map.lt
    have s1 := c1.size
    have c4 := (c1.trans c2).trans c3
    have t2' := t2.chg c3 (fun h => h) (fun h => h)
    go_wp2_with fail
    go_loopw [42] (fun i wr => ∃ k : Nat, k ≤ n ∧ i = .int .i64 k ∧ TallyAt wr p q (grants (fresh vs) (sel true vs bs k)) ∧ TallyAt wr p' q' (grants (fresh vs) (sel false vs bs k)) ∧ Chg (fun _ => False) w wr) (fun i _ => n - (intOf i).toNat)
    case atStart => exact ⟨0, Nat.zero_le _, rfl, t2', t3, c4⟩
    case round =>
      obtain ⟨k, hk, rfl, ts, tt, hc⟩ := hrel
      have HLV := hideIt hlv
      have HLY := hideIt hly
      clear hlv hly t2 t2' t3 c1 c2 c3 c4
      by_cases hlt : k < n
      · obtain ⟨b, off, rfl, hbl, hcell⟩ := hv.at_ (by omega)
        have hx : wr.cell? ⟨b, off + k, none⟩ = some (.int .i64 (vs.getD k 0)) := (hc.cell (p := ⟨b, off + k, none⟩) hbl (fun h => h)).trans (hcell k hlt)
        have hok : okI (vs.getD k 0) := hv.ok _ (getD_mem (by rw [HLV.out]; exact hlt))
        obtain ⟨x, hX⟩ : ∃ x, vs.getD k 0 = x := ⟨_, rfl⟩
        rw [hX] at hx hok
        have HX := hideIt hX
        clear hX hcell
        by_cases hkm : k < m
        · obtain ⟨b', off', rfl, hbl', hcell'⟩ := hy.at_ (by omega)
          have hy1 : wr.cell? ⟨b', off' + k, none⟩ = some (.bool (bs.getD k false)) := (hc.cell (p := ⟨b', off' + k, none⟩) hbl' (fun h => h)).trans (by simpa using hcell' k hkm 0 _ rfl)
          clear hcell'
          cases hb : bs.getD k false with
          | true =>
            rw [hb] at hy1
            have HB1 : Hid (sel true vs bs (k + 1) = sel true vs bs k ++ [x]) := hideIt (by rw [sel_succ true (by rw [HLV.out]; exact hlt) (by rw [HLY.out]; exact hkm), hb, HX.out]; exact if_pos rfl)
            have HB2 : Hid (sel false vs bs (k + 1) = sel false vs bs k) := hideIt (by rw [sel_succ false (by rw [HLV.out]; exact hlt) (by rw [HLY.out]; exact hkm), hb, HX.out]; exact if_neg (by decide))
            clear hb
            go_wp2_with (go_at_call 34; refine (grant_calls p q _ x _ ts hok).mono ?_; rintro e w5 ⟨rfl, t5, c5, s5⟩; clear s5)
            go_roundw
            case rel => exact ⟨k + 1, by omega, by go_num, by rw [HB1.out, grants_snoc]; exact t5, by rw [HB2.out]; exact tt.chg c5 (by omega) (by omega), hc.trans' c5 (fun i hi => .inr (by omega))⟩
            case measure => simp [intOf]; omega
          | false =>
            rw [hb] at hy1
            have HB1 : Hid (sel true vs bs (k + 1) = sel true vs bs k) := hideIt (by rw [sel_succ true (by rw [HLV.out]; exact hlt) (by rw [HLY.out]; exact hkm), hb, HX.out]; exact if_neg (by decide))
            have HB2 : Hid (sel false vs bs (k + 1) = sel false vs bs k ++ [x]) := hideIt (by rw [sel_succ false (by rw [HLV.out]; exact hlt) (by rw [HLY.out]; exact hkm), hb, HX.out]; exact if_pos rfl)
            clear hb
            go_wp2_with (go_at_call 34; refine (grant_calls p' q' _ x _ tt hok).mono ?_; rintro e w5 ⟨rfl, t5, c5, s5⟩; clear s5)
            go_roundw
            case rel => exact ⟨k + 1, by omega, by go_num, by rw [HB1.out]; exact ts.chg c5 (by omega) (by omega), by rw [HB2.out, grants_snoc]; exact t5, hc.trans' c5 (fun i hi => .inr (by omega))⟩
            case measure => simp [intOf]; omega
        · have HB1 := hideIt (sel_same (vs := vs) (bs := bs) (k := k) true (by rw [HLY.out]; omega))
          have HB2 := hideIt (sel_same (vs := vs) (bs := bs) (k := k) false (by rw [HLY.out]; omega))
          go_wp2
          go_roundw
          case rel => exact ⟨k + 1, by omega, by go_num, by rw [HB1.out]; exact ts, by rw [HB2.out]; exact tt, hc⟩
          case measure => simp [intOf]; omega
      · obtain rfl : k = n := by omega
        obtain ⟨y1, HY1⟩ : ∃ y1, Hid (yes (grants (fresh vs) (sel true vs bs k)) = y1) := ⟨_, hideIt rfl⟩
        obtain ⟨y2, HY2⟩ : ∃ y2, Hid (yes (grants (fresh vs) (sel false vs bs k)) = y2) := ⟨_, hideIt rfl⟩
        have hsum : y1 + y2 = min k m := by
          have h3 := HY1.out
          have h4 := HY2.out
          rw [yes_grants, cnt_sub (right_nodup HR.out) (sel_sub _ _ _ _)] at h3 h4
          have h5 := sel_len vs bs
          rw [HLV.out, HLY.out] at h5
          omega
        have W1 := won_calls p q _ wr ts
        have C1 := fun nq => count_calls p q _ (wr.drewN nq) (ts.drewN nq)
        have W2 := fun nq => won_calls p' q' _ (wr.drewN nq) (tt.drewN nq)
        have C2 := fun nq => count_calls p' q' _ (wr.drewN nq) (tt.drewN nq)
        have e1 : wonB (grants (fresh vs) (sel true vs bs k)) = decide (k < 2 * y1) := by rw [wonB_grants, ← yes_grants, HY1.out, HLV.out]
        have e2 : wonB (grants (fresh vs) (sel false vs bs k)) = decide (k < 2 * y2) := by rw [wonB_grants, ← yes_grants, HY2.out, HLV.out]
        rw [e1] at W1
        rw [e2] at W2
        rw [HY1.out] at C1
        rw [HY2.out] at C2
        have HW1 := hideIt W1
        have HW2 := hideIt W2
        have HC1 := hideIt C1
        have HC2 := hideIt C2
        clear e1 e2 W1 W2 C1 C2
        by_cases k1 : k < 2 * y1
        · rw [show decide (k < 2 * y1) = true from by simpa using k1] at HW1
          have k2 : ¬ k < 2 * y2 := by omega
          rw [show decide (k < 2 * y2) = false from by simpa using k2] at HW2
          by_cases hmin : k ≤ m
          · have hs : ((y1 : Int) + (y2 : Int) == (k : Int)) = true := by simp only [beq_iff_eq]; omega
            have hb1 : y1 ≤ 100 := by omega
            have hb2 : y2 ≤ 100 := by omega
            clear hsum
            go_wp2_with fail
            refine HW1.out.mono ?_
            rintro e w5 ⟨rfl, n5, rfl⟩
            go_wp2_with fail
            refine (HW2.out n5).mono ?_
            rintro e w6 ⟨rfl, n6, rfl⟩
            go_wp2_with fail
            refine (HC1.out (n5 + n6)).mono ?_
            rintro e w7 ⟨rfl, rfl⟩
            go_wp2_with fail
            refine (HC2.out (n5 + n6)).mono ?_
            rintro e w8 ⟨rfl, rfl⟩
            go_wp2
            go_ret
            exact ⟨rfl, (hc.drewN _).none_below⟩
          · have hs : ((y1 : Int) + (y2 : Int) == (m : Int)) = true := by simp only [beq_iff_eq]; omega
            have hb1 : y1 ≤ 100 := by omega
            have hb2 : y2 ≤ 100 := by omega
            clear hsum
            go_wp2_with fail
            refine HW1.out.mono ?_
            rintro e w5 ⟨rfl, n5, rfl⟩
            go_wp2_with fail
            refine (HW2.out n5).mono ?_
            rintro e w6 ⟨rfl, n6, rfl⟩
            go_wp2_with fail
            refine (HC1.out (n5 + n6)).mono ?_
            rintro e w7 ⟨rfl, rfl⟩
            go_wp2_with fail
            refine (HC2.out (n5 + n6)).mono ?_
            rintro e w8 ⟨rfl, rfl⟩
            go_wp2
            go_ret
            exact ⟨rfl, (hc.drewN _).none_below⟩
        · rw [show decide (k < 2 * y1) = false from by simpa using k1] at HW1
          by_cases hmin : k ≤ m
          · have hs : ((y1 : Int) + (y2 : Int) == (k : Int)) = true := by simp only [beq_iff_eq]; omega
            have hb1 : y1 ≤ 100 := by omega
            have hb2 : y2 ≤ 100 := by omega
            clear hsum
            go_wp2_with fail
            refine HW1.out.mono ?_
            rintro e w5 ⟨rfl, n5, rfl⟩
            go_wp2_with fail
            refine (HC1.out n5).mono ?_
            rintro e w7 ⟨rfl, rfl⟩
            go_wp2_with fail
            refine (HC2.out n5).mono ?_
            rintro e w8 ⟨rfl, rfl⟩
            go_wp2
            go_ret
            exact ⟨rfl, (hc.drewN _).none_below⟩
          · have hs : ((y1 : Int) + (y2 : Int) == (m : Int)) = true := by simp only [beq_iff_eq]; omega
            have hb1 : y1 ≤ 100 := by omega
            have hb2 : y2 ≤ 100 := by omega
            clear hsum
            go_wp2_with fail
            refine HW1.out.mono ?_
            rintro e w5 ⟨rfl, n5, rfl⟩
            go_wp2_with fail
            refine (HC1.out n5).mono ?_
            rintro e w7 ⟨rfl, rfl⟩
            go_wp2_with fail
            refine (HC2.out n5).mono ?_
            rintro e w8 ⟨rfl, rfl⟩
            go_wp2
            go_ret
            exact ⟨rfl, (hc.drewN _).none_below⟩
end Go.Proofs.Ytgmekeeemimnpaa
