/- QuorumTallies, walked: every tally counts each voter once, and nobody else. (Printed by wip/gen/qtallies.py.) -/
import Derived.Test.YtgmekeeemimnpaaQTold
import Derived.Test.YtgmekeeemimnpaaQGrows
import Derived.Test.YtgmekeeemimnpaaIter
namespace Go.Proofs.Ytgmekeeemimnpaa
open Go Go.Maps Go.MapKept Go.RowKit

/-- Who has granted so far, in the order in which they did. -/
def gots (vs gs : List Int) : List Int := gs.foldl (fun g x => if x ∈ vs ∧ x ∉ g then g ++ [x] else g) []
theorem gots_snoc (vs gs : List Int) (x : Int) : gots vs (gs ++ [x]) = if x ∈ vs ∧ x ∉ gots vs gs then gots vs gs ++ [x] else gots vs gs := by
  unfold gots
  rw [List.foldl_append]
  rfl
theorem gots_mem (vs gs : List Int) : (∀ x, x ∈ gots vs gs ↔ x ∈ vs ∧ x ∈ gs) ∧ (gots vs gs).Nodup := by
  have key : ∀ (gs' g0 : List Int), g0.Nodup → (∀ x, x ∈ gs'.foldl (fun g x => if x ∈ vs ∧ x ∉ g then g ++ [x] else g) g0 ↔ x ∈ g0 ∨ (x ∈ vs ∧ x ∈ gs')) ∧ (gs'.foldl (fun g x => if x ∈ vs ∧ x ∉ g then g ++ [x] else g) g0).Nodup := by
    intro gs'
    induction gs' with
    | nil => intro g0 h; exact ⟨by simp, h⟩
    | cons y r ih =>
      intro g0 h
      rw [List.foldl_cons]
      by_cases hy : y ∈ vs ∧ y ∉ g0
      · rw [if_pos hy]
        have hn : (g0 ++ [y]).Nodup := by
          rw [List.nodup_append]
          exact ⟨h, by simp, fun a ha b hb => by simp at hb; subst hb; exact fun e => hy.2 (e ▸ ha)⟩
        obtain ⟨i1, i2⟩ := ih _ hn
        refine ⟨fun x => ?_, i2⟩
        rw [i1, List.mem_append, List.mem_singleton, List.mem_cons]
        constructor
        · rintro ((h1 | rfl) | h1)
          · exact .inl h1
          · exact .inr ⟨hy.1, .inl rfl⟩
          · exact .inr ⟨h1.1, .inr h1.2⟩
        · rintro (h1 | ⟨h1, rfl | h2⟩)
          · exact .inl (.inl h1)
          · exact .inl (.inr rfl)
          · exact .inr ⟨h1, h2⟩
      · rw [if_neg hy]
        obtain ⟨i1, i2⟩ := ih _ h
        refine ⟨fun x => ?_, i2⟩
        rw [i1, List.mem_cons]
        constructor
        · rintro (h1 | h1)
          · exact .inl h1
          · exact .inr ⟨h1.1, .inr h1.2⟩
        · rintro (h1 | ⟨h1, rfl | h2⟩)
          · exact .inl h1
          · by_cases h3 : x ∈ g0
            · exact .inl h3
            · exact absurd ⟨h1, h3⟩ hy
          · exact .inr ⟨h1, h2⟩
  obtain ⟨h1, h2⟩ := key gs [] (by simp)
  exact ⟨fun x => (h1 x).trans (by simp), h2⟩
theorem gots_cnt {vs : List Int} (hn : vs.Nodup) (gs : List Int) : cnt vs gs = (gots vs gs).length := by
  obtain ⟨h1, h2⟩ := gots_mem vs gs
  unfold cnt
  refine ((List.perm_ext_iff_of_nodup (hn.filter _) h2).2 fun x => ?_).length_eq
  rw [List.mem_filter, h1]
  simp
section
variable {vs gs : List Int} {x : Int}
theorem tal_grant : grantB (grants (fresh vs) gs) x = decide (x ∈ vs ∧ x ∉ gots vs gs) := by
  unfold grantB
  rw [grants_fresh, aget_map]
  have h3 := (gots_mem vs gs).1 x
  by_cases h1 : x ∈ vs <;> by_cases h2 : x ∈ gs <;> simp [h1, h2, h3]
theorem tal_yes (hn : vs.Nodup) : yes (grants (fresh vs) gs) = (gots vs gs).length := by rw [yes_grants, gots_cnt hn]
theorem tal_won (hn : vs.Nodup) : wonB (grants (fresh vs) gs) = decide (vs.length < 2 * (gots vs gs).length) := by rw [wonB_grants, gots_cnt hn]
theorem tal_maj (hr : rightB vs = true) : majB vs gs = decide (vs.length < 2 * (gots vs gs).length) := by rw [majB_eq, hr, gots_cnt (right_nodup hr)]; rfl
theorem tal_snoc : grants (fresh vs) (gs ++ [x]) = grantL (grants (fresh vs) gs) x := by simp [grants]
theorem tal_ids : (grants (fresh vs) gs).map (·.1) = vs := by rw [grants_fresh, List.map_map]; simp [Function.comp_def]
theorem tal_granted : ∀ y, y ∈ grantedL (grants (fresh vs) gs) ↔ y ∈ gots vs gs := by
  intro y
  unfold grantedL notYes
  rw [tal_ids, List.mem_filter, mem_sortI, grants_fresh, aget_map, (gots_mem vs gs).1]
  by_cases h1 : y ∈ vs <;> simp [h1]
theorem tal_glen (hn : vs.Nodup) : (grantedL (grants (fresh vs) gs)).length = (gots vs gs).length := by
  refine ((List.perm_ext_iff_of_nodup ?_ (gots_mem vs gs).2).2 tal_granted).length_eq
  unfold grantedL
  rw [tal_ids]
  exact ((sortI_perm vs).nodup_iff.2 hn).filter _
end
theorem own_ne_blk {w : World} {base e g g' : Nat} {t : TypeId} {cs : Array Value} {v : Value} {xs : List Int} (h : OwnI w base e v xs) (hg : v.ownBlock = some g) (hb : Blk w g' t cs) (hne : e ≠ t) : g ≠ g' := by
  rcases h.2 with ⟨rfl, _⟩ | ⟨g0, cap, cur, rfl, _, hh, _⟩
  · cases hg
  · cases hg
    rintro rfl
    unfold Blk at hb
    rw [hh] at hb
    cases hb
    exact hne rfl
theorem own_ne_map {κ α : Type} {ek : κ → Value} {ev : α → Value} {good : κ → Prop} {w : World} {base e g g' : Nat} {v : Value} {xs : List Int} {L : List (κ × α)} (h : OwnI w base e v xs) (hg : v.ownBlock = some g) (hb : MapIs ek ev good w g' L) : g ≠ g' := by
  rcases h.2 with ⟨rfl, _⟩ | ⟨g0, cap, cur, rfl, _, hh, _⟩
  · cases hg
  · cases hg
    rintro rfl
    obtain ⟨es, clock, hb, _⟩ := hb
    rw [hh] at hb
    cases hb

set_option maxRecDepth 100000 in
set_option maxHeartbeats 16000000 in
theorem tallies_calls {A B : Option Addr} {n q c d : Nat} {vs gs : List Int} (w : World) (hv : Ints w A n vs ∧ n ≤ c ∧ c ≤ maxLen) (hy : Ints w B q gs ∧ q ≤ d ∧ d ≤ maxLen) :
    Calls Try.prog 20 #[.slice A n c, .slice B q d] w fun e w' => e = .returned (.bool true) ∧ Below w.heap.size w w' := by
  have HA := hideIt (anchor04 w)
  obtain ⟨hv, hnc, hcm⟩ := hv
  obtain ⟨hy, hqd, hdm⟩ := hy
  unfold maxLen at hcm hdm
  have HLV := hideIt hv.len
  have HLY := hideIt hy.len
  by_cases q0 : 100 < n
  · go_enter Try.func20, Try.ntmps20
    go_wp2_with (go_at_call 31; refine HA.out.mono ?_; rintro e w1 ⟨rfl, c1⟩)
    go_ret
    exact ⟨rfl, c1.none_below⟩
  by_cases q1 : 200 < q
  · go_enter Try.func20, Try.ntmps20
    go_wp2_with (go_at_call 31; refine HA.out.mono ?_; rintro e w1 ⟨rfl, c1⟩)
    go_ret
    exact ⟨rfl, c1.none_below⟩
  have HR := hideIt (fun W (hc : Chg (fun _ => False) w W) => right_calls A n c vs W (hv.new hc) (by omega))
  have HR4 := hideIt (fun W (hc : Chg (fun _ => False) w W) => right04_calls A n c vs W (hv.new hc) hnc)
  have HM := hideIt (fun W (hc : Chg (fun _ => False) w W) => maj_calls A B n q c d vs gs W (hv.new hc) (hy.new hc) (by omega) (by omega))
  have HV := hideIt hv
  have HY := hideIt hy
  cases hr : rightB vs with
  | false =>
    have HN := hideIt (fun W (hc : Chg (fun _ => False) w W) => new_no A n c vs W (hv.new hc) (by omega) hr)
    have hmf : majB vs gs = false := by unfold majB; rw [hr]; rfl
    rw [hr] at HR HR4
    rw [hmf] at HM
    have tok : True := trivial
    clear hr hmf hv hy
    go_enter Try.func20, Try.ntmps20
    go_wp2_with (first
      | (go_at_call 31; refine HA.out.mono ?_; rintro e w1 ⟨rfl, c1⟩)
      | (go_at_call 33; refine (HN.out w1 c1).mono ?_; rintro e w2 ⟨rfl, k2⟩; have c2 := c1.trans k2; clear k2)
      | (go_at_call 41; refine (HR.out w2 c2).mono ?_; rintro e w3 ⟨rfl, k3⟩; have c3 := c2.trans k3; clear k3)
      | (go_at_call 39; refine (HR4.out w3 c3).mono ?_; rintro e w4 ⟨rfl, rfl⟩)
      | (go_at_call 37; refine (HM.out w3 c3).mono ?_; rintro e w5 ⟨rfl, k5⟩))
    go_ret
    exact ⟨rfl, (c3.trans k5).none_below⟩
  | true =>
    have HN := hideIt (fun W (hc : Chg (fun _ => False) w W) => new_yes A n c vs W (hv.new hc) hr)
    have hnd := right_nodup hr
    have hmj := tal_maj (gs := gs) hr
    have hl16 := right_len hr
    have hn16 : n ≤ 16 := by rw [← hv.len]; exact hl16
    obtain ⟨i0, hi, hz0, hz1, hz2⟩ := info_parts infoInt
    have HI := hideIt hi
    have HND := hideIt hnd
    have HMJ := hideIt hmj
    rw [hr] at HR HR4
    clear hr hmj hnd hi hv hy hl16
    go_enter Try.func20, Try.ntmps20
    go_wp2_with fail
    refine HA.out.mono ?_
    rintro e w1 ⟨rfl, c1⟩
    go_wp2_with fail
    refine (HN.out w1 c1).mono ?_
    rintro e w2 ⟨p, m, rfl, hp, hm, t2, k2⟩
    have hp' : w.heap.size ≤ p := Nat.le_trans c1.size hp
    have hm' : w.heap.size ≤ m := Nat.le_trans c1.size hm
    have c2 := c1.trans k2
    clear hp hm k2
    go_wp2_with fail
    refine (HR.out w2 c2).mono ?_
    rintro e w3 ⟨rfl, k3⟩
    have c3 := c2.trans k3
    have t3 := t2.chg k3 (fun h => h) (fun h => h)
    clear k3 t2
    go_wp2_with (go_at_call 39; refine (HR4.out w3 c3).mono ?_; rintro e w4 ⟨rfl, rfl⟩)
    go_loopw [7, 54] (fun v i wr => ∃ k : Nat, k ≤ q ∧ i = .int .i64 k ∧ OwnI wr w.heap.size 3 v (gots vs (gs.take k)) ∧ TallyAt wr p m (grants (fresh vs) (gs.take k)) ∧ Chg (fun _ => False) w wr) (fun _ i _ => q - (intOf i).toNat)
    case atStart => exact ⟨0, Nat.zero_le _, rfl, OwnI.nil _ _ _, t3, c3⟩
    case round =>
      obtain ⟨k, hk, rfl, ho, ht, hch⟩ := hrel
      obtain ⟨A4, c4, rfl, -⟩ := ho.slice
      obtain ⟨N, hN⟩ : ∃ N, (gots vs (gs.take k)).length = N := ⟨_, rfl⟩
      rw [hN] at ho ⊢
      have hNq : N ≤ k := by
        rw [← hN]
        have h1 := nodup_len (gots_mem vs (gs.take k)).2 (fun x hx => ((gots_mem vs (gs.take k)).1 x).1 hx |>.2)
        have := List.length_take_le k gs
        omega
      have HN2 := hideIt hN
      have okg : ∀ x ∈ gots vs (gs.take k), okI x := fun x hx => HY.out.ok x (List.mem_of_mem_take (((gots_mem vs (gs.take k)).1 x).1 hx).2)
      have HG := hideIt (ho.ints okg rfl)
      have HO := hideIt ho
      have HT := hideIt ht
      have HC := hideIt hch
      clear hN okg ho ht
      by_cases hlt : k < q
      · obtain ⟨b, off, rfl, hbl, hcell⟩ := HY.out.at_ (by omega)
        have hx := (hch.cell (p := ⟨b, off + k, none⟩) hbl (fun h => h)).trans (hcell k hlt)
        have hok : okI (gs.getD k 0) := HY.out.ok _ (getD_mem (by rw [HLY.out]; exact hlt))
        have htk := take_succ_getD gs k (by rw [HLY.out]; exact hlt)
        obtain ⟨x, hX⟩ : ∃ x, gs.getD k 0 = x := ⟨_, rfl⟩
        rw [hX] at hx hok htk
        have e1 := gots_snoc vs (gs.take k) x
        have e2 := tal_snoc (vs := vs) (gs := gs.take k) (x := x)
        have e3 := tal_grant (vs := vs) (gs := gs.take k) (x := x)
        have HHV := hideIt (has_calls A n c vs x wr (HV.out.new hch) (by omega))
        have HHG := hideIt (has_calls A4 N c4 (gots vs (gs.take k)) x wr HG.out (by omega))
        have hgr := grant_calls p m _ x wr HT.out hok
        rw [← e2, ← htk, e3] at hgr
        rw [← htk] at e1
        clear hX hcell hch e2 e3
        by_cases h1 : x ∈ vs
        · by_cases h2 : x ∈ gots vs (gs.take k)
          · have d1 : decide (x ∈ vs) = true := by simpa using h1
            have d2 : decide (x ∈ gots vs (gs.take k)) = true := by simpa using h2
            have d3 : decide (x ∈ vs ∧ x ∉ gots vs (gs.take k)) = false := by simp [h2]
            rw [d1] at HHV
            rw [d2] at HHG
            rw [d3] at hgr
            rw [if_neg (fun h => h.2 h2)] at e1
            have HE1 := hideIt e1
            have HNN : Hid ((gots vs (gs.take (k + 1))).length = N) := hideIt (by rw [e1]; exact HN2.out)
            have hwon := tal_won (gs := gs.take (k + 1)) HND.out
            have hyes := tal_yes (gs := gs.take (k + 1)) HND.out
            rw [HNN.out] at hwon hyes
            rw [HLV.out] at hwon
            have HWON := hideIt hwon
            have HYES := hideIt hyes
            have HGR := hideIt hgr
            clear hwon hyes hgr e1 htk
            by_cases hw : n < 2 * N
            all_goals
              have HW2 := HWON
              first | rw [decide_eq_true hw] at HW2 | rw [decide_eq_false hw] at HW2
              have hd : decide ((n : Int) < 2 * (N : Int)) = decide (n < 2 * N) := by rw [decide_eq_decide]; omega
              first | rw [decide_eq_true hw] at hd | rw [decide_eq_false hw] at hd
              have tok : True := trivial
              go_wp2_with (first
                | (have _t := tok; go_at_call 38; refine HHV.out.mono ?_; rintro e w5 ⟨rfl, rfl⟩; clear tok _t)
                | (go_at_call 38; refine HHG.out.mono ?_; rintro e w5 ⟨rfl, rfl⟩)
                | (go_at_call 34; refine HGR.out.mono ?_; rintro e w5 ⟨rfl, t5, k5, s5⟩; have T5 := hideIt t5; have O5 := hideIt (HO.out.chg k5 (fun g hg e => e.elim (own_ne_blk HO.out hg HT.out.blk (by decide)) (own_ne_map HO.out hg HT.out.map))); have C5 := hideIt (HC.out.trans' k5 (fun i hi => .inr (by rcases hi with rfl | rfl <;> omega))); clear t5 k5 s5)
                | (go_at_call 36; have hcc := count_calls p m _ w5 T5.out; rw [HYES.out] at hcc; refine hcc.mono ?_; rintro e w7 ⟨rfl, rfl⟩; clear hcc)
                | (go_at_call 35; refine (won_as p m _ w5 T5.out _ HW2.out).mono ?_; rintro e w8 ⟨rfl, n8, rfl⟩))
              exact ⟨⟨k + 1, by omega, by go_num, (by rw [HE1.out]; exact O5.out.new ((Chg.refl _ _).drewN _)), T5.out.drewN _, C5.out.drewN _⟩, by simp [intOf]; omega⟩
          · have d1 : decide (x ∈ vs) = true := by simpa using h1
            have d2 : decide (x ∈ gots vs (gs.take k)) = false := by simpa using h2
            have d3 : decide (x ∈ vs ∧ x ∉ gots vs (gs.take k)) = true := by simp [h1, h2]
            rw [d1] at HHV
            rw [d2] at HHG
            rw [d3] at hgr
            rw [if_pos ⟨h1, h2⟩] at e1
            have HE1 := hideIt e1
            have HNN : Hid ((gots vs (gs.take (k + 1))).length = (N + 1)) := hideIt (by rw [e1]; rw [List.length_append, HN2.out]; rfl)
            have hwon := tal_won (gs := gs.take (k + 1)) HND.out
            have hyes := tal_yes (gs := gs.take (k + 1)) HND.out
            rw [HNN.out] at hwon hyes
            rw [HLV.out] at hwon
            have HWON := hideIt hwon
            have HYES := hideIt hyes
            have HGR := hideIt hgr
            clear hwon hyes hgr e1 htk
            by_cases hw : n < 2 * (N + 1)
            all_goals
              have HW2 := HWON
              first | rw [decide_eq_true hw] at HW2 | rw [decide_eq_false hw] at HW2
              have hd : decide ((n : Int) < 2 * ((N : Int) + 1)) = decide (n < 2 * (N + 1)) := by rw [decide_eq_decide]; omega
              first | rw [decide_eq_true hw] at hd | rw [decide_eq_false hw] at hd
              have tok : True := trivial
              go_wp2_with (first
                | (have _t := tok; go_at_call 38; refine HHV.out.mono ?_; rintro e w5 ⟨rfl, rfl⟩; clear tok _t)
                | (go_at_call 38; refine HHG.out.mono ?_; rintro e w5 ⟨rfl, rfl⟩)
                | (go_at_call 34; refine HGR.out.mono ?_; rintro e w5 ⟨rfl, t5, k5, s5⟩; have T5 := hideIt t5; have O5 := hideIt (HO.out.chg k5 (fun g hg e => e.elim (own_ne_blk HO.out hg HT.out.blk (by decide)) (own_ne_map HO.out hg HT.out.map))); have C5 := hideIt (HC.out.trans' k5 (fun i hi => .inr (by rcases hi with rfl | rfl <;> omega))); clear t5 k5 s5)
                | (at_builtin; refine wpList_append_ints _ rfl _ _ 25 rfl i0 _ Try.underlying25 HI.out hz0 hz1 hz2 rfl rfl (O5.out.alloc _) rfl (Ints.one w5 3 x hok) (by rw [HN2.out]; omega) (by have := C5.out.size; simp; omega) ?_; intro v6 w6 o6 g6 q6; have C6 := hideIt ((C5.out.alloc _).grown g6 (fun i e => .inr (O5.out.base_le e))); have T6 := hideIt ((T5.out.chg ((Chg.refl (fun _ => False) w5).alloc _) (fun h => h) (fun h => h)).chg (Chg.of_grown g6) (fun e => own_ne_blk O5.out e T5.out.blk (by decide) rfl) (fun e => own_ne_map O5.out e T5.out.map rfl)); rw [← HE1.out] at o6; obtain ⟨A6, c6, hv6, -⟩ := o6.slice; rw [HNN.out] at hv6; subst hv6; have O6 := hideIt o6; clear o6 g6 q6)
                | (go_at_call 36; have hcc := count_calls p m _ w6 T6.out; rw [HYES.out] at hcc; refine hcc.mono ?_; rintro e w7 ⟨rfl, rfl⟩; clear hcc)
                | (go_at_call 35; refine (won_as p m _ w6 T6.out _ HW2.out).mono ?_; rintro e w8 ⟨rfl, n8, rfl⟩))
              exact ⟨⟨k + 1, by omega, by go_num, O6.out.new ((Chg.refl _ _).drewN _), T6.out.drewN _, C6.out.drewN _⟩, by simp [intOf]; omega⟩
        · have d1 : decide (x ∈ vs) = false := by simpa using h1
          have d3 : decide (x ∈ vs ∧ x ∉ gots vs (gs.take k)) = false := by simp [h1]
          rw [d1] at HHV
          rw [d3] at hgr
          rw [if_neg (fun h => h1 h.1)] at e1
          have HE1 := hideIt e1
          have HNN : Hid ((gots vs (gs.take (k + 1))).length = N) := hideIt (by rw [e1]; exact HN2.out)
          have hwon := tal_won (gs := gs.take (k + 1)) HND.out
          have hyes := tal_yes (gs := gs.take (k + 1)) HND.out
          rw [HNN.out] at hwon hyes
          rw [HLV.out] at hwon
          have HWON := hideIt hwon
          have HYES := hideIt hyes
          have HGR := hideIt hgr
          clear hwon hyes hgr e1 htk
          by_cases hw : n < 2 * N
          all_goals
            have HW2 := HWON
            first | rw [decide_eq_true hw] at HW2 | rw [decide_eq_false hw] at HW2
            have hd : decide ((n : Int) < 2 * (N : Int)) = decide (n < 2 * N) := by rw [decide_eq_decide]; omega
            first | rw [decide_eq_true hw] at hd | rw [decide_eq_false hw] at hd
            have tok : True := trivial
            go_wp2_with (first
              | (have _t := tok; go_at_call 38; refine HHV.out.mono ?_; rintro e w5 ⟨rfl, rfl⟩; clear tok _t)
              | (go_at_call 38; refine HHG.out.mono ?_; rintro e w5 ⟨rfl, rfl⟩)
              | (go_at_call 34; refine HGR.out.mono ?_; rintro e w5 ⟨rfl, t5, k5, s5⟩; have T5 := hideIt t5; have O5 := hideIt (HO.out.chg k5 (fun g hg e => e.elim (own_ne_blk HO.out hg HT.out.blk (by decide)) (own_ne_map HO.out hg HT.out.map))); have C5 := hideIt (HC.out.trans' k5 (fun i hi => .inr (by rcases hi with rfl | rfl <;> omega))); clear t5 k5 s5)
              | (go_at_call 36; have hcc := count_calls p m _ w5 T5.out; rw [HYES.out] at hcc; refine hcc.mono ?_; rintro e w7 ⟨rfl, rfl⟩; clear hcc)
              | (go_at_call 35; refine (won_as p m _ w5 T5.out _ HW2.out).mono ?_; rintro e w8 ⟨rfl, n8, rfl⟩))
            exact ⟨⟨k + 1, by omega, by go_num, (by rw [HE1.out]; exact O5.out.new ((Chg.refl _ _).drewN _)), T5.out.drewN _, C5.out.drewN _⟩, by simp [intOf]; omega⟩
      · obtain rfl : k = q := by omega
        have htk : gs.take k = gs := by rw [← HLY.out, List.take_length]
        rw [htk] at HG HT HN2
        have hmj := HM.out wr hch
        rw [HMJ.out, HN2.out, HLV.out] at hmj
        have hgl := tal_glen (gs := gs) HND.out
        rw [HN2.out] at hgl
        have hids : (sortI ((grants (fresh vs) gs).map (·.1))).length = n := by rw [tal_ids, sortI_len, HLV.out]
        have HTOLD := hideIt (fun W (hc : Chg (fun _ => False) wr W) => told_calls (c := c) (d := c4) W (HT.out.chg hc (fun h => h) (fun h => h)) ((HV.out.new hch).new hc) (HG.out.new hc) (by omega) (by omega) hids hgl (fun y hy => by rw [tal_ids, mem_sortI] at hy; exact hy) (fun y hy => (tal_granted y).1 hy))
        clear htk hgl hids
        by_cases hw : n < 2 * N
        · rw [decide_eq_true hw] at hmj
          have hd : decide ((n : Int) < 2 * (N : Int)) = true := by simp; omega
          have HMM := hideIt hmj
          clear hmj
          go_wp2_with (first
            | (go_at_call 37; refine HMM.out.mono ?_; rintro e w5 ⟨rfl, k5⟩)
            | (go_at_call 68; refine (HTOLD.out w5 k5).mono ?_; rintro e w6 ⟨rfl, k6⟩))
          go_ret
          exact ⟨rfl, ((HC.out.trans k5).trans k6).none_below⟩
        · rw [decide_eq_false hw] at hmj
          have hd : decide ((n : Int) < 2 * (N : Int)) = false := by simp; omega
          have HMM := hideIt hmj
          clear hmj
          go_wp2_with (first
            | (go_at_call 37; refine HMM.out.mono ?_; rintro e w5 ⟨rfl, k5⟩)
            | (go_at_call 68; refine (HTOLD.out w5 k5).mono ?_; rintro e w6 ⟨rfl, k6⟩))
          go_ret
          exact ⟨rfl, ((HC.out.trans k5).trans k6).none_below⟩
end Go.Proofs.Ytgmekeeemimnpaa
