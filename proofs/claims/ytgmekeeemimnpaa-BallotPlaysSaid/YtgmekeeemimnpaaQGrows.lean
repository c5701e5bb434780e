/- QuorumGrows, walked: more who say yes never take a majority away; all are one, where there is a voter; none are none. -/
import Derived.Test.YtgmekeeemimnpaaQ6
import Derived.Test.YtgmekeeemimnpaaApp
namespace Go.Proofs.Ytgmekeeemimnpaa
open Go Go.Maps Go.MapKept Go.RowKit

theorem infoInt : (Try.prog.info? 3).map (fun i => (i.zero, i.size, i.bytes)) = some (some (.int .i64 0), 1, 8) := by kernel_rfl

theorem majB_self (vs : List Int) : majB vs vs = (rightB vs && decide (0 < vs.length)) := by
  rw [majB_eq, cnt_self]
  congr 1
  rw [decide_eq_decide]
  omega
theorem majB_none (vs : List Int) : majB vs [] = false := by
  rw [majB_eq, cnt_nil]
  simp
theorem majB_app {vs ys zs : List Int} (h : majB vs ys = true) : majB vs (ys ++ zs) = true := by
  rw [majB_iff] at h ⊢
  have := cnt_mono (vs := vs) (ys := ys) (zs := ys ++ zs) (fun x hx => List.mem_append_left _ hx)
  exact ⟨h.1, by omega⟩
theorem maj_as (A B : Option Addr) (n m c d : Nat) (vs ys : List Int) (w : World) (h : Ints w A n vs) (hy : Ints w B m ys) (hn : n ≤ 17592186043904) (hm : m ≤ 17592186043904) (b : Bool) (hb : majB vs ys = b) : Calls Try.prog 37 #[.slice A n c, .slice B m d] w fun e w' =>
    e = .returned (.bool b) ∧ Chg (fun _ => False) w w' := by
  subst hb
  exact maj_calls A B n m c d vs ys w h hy hn hm

set_option maxRecDepth 100000 in
set_option maxHeartbeats 4000000 in
theorem grows_calls {A B C : Option Addr} {n m l c d e : Nat} {vs ys zs : List Int} (w : World) (hv : Ints w A n vs ∧ n ≤ c ∧ c ≤ maxLen) (hy : Ints w B m ys ∧ m ≤ d ∧ d ≤ maxLen) (hz : Ints w C l zs ∧ l ≤ e ∧ e ≤ maxLen) :
    Calls Try.prog 6 #[.slice A n c, .slice B m d, .slice C l e] w fun r w' => r = .returned (.bool true) ∧ Below w.heap.size w w' := by
  have HA := hideIt (anchor04 w)
  obtain ⟨i0, hi, hz0, hz1, hz2⟩ := info_parts infoInt
  obtain ⟨hv, hnc, hcm⟩ := hv
  obtain ⟨hy, hmd, hdm⟩ := hy
  obtain ⟨hz, hle, hem⟩ := hz
  have hlv := hv.len
  have hly := hy.len
  have hlz := hz.len
  unfold maxLen at hcm hdm hem
  by_cases h1 : 30 < n
  · go_enter Try.func6, Try.ntmps6
    go_wp2_with (go_at_call 31; refine HA.out.mono ?_; rintro r w1 ⟨rfl, c1⟩)
    go_ret
    exact ⟨rfl, c1.none_below⟩
  by_cases h2 : 60 < m
  · go_enter Try.func6, Try.ntmps6
    go_wp2_with (go_at_call 31; refine HA.out.mono ?_; rintro r w1 ⟨rfl, c1⟩)
    go_ret
    exact ⟨rfl, c1.none_below⟩
  by_cases h3 : 60 < l
  · go_enter Try.func6, Try.ntmps6
    go_wp2_with (go_at_call 31; refine HA.out.mono ?_; rintro r w1 ⟨rfl, c1⟩)
    go_ret
    exact ⟨rfl, c1.none_below⟩
  have HR := hideIt (fun W (hW : Chg (fun _ => False) w W) => right04_calls A n c vs W (hv.new hW) hnc)
  have HN := hideIt (fun W (hW : Chg (fun _ => False) w W) => maj_as A none n 0 c 0 vs [] W (hv.new hW) (Ints.nil W) (by omega) (by omega) false (majB_none vs))
  have HV := hideIt (fun W (hW : Chg (fun _ => False) w W) => maj_as A A n n c c vs vs W (hv.new hW) (hv.new hW) (by omega) (by omega) _ (majB_self vs))
  have HY := hideIt (fun W (hW : Chg (fun _ => False) w W) => maj_as A B n m c d vs ys W (hv.new hW) (hy.new hW) (by omega) (by omega) _ rfl)
  have HE0 : Hid (majB vs ys = true → majB vs (ys ++ zs) = true) := hideIt majB_app
  have HL : Hid (majB vs ys = true → rightB vs = true ∧ 0 < vs.length) := hideIt (fun h => by
    rw [majB_iff] at h
    have := List.length_filter_le (fun x => decide (x ∈ ys)) vs
    unfold cnt at h
    exact ⟨h.1, by omega⟩)
  have hb1 : ([] : List Int).length + m ≤ 17592186043904 := by simp; omega
  have hb2 : ([] ++ ys).length + l ≤ 17592186043904 := by simp; omega
  obtain ⟨N, hNN, hN1⟩ : ∃ N, Hid (([] ++ ys ++ zs).length = N) ∧ N ≤ 120 := ⟨_, hideIt rfl, by simp; omega⟩
  have hok : ∀ x ∈ [] ++ ys ++ zs, okI x := by
    intro x hx
    simp only [List.nil_append, List.mem_append] at hx
    rcases hx with hx | hx
    · exact hy.ok x hx
    · exact hz.ok x hx
  clear hlv hly hlz
  cases hr : rightB vs with
  | false =>
    have he : majB vs ys = false := by
      cases h : majB vs ys with
      | false => rfl
      | true => have := (HL.out h).1; rw [hr] at this; cases this
    rw [hr] at HR HV
    rw [he] at HY
    simp only [Bool.false_and] at HV
    clear hr he
    have tok1 : True := trivial
    go_enter Try.func6, Try.ntmps6
    go_wp2_with fail
    refine HA.out.mono ?_
    rintro r w1 ⟨rfl, c1⟩
    have hs1 : w.heap.size ≤ (w1.alloc (.cells #[] 3)).heap.size := by have := c1.size; simp; omega
    go_wp2_with (first
      | (at_builtin; have _t := tok1; refine wpList_append_ints _ rfl _ _ 25 rfl i0 _ Try.underlying25 hi hz0 hz1 hz2 rfl rfl (OwnI.empty w1 w.heap.size 3 c1.size) rfl ((hy.new c1).alloc _) hb1 hs1 ?_; intro v2 w2 o2 g2 l2; clear tok1; have c2 : Chg (fun _ => False) w w2 := (c1.alloc _).grown g2 (fun i e => .inr (by cases e; exact c1.size)))
      | (at_builtin; refine wpList_append_ints _ rfl _ _ 25 rfl i0 _ Try.underlying25 hi hz0 hz1 hz2 rfl rfl o2 rfl (hz.new c2) hb2 c2.size ?_; intro v3 w3 o3 g3 l3; have c3 : Chg (fun _ => False) w w3 := c2.grown g3 (fun i e => .inr (o2.base_le e)); obtain ⟨A3, k3, hv3, hk3, hm3, _⟩ := o3.slice; have i3 : Ints w3 A3 ([] ++ ys ++ zs).length ([] ++ ys ++ zs) := o3.ints hok hv3; rw [hNN.out] at hv3 i3; rw [hv3]; clear hv3 o3 g3 l3 o2 g2 l2 hk3))
    go_wp2_with fail
    refine (HY.out w3 c3).mono ?_
    rintro r w4 ⟨rfl, c4⟩
    have c5 := c3.trans c4
    have c7 := c5
    go_wp2_with fail
    refine (HV.out _ c7).mono ?_
    rintro r w6 ⟨rfl, c8⟩
    have c9 := c7.trans c8
    go_wp2_with fail
    refine (HR.out _ c9).mono ?_
    rintro r w7 ⟨rfl, rfl⟩
    go_wp2_with fail
    refine (HN.out _ c9).mono ?_
    rintro r w8 ⟨rfl, c10⟩
    go_wp2_with fail
    go_ret
    exact ⟨rfl, (c9.trans c10).none_below⟩
  | true =>
    by_cases h0 : n = 0
    · have hl0 : vs.length = 0 := by rw [hv.len]; exact h0
      have he : majB vs ys = false := by
        cases h : majB vs ys with
        | false => rfl
        | true => have := (HL.out h).2; omega
      rw [hr] at HR HV
      rw [he] at HY
      rw [hl0] at HV
      simp only [Bool.true_and, Nat.lt_irrefl, decide_false] at HV
      subst h0
      clear hr he hl0
      have tok1 : True := trivial
      go_enter Try.func6, Try.ntmps6
      go_wp2_with fail
      refine HA.out.mono ?_
      rintro r w1 ⟨rfl, c1⟩
      have hs1 : w.heap.size ≤ (w1.alloc (.cells #[] 3)).heap.size := by have := c1.size; simp; omega
      go_wp2_with (first
        | (at_builtin; have _t := tok1; refine wpList_append_ints _ rfl _ _ 25 rfl i0 _ Try.underlying25 hi hz0 hz1 hz2 rfl rfl (OwnI.empty w1 w.heap.size 3 c1.size) rfl ((hy.new c1).alloc _) hb1 hs1 ?_; intro v2 w2 o2 g2 l2; clear tok1; have c2 : Chg (fun _ => False) w w2 := (c1.alloc _).grown g2 (fun i e => .inr (by cases e; exact c1.size)))
        | (at_builtin; refine wpList_append_ints _ rfl _ _ 25 rfl i0 _ Try.underlying25 hi hz0 hz1 hz2 rfl rfl o2 rfl (hz.new c2) hb2 c2.size ?_; intro v3 w3 o3 g3 l3; have c3 : Chg (fun _ => False) w w3 := c2.grown g3 (fun i e => .inr (o2.base_le e)); obtain ⟨A3, k3, hv3, hk3, hm3, _⟩ := o3.slice; have i3 : Ints w3 A3 ([] ++ ys ++ zs).length ([] ++ ys ++ zs) := o3.ints hok hv3; rw [hNN.out] at hv3 i3; rw [hv3]; clear hv3 o3 g3 l3 o2 g2 l2 hk3))
      go_wp2_with fail
      refine (HY.out w3 c3).mono ?_
      rintro r w4 ⟨rfl, c4⟩
      have c5 := c3.trans c4
      have c7 := c5
      go_wp2_with fail
      refine (HV.out _ c7).mono ?_
      rintro r w6 ⟨rfl, c8⟩
      have c9 := c7.trans c8
      go_wp2_with fail
      refine (HR.out _ c9).mono ?_
      rintro r w7 ⟨rfl, rfl⟩
      go_wp2_with fail
      refine (HN.out _ c9).mono ?_
      rintro r w8 ⟨rfl, c10⟩
      go_wp2_with fail
      go_ret
      exact ⟨rfl, (c9.trans c10).none_below⟩
    · have hl0 : decide (0 < vs.length) = true := by simp only [decide_eq_true_eq]; have := hv.len; omega
      have hn0 : 0 < n := by omega
      rw [hr] at HR HV
      rw [hl0] at HV
      simp only [Bool.true_and] at HV
      clear hr hl0 h0
      cases he : majB vs ys with
      | false =>
        rw [he] at HY
        clear he
        have tok1 : True := trivial
        go_enter Try.func6, Try.ntmps6
        go_wp2_with fail
        refine HA.out.mono ?_
        rintro r w1 ⟨rfl, c1⟩
        have hs1 : w.heap.size ≤ (w1.alloc (.cells #[] 3)).heap.size := by have := c1.size; simp; omega
        go_wp2_with (first
          | (at_builtin; have _t := tok1; refine wpList_append_ints _ rfl _ _ 25 rfl i0 _ Try.underlying25 hi hz0 hz1 hz2 rfl rfl (OwnI.empty w1 w.heap.size 3 c1.size) rfl ((hy.new c1).alloc _) hb1 hs1 ?_; intro v2 w2 o2 g2 l2; clear tok1; have c2 : Chg (fun _ => False) w w2 := (c1.alloc _).grown g2 (fun i e => .inr (by cases e; exact c1.size)))
          | (at_builtin; refine wpList_append_ints _ rfl _ _ 25 rfl i0 _ Try.underlying25 hi hz0 hz1 hz2 rfl rfl o2 rfl (hz.new c2) hb2 c2.size ?_; intro v3 w3 o3 g3 l3; have c3 : Chg (fun _ => False) w w3 := c2.grown g3 (fun i e => .inr (o2.base_le e)); obtain ⟨A3, k3, hv3, hk3, hm3, _⟩ := o3.slice; have i3 : Ints w3 A3 ([] ++ ys ++ zs).length ([] ++ ys ++ zs) := o3.ints hok hv3; rw [hNN.out] at hv3 i3; rw [hv3]; clear hv3 o3 g3 l3 o2 g2 l2 hk3))
        go_wp2_with fail
        refine (HY.out w3 c3).mono ?_
        rintro r w4 ⟨rfl, c4⟩
        have c5 := c3.trans c4
        have c7 := c5
        go_wp2_with fail
        refine (HV.out _ c7).mono ?_
        rintro r w6 ⟨rfl, c8⟩
        have c9 := c7.trans c8
        go_wp2_with fail
        refine (HR.out _ c9).mono ?_
        rintro r w7 ⟨rfl, rfl⟩
        go_wp2_with fail
        refine (HN.out _ c9).mono ?_
        rintro r w8 ⟨rfl, c10⟩
        go_wp2_with fail
        go_ret
        exact ⟨rfl, (c9.trans c10).none_below⟩
      | true =>
        have HE : Hid (majB vs ([] ++ ys ++ zs) = true) := hideIt (by rw [List.nil_append]; exact HE0.out he)
        rw [he] at HY
        clear he
        have tok1 : True := trivial
        go_enter Try.func6, Try.ntmps6
        go_wp2_with fail
        refine HA.out.mono ?_
        rintro r w1 ⟨rfl, c1⟩
        have hs1 : w.heap.size ≤ (w1.alloc (.cells #[] 3)).heap.size := by have := c1.size; simp; omega
        go_wp2_with (first
          | (at_builtin; have _t := tok1; refine wpList_append_ints _ rfl _ _ 25 rfl i0 _ Try.underlying25 hi hz0 hz1 hz2 rfl rfl (OwnI.empty w1 w.heap.size 3 c1.size) rfl ((hy.new c1).alloc _) hb1 hs1 ?_; intro v2 w2 o2 g2 l2; clear tok1; have c2 : Chg (fun _ => False) w w2 := (c1.alloc _).grown g2 (fun i e => .inr (by cases e; exact c1.size)))
          | (at_builtin; refine wpList_append_ints _ rfl _ _ 25 rfl i0 _ Try.underlying25 hi hz0 hz1 hz2 rfl rfl o2 rfl (hz.new c2) hb2 c2.size ?_; intro v3 w3 o3 g3 l3; have c3 : Chg (fun _ => False) w w3 := c2.grown g3 (fun i e => .inr (o2.base_le e)); obtain ⟨A3, k3, hv3, hk3, hm3, _⟩ := o3.slice; have i3 : Ints w3 A3 ([] ++ ys ++ zs).length ([] ++ ys ++ zs) := o3.ints hok hv3; rw [hNN.out] at hv3 i3; rw [hv3]; clear hv3 o3 g3 l3 o2 g2 l2 hk3))
        go_wp2_with fail
        refine (HY.out w3 c3).mono ?_
        rintro r w4 ⟨rfl, c4⟩
        have c5 := c3.trans c4
        go_wp2_with fail
        refine (maj_as A A3 n N c k3 vs ([] ++ ys ++ zs) w4 (hv.new c5) (i3.new c4) (by omega) (by omega) true HE.out).mono ?_
        rintro r w5 ⟨rfl, c6⟩
        have c7 := c5.trans c6
        go_wp2_with fail
        refine (HV.out _ c7).mono ?_
        rintro r w6 ⟨rfl, c8⟩
        have c9 := c7.trans c8
        go_wp2_with fail
        refine (HR.out _ c9).mono ?_
        rintro r w7 ⟨rfl, rfl⟩
        go_wp2_with fail
        refine (HN.out _ c9).mono ?_
        rintro r w8 ⟨rfl, c10⟩
        go_wp2_with fail
        go_ret
        exact ⟨rfl, (c9.trans c10).none_below⟩
end Go.Proofs.Ytgmekeeemimnpaa
