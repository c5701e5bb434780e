/- QuorumSplit, walked: of voters who grant to one of any number at most one has a majority. -/
import Derived.Test.YtgmekeeemimnpaaQGrows
import Derived.Test.YtgmekeeemimnpaaQApart
namespace Go.Proofs.Ytgmekeeemimnpaa
open Go Go.Maps Go.MapKept Go.RowKit

/-- Those among the first k voters whose choice is c. -/
def selI (c : Int) (vs cs : List Int) (k : Nat) : List Int := (((vs.zip cs).take k).filter (fun q => q.2 == c)).map (·.1)
theorem selI_same {vs cs : List Int} {k : Nat} (c : Int) (h : cs.length ≤ k) : selI c vs cs (k + 1) = selI c vs cs k := by
  unfold selI
  rw [List.take_of_length_le (by simp; omega), List.take_of_length_le (by simp; omega)]
theorem selI_succ {vs cs : List Int} {k : Nat} (c : Int) (h1 : k < vs.length) (h2 : k < cs.length) : selI c vs cs (k + 1) = if cs.getD k 0 = c then selI c vs cs k ++ [vs.getD k 0] else selI c vs cs k := by
  unfold selI
  rw [List.take_succ_eq_append_getElem (by simp; omega), List.filter_append, List.map_append]
  have e : (vs.zip cs)[k]'(by simp; omega) = (vs.getD k 0, cs.getD k 0) := by
    rw [List.getElem_zip]
    simp [List.getD, h1, h2]
  rw [e]
  generalize cs.getD k 0 = y
  generalize vs.getD k 0 = x
  by_cases hb : y = c
  · subst hb
    simp
  · simp [hb]
theorem selI_mem {c : Int} {vs cs : List Int} {k : Nat} {x : Int} (h : x ∈ selI c vs cs k) : (x, c) ∈ vs.zip cs := by
  unfold selI at h
  obtain ⟨p, hp, rfl⟩ := List.mem_map.1 h
  obtain ⟨h1, h2⟩ := List.mem_filter.1 hp
  have h3 : p.2 = c := by simpa using h2
  obtain ⟨a, b⟩ := p
  simp only at h3
  subst h3
  exact List.mem_of_mem_take h1
theorem selI_sub {c : Int} {vs cs : List Int} {k : Nat} {x : Int} (h : x ∈ selI c vs cs k) : x ∈ vs := (List.of_mem_zip (selI_mem h)).1
theorem zip_one : ∀ {vs cs : List Int} {x a b : Int}, vs.Nodup → (x, a) ∈ vs.zip cs → (x, b) ∈ vs.zip cs → a = b
  | [], _, _, _, _, _, h, _ => by simp at h
  | _ :: _, [], _, _, _, _, h, _ => by simp at h
  | v :: vs, c :: cs, x, a, b, hn, h, k => by
    simp only [List.zip_cons_cons, List.mem_cons, Prod.mk.injEq] at h k
    simp only [List.nodup_cons] at hn
    rcases h with ⟨rfl, rfl⟩ | h
    · rcases k with ⟨_, rfl⟩ | k
      · rfl
      · exact absurd (List.of_mem_zip k).1 hn.1
    · rcases k with ⟨rfl, rfl⟩ | k
      · exact absurd (List.of_mem_zip h).1 hn.1
      · exact zip_one hn.2 h k
theorem split_one {vs cs : List Int} (hn : vs.Nodup) {a b : Int} {k l : Nat} (ha : majB vs (selI a vs cs k) = true) (hb : majB vs (selI b vs cs l) = true) : a = b := by
  obtain ⟨x, _, h1, h2⟩ := meet (majB_iff.1 ha).2 (majB_iff.1 hb).2
  exact zip_one hn (selI_mem h1) (selI_mem h2)

/-- How many have won so far. -/
def WinsAt (vs cs : List Int) (n j : Nat) (W : Int) : Prop := (W = 0 ∧ ∀ i : Nat, i < j → majB vs (selI i vs cs n) = false) ∨ (W = 1 ∧ ∃ i : Nat, i < j ∧ majB vs (selI i vs cs n) = true)
theorem wins_no {vs cs : List Int} {n j : Nat} {W : Int} (h : WinsAt vs cs n j W) (hm : majB vs (selI j vs cs n) = false) : WinsAt vs cs n (j + 1) W := by
  rcases h with ⟨h0, h1⟩ | ⟨h0, i, h1, h2⟩
  · refine .inl ⟨h0, fun i hi => ?_⟩
    by_cases e : i = j
    · rw [e]; exact hm
    · exact h1 i (by omega)
  · exact .inr ⟨h0, i, by omega, h2⟩
theorem wins_yes {vs cs : List Int} {n j : Nat} {W : Int} (hn : vs.Nodup) (h : WinsAt vs cs n j W) (hm : majB vs (selI j vs cs n) = true) : WinsAt vs cs n (j + 1) (W + 1) := by
  rcases h with ⟨h0, h1⟩ | ⟨h0, i, h1, h2⟩
  · exact .inr ⟨by omega, j, by omega, hm⟩
  · have := split_one hn h2 hm
    omega
theorem wins_le {vs cs : List Int} {n j : Nat} {W : Int} (h : WinsAt vs cs n j W) : 0 ≤ W ∧ W ≤ 1 := by
  rcases h with ⟨h0, _⟩ | ⟨h0, _⟩ <;> omega

set_option maxRecDepth 100000 in
set_option maxHeartbeats 4000000 in
theorem split_calls {A B : Option Addr} {n m c d : Nat} {vs cs : List Int} (w : World) (hv : Ints w A n vs ∧ n ≤ c ∧ c ≤ maxLen) (hy : Ints w B m cs ∧ m ≤ d ∧ d ≤ maxLen) :
    Calls Try.prog 7 #[.slice A n c, .slice B m d] w fun r w' => r = .returned (.bool true) ∧ Below w.heap.size w w' := by
  have HA := hideIt (anchor04 w)
  obtain ⟨i0, hi, hz0, hz1, hz2⟩ := info_parts infoInt
  obtain ⟨hv, hnc, hcm⟩ := hv
  obtain ⟨hy, hmd, hdm⟩ := hy
  have hlv := hv.len
  have hly := hy.len
  unfold maxLen at hcm hdm
  have HR0 := hideIt (fun W (hW : Chg (fun _ => False) w W) => right04_calls A n c vs W (hv.new hW) hnc)
  cases hr : rightB vs with
  | false =>
    rw [hr] at HR0
    clear hr
    go_enter Try.func7, Try.ntmps7
    go_wp2_with fail
    refine HA.out.mono ?_
    rintro r w1 ⟨rfl, c1⟩
    go_wp2_with fail
    refine (HR0.out w1 c1).mono ?_
    rintro r w2 ⟨rfl, rfl⟩
    go_wp2
    go_ret
    exact ⟨rfl, c1.none_below⟩
  | true =>
    have hn16 := right_len hr
    rw [hr] at HR0
    have HR := hideIt hr
    clear hr
    by_cases h2 : 60 < m
    · go_enter Try.func7, Try.ntmps7
      go_wp2_with fail
      refine HA.out.mono ?_
      rintro r w1 ⟨rfl, c1⟩
      go_wp2_with fail
      refine (HR0.out w1 c1).mono ?_
      rintro r w2 ⟨rfl, rfl⟩
      go_wp2
      go_ret
      exact ⟨rfl, c1.none_below⟩
    · have HLV := hideIt hlv
      have HLY := hideIt hly
      have hn : n ≤ 16 := by omega
      clear hlv hly hn16
      go_enter Try.func7, Try.ntmps7
      go_wp2_with fail
      refine HA.out.mono ?_
      rintro r w1 ⟨rfl, c1⟩
      go_wp2_with fail
      refine (HR0.out w1 c1).mono ?_
      rintro r w2 ⟨rfl, rfl⟩
      go_wp2
      go_loopw [5, 20] (fun ws i wr => ∃ (j : Nat) (W : Int), j ≤ 16 ∧ i = .int .i64 j ∧ ws = .int .i64 W ∧ WinsAt vs cs n j W ∧ Chg (fun _ => False) w wr) (fun _ i _ => 16 - (intOf i).toNat)
      case atStart => exact ⟨0, 0, Nat.zero_le _, rfl, rfl, .inl ⟨rfl, fun i h => absurd h (by omega)⟩, c1⟩
      case round =>
        obtain ⟨j, W, hj, rfl, rfl, hw, hc⟩ := hrel
        obtain ⟨wo, rfl⟩ : ∃ wo : World, wo = wr := ⟨_, rfl⟩
        have hwl := wins_le hw
        obtain ⟨hwl1, hwl2⟩ := hwl
        have HW := hideIt hw
        clear hw
        by_cases hj16 : j < 16
        · have hjb : decide ((j : Int) < 16) = true := by simp; omega
          go_wp2
          go_loopw [7, 25] (fun v i wr => ∃ (k N c' : Nat) (A' : Option Addr), k ≤ n ∧ i = .int .i64 k ∧ v = .slice A' N c' ∧ OwnI wr w.heap.size 3 (.slice A' N c') (selI j vs cs k) ∧ Chg (fun _ => False) w wr) (fun _ i _ => n - (intOf i).toNat)
          case atStart => exact ⟨0, 0, 0, none, Nat.zero_le _, rfl, rfl, OwnI.nil _ _ _, hc⟩
          case round =>
            obtain ⟨k, N, c', A', hk, rfl, rfl, ho, hc2⟩ := hrel
            by_cases hlt : k < n
            · obtain ⟨b, off, rfl, hbl, hcell⟩ := hv.at_ (by omega)
              have hx : wr.cell? ⟨b, off + k, none⟩ = some (.int .i64 (vs.getD k 0)) := (hc2.cell (p := ⟨b, off + k, none⟩) hbl (fun h => h)).trans (hcell k hlt)
              have hok : okI (vs.getD k 0) := hv.ok _ (getD_mem (by rw [HLV.out]; exact hlt))
              obtain ⟨x, hX⟩ : ∃ x, vs.getD k 0 = x := ⟨_, rfl⟩
              rw [hX] at hx hok
              have HX := hideIt hX
              clear hX hcell
              by_cases hkm : k < m
              · obtain ⟨b', off', rfl, hbl', hcell'⟩ := hy.at_ (by omega)
                have hy1 : wr.cell? ⟨b', off' + k, none⟩ = some (.int .i64 (cs.getD k 0)) := (hc2.cell (p := ⟨b', off' + k, none⟩) hbl' (fun h => h)).trans (hcell' k hkm)
                clear hcell'
                obtain ⟨y, hY⟩ : ∃ y, cs.getD k 0 = y := ⟨_, rfl⟩
                rw [hY] at hy1
                have hs := selI_succ (vs := vs) (cs := cs) (k := k) (j : Int) (by rw [HLV.out]; exact hlt) (by rw [HLY.out]; exact hkm)
                rw [hY, HX.out] at hs
                by_cases hyj : y = (j : Int)
                · rw [if_pos hyj] at hs
                  have HS := hideIt hs
                  have hyt : (y == (j : Int)) = true := by simpa using hyj
                  clear hs hY hyj
                  have hbs : (selI j vs cs k).length + 1 ≤ 17592186043904 := by
                    have : (selI j vs cs k).length ≤ n := by
                      unfold selI
                      rw [List.length_map]
                      refine Nat.le_trans (List.length_filter_le _ _) ?_
                      rw [List.length_take]; omega
                    omega
                  have hbase : w.heap.size ≤ (wr.alloc (.cells #[.int .i64 x] 3)).heap.size := by have := hc2.size; simp; omega
                  go_wp2_with (at_builtin; refine wpList_append_ints _ rfl _ _ 25 rfl i0 _ Try.underlying25 hi hz0 hz1 hz2 rfl rfl (ho.alloc _) rfl (Ints.one wr 3 x hok) hbs hbase ?_; intro v3 w3 o3 g3 l3; have c3 : Chg (fun _ => False) w w3 := (hc2.alloc _).grown g3 (fun i e => .inr (ho.base_le e)); obtain ⟨A3, k3, hv3, hk3, hm3, _⟩ := o3.slice; obtain ⟨N3, hN3⟩ : ∃ N3, Hid ((selI j vs cs k ++ [x]).length = N3) := ⟨_, hideIt rfl⟩; rw [hN3.out] at hv3; rw [hv3] at o3; rw [hv3]; clear hv3 g3 l3 hk3)
                  go_roundw
                  case rel => first | exact ⟨k + 1, N3, k3, A3, by omega, by go_num, rfl, by rw [HS.out]; exact o3, c3⟩ | ((repeat apply Exists.intro); exact ⟨⟨k + 1, N3, k3, A3, by omega, by go_num, rfl, by rw [HS.out]; exact o3, c3⟩, rfl⟩)
                  case measure => simp [intOf]; omega
                · rw [if_neg hyj] at hs
                  have HS := hideIt hs
                  have hyf : (y == (j : Int)) = false := by simpa using hyj
                  clear hs hY hyj
                  go_wp2
                  go_roundw
                  case rel => exact ⟨k + 1, N, c', A', by omega, by go_num, rfl, by rw [HS.out]; exact ho, hc2⟩
                  case measure => simp [intOf]; omega
              · have HS := hideIt (selI_same (vs := vs) (cs := cs) (k := k) (j : Int) (by rw [HLY.out]; omega))
                go_wp2
                go_roundw
                case rel => exact ⟨k + 1, N, c', A', by omega, by go_num, rfl, by rw [HS.out]; exact ho, hc2⟩
                case measure => simp [intOf]; omega
            · obtain rfl : k = n := by omega
              have hi2 : Ints wr A' N (selI j vs cs k) := ho.ints (fun x hx => hv.ok x (selI_sub hx)) rfl
              have hNn : N ≤ 17592186043904 := by
                have h3 := hi2.len
                have : (selI j vs cs k).length ≤ k := by
                  unfold selI
                  rw [List.length_map]
                  refine Nat.le_trans (List.length_filter_le _ _) ?_
                  rw [List.length_take]; omega
                omega
              cases hm : majB vs (selI j vs cs k) with
              | false =>
                have HM := hideIt (maj_as A A' k N c c' vs (selI j vs cs k) wr (hv.new hc2) hi2 (by omega) hNn _ hm)
                have HMM := hideIt hm
                clear hm
                go_wp2_with (go_at_call 37; refine HM.out.mono ?_; rintro r w5 ⟨rfl, k5⟩)
                go_roundw
                case rel => exact ⟨j + 1, W, by omega, by go_num, rfl, wins_no HW.out HMM.out, hc2.trans k5⟩
                case measure => simp [intOf]; omega
              | true =>
                have HM := hideIt (maj_as A A' k N c c' vs (selI j vs cs k) wr (hv.new hc2) hi2 (by omega) hNn _ hm)
                have HMM := hideIt hm
                clear hm
                go_wp2_with (go_at_call 37; refine HM.out.mono ?_; rintro r w5 ⟨rfl, k5⟩)
                go_roundw
                case rel => exact ⟨j + 1, W + 1, by omega, by go_num, rfl, wins_yes (right_nodup HR.out) HW.out HMM.out, hc2.trans k5⟩
                case measure => simp [intOf]; omega
        · have hwle : W ≤ 1 := hwl2
          go_wp2
          go_ret
          exact ⟨rfl, hc.none_below⟩
end Go.Proofs.Ytgmekeeemimnpaa
