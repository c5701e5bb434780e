/- BallotPlays, walked. (Printed by wip/gen/bplays.py.) -/
import Derived.Test.YtgmekeeemimnpaaBP9
import Derived.Test.YtgmekeeemimnpaaB4
import Derived.Deep.CutRange
import Derived.Deep.CutBlock
namespace Go.Proofs.Ytgmekeeemimnpaa
open Go Go.Maps Go.MapKept Go.RowKit

section
variable {nw : Option StandSt} {G : List (Int × Int)} {s : TwSt} {now : Int}
theorem tail_off (h : Rel nw G s) (hon : s.on = false) : nw = none := by
  obtain ⟨-, h⟩ := h
  cases nw with
  | none => rfl
  | some y =>
    obtain ⟨e, u, L⟩ := y
    rw [h.1] at hon; cases hon
theorem tail_on (h : Rel nw G s) (hon : s.on = true) : ∃ L, nw = some (s.ep, s.un, L) ∧ s.vs = L.map (·.1) ∧ keysNodup L := by
  obtain ⟨-, h⟩ := h
  cases nw with
  | none => exact absurd h (by show ¬ s.on = false; rw [hon]; decide)
  | some y =>
    obtain ⟨e, u, L⟩ := y
    obtain ⟨h1, h2, h3, h4, h5, -⟩ := h
    exact ⟨L, by rw [h2, h3], h4, h5⟩
end
set_option maxRecDepth 100000 in
set_option maxHeartbeats 16000000 in
theorem bplays_calls {tmo ask now : Int} {A : Option Addr} {n c : Nat} {acs : List ActB} (w : World) (_o1 : okI tmo) (hv : Recs encAB 5 d0AB w A n acs ∧ (∀ x ∈ acs, okAB w x) ∧ n ≤ c ∧ c ≤ maxLen) (oa : okI ask) (on : okI now) :
    Calls Try.prog 26 #[.int .i64 tmo, .slice A n c, .int .i64 ask, .int .i64 now] w fun e w' => e = .returned (.bool true) ∧ Below w.heap.size w w' := by
  have HA := hideIt (anchor15 w)
  obtain ⟨hv, hok, hnc, hcm⟩ := hv
  unfold maxLen at hcm
  have HOK := hideIt hok
  have HV := hideIt hv
  have HLEN := hideIt hv.len
  clear hok hv
  by_cases h0 : 2 ≤ tmo ∧ tmo ≤ 1073741824
  · obtain ⟨h01, h02⟩ := h0
    have HN := hideIt (fun W => ballotNew_yes tmo W h01 h02)
    by_cases q0 : 100 < n
    · go_enter Try.func26, Try.ntmps26
      go_wp2_with fail
      refine HA.out.mono ?_
      rintro e w1 ⟨rfl, c1⟩
      go_wp2_with fail
      refine (HN.out w1).mono ?_
      rintro e w2 ⟨b, rfl, b2, c2⟩
      go_wp2
      go_ret
      exact ⟨rfl, (c1.trans c2).none_below⟩
    by_cases q1 : now < -1125899906842624
    · go_enter Try.func26, Try.ntmps26
      go_wp2_with fail
      refine HA.out.mono ?_
      rintro e w1 ⟨rfl, c1⟩
      go_wp2_with fail
      refine (HN.out w1).mono ?_
      rintro e w2 ⟨b, rfl, b2, c2⟩
      go_wp2
      go_ret
      exact ⟨rfl, (c1.trans c2).none_below⟩
    by_cases q2 : 1125899906842624 < now
    · go_enter Try.func26, Try.ntmps26
      go_wp2_with fail
      refine HA.out.mono ?_
      rintro e w1 ⟨rfl, c1⟩
      go_wp2_with fail
      refine (HN.out w1).mono ?_
      rintro e w2 ⟨b, rfl, b2, c2⟩
      go_wp2
      go_ret
      exact ⟨rfl, (c1.trans c2).none_below⟩
    go_enter Try.func26, Try.ntmps26
    go_wp2_with fail
    refine HA.out.mono ?_
    rintro e w1 ⟨rfl, c1⟩
    go_wp2_with fail
    refine (HN.out w1).mono ?_
    rintro e w2 ⟨b, rfl, b2, c2⟩
    have bt := BT.made c1 b2 c2
    have HNOW := hideIt on
    have HASK := hideIt oa
    clear b2 on oa
    go_wp2_with fail
    go_loopw [63] (fun i wr => ∃ (k : Nat) (nw : Option StandSt) (G : List (Int × Int)) (s : TwSt), k ≤ n ∧ i = .int .i64 k ∧ BT (fun _ => False) w wr b w2.heap.size tmo nw G s ∧ Hid (Rel nw G s) ∧ Hid (TwOk s k)) (fun i _ => n - (intOf i).toNat)
    case atStart => exact ⟨0, none, [], tw0, Nat.zero_le _, rfl, bt, hideIt rel0, hideIt ok0⟩
    case round =>
      clear bt
      obtain ⟨k, nw, G, s, hk, rfl, hb, HR, HS⟩ := hrel
      by_cases hlt : k < n
      · obtain ⟨p, off, rfl, hbl, _⟩ := HV.out.at_ (by omega)
        have hrec := HV.out.chg hb.chg0 (fun _ _ _ _ h => h)
        have hload := hrec.load (P := Try.prog) hlt 90 infoAB aggAB (fun _ => rfl)
        have hoka := HOK.out _ (getD_mem' (d := d0AB) (by rw [HLEN.out]; exact hlt))
        obtain ⟨⟨x, y, z, u, VA, vn, vc⟩, hT⟩ : ∃ t, acs.getD k d0AB = t := ⟨_, rfl⟩
        rw [hT] at hload hoka
        obtain ⟨ok1, ok2, ok3, ok4, ⟨vs, hvs⟩, hvn, hvc⟩ := hoka
        simp only at ok1 ok2 ok3 ok4 hvs hvn hvc
        have hl2 : (encAB (x, y, z, u, VA, vn, vc)).toArray = #[.int .i64 x, .int .i64 y, .int .i64 z, .int .i64 u, .slice VA vn vc] := rfl
        rw [hl2] at hload
        clear hT hrec hl2
        obtain ⟨w4, s2, t2, k2, z2⟩ := keep_rec (P := Try.prog) wr infoAB (cs := #[.int .i64 0, .int .i64 0, .int .i64 0, .int .i64 0, .slice none 0 0]) (cs' := #[.int .i64 x, .int .i64 y, .int .i64 z, .int .i64 u, .slice VA vn vc]) rfl rfl (by intro v hv; simp at hv; rcases hv with rfl | rfl | rfl | rfl | rfl <;> rfl)
        have e0 : w4.cell? ⟨wr.heap.size, 0, none⟩ = some (.int .i64 x) := t2.cell 0
        have e1 : w4.cell? ⟨wr.heap.size, 1, none⟩ = some (.int .i64 y) := t2.cell 1
        have e2 : w4.cell? ⟨wr.heap.size, 2, none⟩ = some (.int .i64 z) := t2.cell 2
        have e3 : w4.cell? ⟨wr.heap.size, 3, none⟩ = some (.int .i64 u) := t2.cell 3
        have e4 : w4.cell? ⟨wr.heap.size, 4, none⟩ = some (.slice VA vn vc) := t2.cell 4
        have hload4 := t2.loadAll (P := Try.prog) infoAB aggAB rfl
        have T2 := hideIt t2
        have B4 : Hid (BT (fun i => i = wr.heap.size) w w4 b w2.heap.size tmo nw G s) := hideIt (hb.keep k2 (fun i hi => by subst hi; omega))
        have HVS := hideIt hvs
        clear t2 z2 k2 hb hvs
        by_cases g1 : 100 < vn
        · go_wp2_with (first
            | (refine wpList_loadv _ rfl 90 _ rfl rfl hload ?_) | (refine wpList_allocv _ rfl 90 rfl (zeroAB _) ?_) | (refine wpList_storev _ rfl 90 _ _ rfl rfl rfl s2 ?_))
          go_ret
          exact ⟨rfl, B4.out.chg0.none_below⟩
        go_upto_block 2 with (first
          | (refine wpList_loadv _ rfl 90 _ rfl rfl hload ?_) | (refine wpList_allocv _ rfl 90 rfl (zeroAB _) ?_) | (refine wpList_storev _ rfl 90 _ _ rfl rfl rfl s2 ?_))
        go_cut [14, 15, 16, 63] from 63 to 235 (fun _ _ _ i wx => i = .int .i64 (k : Int) ∧ ∃ nw' G' s', BT (fun _ => False) w wx b w2.heap.size tmo nw' G' s' ∧ Hid (Rel nw' G' s') ∧ Hid (TwOk s' (k + 1)))
        case first =>
          by_cases x1 : x = 1
          · as_aux_lemma =>
              have d1 : (x == 1) = true := by simpa using x1
              clear x1
              obtain ⟨r, s', nw', hT, hB, hR', hO'⟩ := stand_step (K := fun i => i = wr.heap.size) (b := b) (t := w2.heap.size) HR.out HS.out HVS.out (by omega) x y z u (And.intro h01 h02)
              have HT := hideIt hT
              have HB := hideIt hB
              have HR' := hideIt hR'
              have HO' := hideIt hO'
              clear hT hB hR' hO'
              go_wp2_with (first
                | (refine wpList_loadv _ rfl 90 _ rfl rfl hload4 ?_)
                | (go_at_call 77; refine (HT.out _ B4.out).mono ?_; rintro e w5 ⟨rfl, b5, k5⟩; have T5 := T2.out.chg k5 (fun h => h.2 rfl); have f1 : w5.cell? ⟨wr.heap.size, 1, none⟩ = some (.int .i64 y) := T5.cell 1; have f3 : w5.cell? ⟨wr.heap.size, 3, none⟩ = some (.int .i64 u) := T5.cell 3; have f4 : w5.cell? ⟨wr.heap.size, 4, none⟩ = some (.slice VA vn vc) := T5.cell 4; clear T5 k5 e0 e1 e2 e3 e4)
                | (go_at_call 44; refine (HB.out _ b5).mono ?_; rintro e w6 ⟨rfl, b6, -⟩))
              go_meet
              exact ⟨rfl, _, _, _, b6.drop, HR', HO'⟩
          have d1 : (x == 1) = false := by simpa using x1
          by_cases x2 : x = 2
          · as_aux_lemma =>
              have d2 : (x == 2) = true := by simpa using x2
              clear x1 x2
              obtain ⟨r, s', nw', hT, hB, hR', hO'⟩ := ack_step (K := fun i => i = wr.heap.size) (w0 := w) (b := b) (t := w2.heap.size) (A := VA) (n := vn) (c := vc) HR.out HS.out (by omega) x y z u ok3
              have HT := hideIt hT
              have HB := hideIt hB
              have HR' := hideIt hR'
              have HO' := hideIt hO'
              clear hT hB hR' hO'
              go_wp2_with (first
                | (refine wpList_loadv _ rfl 90 _ rfl rfl hload4 ?_)
                | (go_at_call 78; refine (HT.out _ B4.out).mono ?_; rintro e w5 ⟨rfl, b5, k5⟩; have T5 := T2.out.chg k5 (fun h => h.2 rfl); have f1 : w5.cell? ⟨wr.heap.size, 1, none⟩ = some (.int .i64 y) := T5.cell 1; have f2 : w5.cell? ⟨wr.heap.size, 2, none⟩ = some (.int .i64 z) := T5.cell 2; have f3 : w5.cell? ⟨wr.heap.size, 3, none⟩ = some (.int .i64 u) := T5.cell 3; clear T5 k5 e0 e1 e2 e3 e4)
                | (go_at_call 45; refine (HB.out _ b5).mono ?_; rintro e w6 ⟨rfl, b6, -⟩))
              go_meet
              exact ⟨rfl, _, _, _, b6.drop, HR', HO'⟩
          have d2 : (x == 2) = false := by simpa using x2
          by_cases x3 : x = 3
          · as_aux_lemma =>
              have d3 : (x == 3) = true := by simpa using x3
              clear x1 x2 x3
              go_wp2_with (first
                | (go_at_call 79; refine (B4.out.stop).mono ?_; rintro e w5 ⟨rfl, b5, -⟩; obtain ⟨A1, k1, z0, z1, -, -, -, -⟩ := b5.cells HS.out; clear e0 e1 e2 e3 e4))
              go_meet
              exact ⟨rfl, _, _, _, b5.off.drop, hideIt (rel_stop HR.out), hideIt (ok_on HS.out _)⟩
          have d3 : (x == 3) = false := by simpa using x3
          by_cases x4 : x = 4
          · as_aux_lemma =>
              have d4 : (x == 4) = true := by simpa using x4
              clear x1 x2 x3 x4
              obtain ⟨r, s', G', hT, hB, hR', hO'⟩ := gave_step (K := fun i => i = wr.heap.size) (w0 := w) (b := b) (t := w2.heap.size) (tmo := tmo) HR.out HS.out (by omega) z u
              have HT := hideIt hT
              have HB := hideIt hB
              have HR' := hideIt hR'
              have HO' := hideIt hO'
              clear hT hB hR' hO'
              go_wp2_with (first
                | (go_at_call 80; refine (HT.out _ B4.out).mono ?_; rintro e w5 ⟨rfl, b5, k5⟩; have T5 := T2.out.chg k5 (fun h => h.2 rfl); have f2 : w5.cell? ⟨wr.heap.size, 2, none⟩ = some (.int .i64 z) := T5.cell 2; have f3 : w5.cell? ⟨wr.heap.size, 3, none⟩ = some (.int .i64 u) := T5.cell 3; clear T5 k5 e0 e1 e2 e3 e4)
                | (go_at_call 47; refine (HB.out _ b5).mono ?_; rintro e w6 ⟨rfl, b6, -⟩))
              go_meet
              exact ⟨rfl, _, _, _, b6.drop, HR', HO'⟩
          have d4 : (x == 4) = false := by simpa using x4
          clear x1 x2 x3 x4
          as_aux_lemma =>
            go_wp2_with fail
            go_meet
            exact ⟨rfl, _, _, _, B4.out.drop, HR, hideIt (ok_succ HS.out)⟩
        case rest =>
          obtain ⟨rfl, nw', G', s', b7, HR7, HS7⟩ := hcut
          have HB7 := hideIt b7
          obtain ⟨A1, k1, z0, -, z1, z2, z3, zi⟩ := b7.cells HS7.out
          obtain ⟨n1, hn1⟩ : ∃ n, s'.vs.length = n := ⟨_, rfl⟩
          rw [hn1] at z3
          have HN1 := hideIt hn1
          have hnv : n1 ≤ 100 := by rw [← hn1]; exact HS7.out.vl
          obtain ⟨mb, hmb⟩ : ∃ mb, mayB tmo G' ask now = mb := ⟨_, rfl⟩
          have HMB := hideIt hmb
          have HTB : Hid (mayB tmo (s'.ws.zip s'.ts) ask now = mb) := hideIt (by rw [HR7.out.1]; exact hmb)
          have w1n : -1125899906842624 ≤ now := by omega
          have w2n : now ≤ 1125899906842624 := by omega
          clear b7 hn1 zi hmb e0 e1 e2 e3 e4 hload hload4 s2 T2 B4 HVS ok1 ok2 ok3 ok4 hvn hvc g1 HR HS hbl q0 q1 q2 HA HN HOK HV hcm hnc
          cases hon : s'.on with
          | false => as_aux_lemma =>
              have hnw := tail_off HR7.out hon
              subst hnw
              rw [hon] at z0
              have HON := hideIt hon
              clear hon
              go_wp2_with (first
                | (go_at_call 73; refine (HB7.out.standing now (.tuple #[.int .i64 0, .bool false]) rfl).mono ?_; rintro e w8 ⟨rfl, rfl⟩)
                | (go_at_call 46; refine (HB7.out.may ask now HASK.out HNOW.out mb HMB.out).mono ?_; rintro e w8 ⟨rfl, rfl⟩)
                | (go_at_call 81; refine (HB7.out.tmay HS7.out (by omega) ask now w1n w2n mb HTB.out).mono ?_; rintro e w8 ⟨rfl, rfl⟩)
                | (go_at_call 74; refine HB7.out.voters.mono ?_; rintro e w9 ⟨A9, n9, c9, rfl, hn9, i9, b9⟩; obtain rfl : n9 = 0 := hn9; obtain ⟨A2, k2, y0, -, -, -, -, -⟩ := b9.cells HS7.out; rw [HON.out] at y0; have B9 := hideIt b9; clear b9 i9 z0 z1 z2 z3))
              go_loop [209] (fun i => i = .int .i64 0) (fun _ => 0)
              case atStart => rfl
              case round =>
                subst hrel
                go_wp2
                go_roundw
                case rel => exact ⟨k + 1, _, _, _, by omega, by go_num, B9.out, HR7, HS7⟩
                case measure => simp [intOf]; omega
          | true =>
            obtain ⟨L, hnw, hvs, hnd⟩ := tail_on HR7.out hon
            rw [hon] at z0
            have HON := hideIt hon
            have HVS := hideIt hvs
            have HSRT := hideIt (sortI_lt (xs := s'.vs) (by rw [hvs]; exact hnd))
            obtain ⟨un, hun⟩ : ∃ un, s'.un = un := ⟨_, rfl⟩
            obtain ⟨ep, hep⟩ : ∃ ep, s'.ep = ep := ⟨_, rfl⟩
            rw [hun] at hnw z2
            rw [hep] at hnw z1
            have HSD : Hid (standers nw' = s'.vs) := hideIt (by rw [hnw, hvs]; rfl)
            have HNW := hideIt hnw
            clear hon hvs hnd hun hep hnw
            by_cases hu : now ≤ un
            · as_aux_lemma =>
              have d8 : decide (now ≤ un) = true := by simpa using hu
              have HST : Hid (standingV nw' now = .tuple #[.int .i64 ep, .bool true]) := hideIt (by rw [HNW.out]; simp only [standingV, atNow, Option.bind_some]; rw [if_neg (by omega)])
              clear hu
              go_wp2_with (first
                | (go_at_call 73; refine (HB7.out.standing now (.tuple #[.int .i64 ep, .bool true]) HST.out).mono ?_; rintro e w8 ⟨rfl, rfl⟩)
                | (go_at_call 46; refine (HB7.out.may ask now HASK.out HNOW.out mb HMB.out).mono ?_; rintro e w8 ⟨rfl, rfl⟩)
                | (go_at_call 81; refine (HB7.out.tmay HS7.out (by omega) ask now w1n w2n mb HTB.out).mono ?_; rintro e w8 ⟨rfl, rfl⟩)
                | (go_at_call 74; refine HB7.out.voters.mono ?_; rintro e w9 ⟨A9, n9, c9, rfl, hn9, i9, b9⟩; rw [HSD.out] at i9 hn9; rw [HN1.out] at hn9; subst hn9; obtain ⟨A2, k2, y0, -, -, -, y3, yi⟩ := b9.cells HS7.out; rw [HON.out] at y0; rw [HN1.out] at y3 yi; have B9 := hideIt b9; have I9 := hideIt i9; have YI := hideIt yi; clear b9 i9 yi z0 z1 z2 z3))
              go_loop [209] (fun i => ∃ j : Nat, j ≤ n9 ∧ i = .int .i64 j) (fun i => n9 - (intOf i).toNat)
              case atStart => exact ⟨0, Nat.zero_le _, rfl⟩
              case round =>
                obtain ⟨j, hj, rfl⟩ := hrel
                by_cases hjn : j < n9
                · obtain ⟨b9, off9, rfl, hb9, hc9⟩ := I9.out.at_ (by omega)
                  have hcj := hc9 j hjn
                  obtain ⟨xj, hxj⟩ : ∃ v, (sortI s'.vs).getD j 0 = v := ⟨_, rfl⟩
                  rw [hxj] at hcj
                  have hlen9 := I9.out.len
                  have HM : Hid (decide (xj ∈ s'.vs) = true) := hideIt (by rw [← hxj, decide_eq_true_eq, ← mem_sortI]; exact getD_mem (by omega))
                  by_cases hj0 : j = 0
                  · subst hj0
                    rw [Nat.add_zero] at hcj
                    have HX := hideIt hxj
                    clear hc9 hxj hlen9
                    go_wp2_with (first
                      | (go_at_call 82; refine (has15_calls xj _ YI.out (by omega)).mono ?_; rw [HM.out]; rintro e w10 ⟨rfl, rfl⟩))
                    exact ⟨⟨1, by omega, by go_num⟩, by simp [intOf]; omega⟩
                  · obtain ⟨q, hq⟩ : ∃ q, j - 1 = q := ⟨_, rfl⟩
                    have hcq := hc9 q (by omega)
                    obtain ⟨xq, hxq⟩ : ∃ v, (sortI s'.vs).getD q 0 = v := ⟨_, rfl⟩
                    rw [hxq] at hcq
                    have hltq : xq < xj := by
                      have := List.pairwise_iff_getElem.1 HSRT.out q j (by omega) (by omega) (by omega)
                      rw [← getD_get, ← getD_get, hxq, hxj] at this
                      exact this
                    have hdq : decide (xj ≤ xq) = false := by simp; omega
                    have hwq : IntKind.i64.wrap ((j : Int) - 1) = (q : Int) := by rw [show (j : Int) - 1 = (q : Int) by omega]; exact IntWalk.i64_in _ (by omega)
                    have hq0 : (0 : Int) ≤ (q : Int) := by omega
                    have hq1 : (q : Int) < (n9 : Int) := by omega
                    have hj1 : decide ((0 : Int) < (j : Int)) = true := by simp; omega
                    have HX := hideIt hxj
                    have HQ := hideIt hq
                    clear hc9 hxj hxq hlen9 hq hltq
                    go_wp2_with (first
                      | (go_at_call 82; refine (has15_calls xj _ YI.out (by omega)).mono ?_; rw [HM.out]; rintro e w10 ⟨rfl, rfl⟩))
                    exact ⟨⟨j + 1, by omega, by go_num⟩, by simp [intOf]; omega⟩
                · obtain rfl : j = n9 := by omega
                  go_wp2
                  go_roundw
                  case rel => exact ⟨k + 1, _, _, _, by omega, by go_num, B9.out, HR7, HS7⟩
                  case measure => simp [intOf]; omega
            · as_aux_lemma =>
              have d8 : decide (now ≤ un) = false := by simpa using hu
              have HST : Hid (standingV nw' now = .tuple #[.int .i64 0, .bool false]) := hideIt (by rw [HNW.out]; simp only [standingV, atNow, Option.bind_some]; rw [if_pos (by omega)])
              clear hu
              go_wp2_with (first
                | (go_at_call 73; refine (HB7.out.standing now (.tuple #[.int .i64 0, .bool false]) HST.out).mono ?_; rintro e w8 ⟨rfl, rfl⟩)
                | (go_at_call 46; refine (HB7.out.may ask now HASK.out HNOW.out mb HMB.out).mono ?_; rintro e w8 ⟨rfl, rfl⟩)
                | (go_at_call 81; refine (HB7.out.tmay HS7.out (by omega) ask now w1n w2n mb HTB.out).mono ?_; rintro e w8 ⟨rfl, rfl⟩)
                | (go_at_call 74; refine HB7.out.voters.mono ?_; rintro e w9 ⟨A9, n9, c9, rfl, hn9, i9, b9⟩; rw [HSD.out] at i9 hn9; rw [HN1.out] at hn9; subst hn9; obtain ⟨A2, k2, y0, -, -, -, y3, yi⟩ := b9.cells HS7.out; rw [HON.out] at y0; rw [HN1.out] at y3 yi; have B9 := hideIt b9; have I9 := hideIt i9; have YI := hideIt yi; clear b9 i9 yi z0 z1 z2 z3))
              go_loop [209] (fun i => ∃ j : Nat, j ≤ n9 ∧ i = .int .i64 j) (fun i => n9 - (intOf i).toNat)
              case atStart => exact ⟨0, Nat.zero_le _, rfl⟩
              case round =>
                obtain ⟨j, hj, rfl⟩ := hrel
                by_cases hjn : j < n9
                · obtain ⟨b9, off9, rfl, hb9, hc9⟩ := I9.out.at_ (by omega)
                  have hcj := hc9 j hjn
                  obtain ⟨xj, hxj⟩ : ∃ v, (sortI s'.vs).getD j 0 = v := ⟨_, rfl⟩
                  rw [hxj] at hcj
                  have hlen9 := I9.out.len
                  have HM : Hid (decide (xj ∈ s'.vs) = true) := hideIt (by rw [← hxj, decide_eq_true_eq, ← mem_sortI]; exact getD_mem (by omega))
                  by_cases hj0 : j = 0
                  · subst hj0
                    rw [Nat.add_zero] at hcj
                    have HX := hideIt hxj
                    clear hc9 hxj hlen9
                    go_wp2_with (first
                      | (go_at_call 82; refine (has15_calls xj _ YI.out (by omega)).mono ?_; rw [HM.out]; rintro e w10 ⟨rfl, rfl⟩))
                    exact ⟨⟨1, by omega, by go_num⟩, by simp [intOf]; omega⟩
                  · obtain ⟨q, hq⟩ : ∃ q, j - 1 = q := ⟨_, rfl⟩
                    have hcq := hc9 q (by omega)
                    obtain ⟨xq, hxq⟩ : ∃ v, (sortI s'.vs).getD q 0 = v := ⟨_, rfl⟩
                    rw [hxq] at hcq
                    have hltq : xq < xj := by
                      have := List.pairwise_iff_getElem.1 HSRT.out q j (by omega) (by omega) (by omega)
                      rw [← getD_get, ← getD_get, hxq, hxj] at this
                      exact this
                    have hdq : decide (xj ≤ xq) = false := by simp; omega
                    have hwq : IntKind.i64.wrap ((j : Int) - 1) = (q : Int) := by rw [show (j : Int) - 1 = (q : Int) by omega]; exact IntWalk.i64_in _ (by omega)
                    have hq0 : (0 : Int) ≤ (q : Int) := by omega
                    have hq1 : (q : Int) < (n9 : Int) := by omega
                    have hj1 : decide ((0 : Int) < (j : Int)) = true := by simp; omega
                    have HX := hideIt hxj
                    have HQ := hideIt hq
                    clear hc9 hxj hxq hlen9 hq hltq
                    go_wp2_with (first
                      | (go_at_call 82; refine (has15_calls xj _ YI.out (by omega)).mono ?_; rw [HM.out]; rintro e w10 ⟨rfl, rfl⟩))
                    exact ⟨⟨j + 1, by omega, by go_num⟩, by simp [intOf]; omega⟩
                · obtain rfl : j = n9 := by omega
                  go_wp2
                  go_roundw
                  case rel => exact ⟨k + 1, _, _, _, by omega, by go_num, B9.out, HR7, HS7⟩
                  case measure => simp [intOf]; omega
      · obtain rfl : k = n := by omega
        go_wp2
        go_ret
        exact ⟨rfl, hb.chg0.none_below⟩
  · have HN := hideIt (fun W => ballotNew_no tmo W h0)
    by_cases p0 : tmo < 2
    · clear h0
      go_enter Try.func26, Try.ntmps26
      go_wp2_with (first
        | (go_at_call 42; refine HA.out.mono ?_; rintro e w1 ⟨rfl, c1⟩)
        | (go_at_call 43; refine (HN.out _).mono ?_; rintro e w2 ⟨rfl, rfl⟩))
      go_ret
      exact ⟨rfl, c1.none_below⟩
    · have p1 : 1073741824 < tmo := by omega
      clear h0
      go_enter Try.func26, Try.ntmps26
      go_wp2_with (first
        | (go_at_call 42; refine HA.out.mono ?_; rintro e w1 ⟨rfl, c1⟩)
        | (go_at_call 43; refine (HN.out _).mono ?_; rintro e w2 ⟨rfl, rfl⟩))
      go_ret
      exact ⟨rfl, c1.none_below⟩
end Go.Proofs.Ytgmekeeemimnpaa
