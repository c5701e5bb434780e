/- ClaimsOrder, walked. -/
import Derived.Test.YtgmekeeemimnpaaDoorCO2
import Derived.Test.YtgmekeeemimnpaaDoorC7
import Derived.IntWalk
namespace Go.Proofs.YtgmekeeemimnpaaDoor.R
open Go Go.Maps Go.MapKept Go.RowKit

theorem turned_mem {l : List CR} {k : Nat} : ∀ c, c ∈ [] ++ l.drop k ++ l ↔ c ∈ l := fun c => by
  simp only [List.nil_append, List.mem_append]
  exact ⟨fun h => h.elim List.mem_of_mem_drop id, .inr⟩
theorem bestS_t {i : Nat} {b : Int × Int} {c : CR} {o e : Int} (hb : b = (o, e)) {x : Bool} (h1 : c.2.2.testBit i = x) {y : Bool} (h2 : decide (e < c.2.1) = y) : bestS i b c = if x && y then (c.1, c.2.1) else (o, e) := by
  subst hb h1 h2; rfl

set_option maxRecDepth 100000 in
set_option maxHeartbeats 16000000 in
theorem order_law_calls (w : World) (hTW : TabW w) (A : Option Addr) (n c : Nat) (l : List CR) (hl : ClaimsIn w A n c l) (at_ : Int) (oa : okI at_) :
    Calls Tryd.prog 6 #[.slice A n c, .int .i64 at_] w fun e w' => e = .returned (.bool true) ∧ Chg (fun _ => False) w w' := by
  have HL := hideIt hl
  obtain ⟨hr, hok, hnc, hcm⟩ := hl
  unfold maxLen at hcm
  have HR := hideIt hr
  have HLN := hideIt hr.len
  have HOK := hideIt hok
  have HTW := hideIt hTW
  obtain ⟨oa1, oa2⟩ := okI_iff.1 oa
  clear hr hok hTW
  by_cases q0 : 20 < n
  · go_enter Tryd.func6, Tryd.ntmps6
    go_wp2_with (go_at_call 12; refine (anchor_calls w HTW.out).mono ?_; rintro e w1 ⟨rfl, k1⟩)
    go_ret
    exact ⟨rfl, k1⟩
  have hn20 : n ≤ 20 := by omega
  go_enter Tryd.func6, Tryd.ntmps6
  go_wp2_with fail
  refine (anchor_calls w HTW.out).mono ?_
  rintro e w1 ⟨rfl, k1⟩
  go_wp2_with fail
  refine (unlike_calls (c := c) ⟨HR.out.new k1, HOK.out, hnc, by unfold maxLen; omega⟩ hn20).mono ?_
  rintro e w2 ⟨b, rfl, hun, k2⟩
  have K2 := hideIt (k1.trans k2)
  clear k1 k2
  cases b with
  | false =>
    clear hun
    go_wp2
    go_ret
    exact ⟨rfl, K2.out⟩
  | true =>
    have HUN := hideIt (hun rfl)
    clear hun
    by_cases q1 : at_ < 0
    · go_wp2
      go_ret
      exact ⟨rfl, K2.out⟩
    have hat : 0 ≤ at_ := by omega
    obtain ⟨k, hk⟩ : ∃ k : Nat, (k : Int) = at_.tmod ((n : Int) + 1) := ⟨(at_.tmod ((n : Int) + 1)).toNat, by
      have := Int.tmod_nonneg ((n : Int) + 1) hat
      omega⟩
    have hkn : k ≤ n := by
      have := Int.tmod_lt_of_pos at_ (show (0 : Int) < (n : Int) + 1 by omega)
      omega
    have hcf := fun W => run_cutK_from (K := 3) Tryd.underlying40 sizeC W A n c k hkn
    have HK := hideIt hk
    have hk2 := hk.symm
    have hne : ((n : Int) + 1 == 0) = false := by simp; omega
    clear hk
    have N1 : ([] : List CR).length + (n - k) ≤ 1000000000 := by simp; omega
    have N2 : ([] ++ l.drop k).length + n ≤ 1000000000 := by have := HLN.out; simp; omega
    have HL40 : Hid (([] ++ l.drop k ++ l).length ≤ 40) := hideIt (by
      have := HLN.out
      rw [List.length_append, List.length_append, List.length_drop, List.length_nil]
      omega)
    have tok1 : True := trivial
    have tokM : True := trivial
    have R2 := hideIt (HR.out.new K2.out)
    have HMEM := hideIt (turned_mem (l := l) (k := k))
    have HOKM := hideIt (show ∀ x ∈ l, okU x from HUN.out.1)
    go_wp2_with (first
      | (have _t := tok1; at_builtin; refine wpList_append_recs (base := w2.heap.size) _ rfl _ _ 40 rfl recC encC_len encC_one rfl (OwnR.empty w2 _ _ (Nat.le_refl _)) rfl ((R2.out.new ((Chg.refl _ w2).alloc _)).drop hkn hnc) N1 (by omega) (by simp) ?_; intro v3 w3 o3 g3 q3; clear tok1 _t; have K3 := hideIt (((Chg.refl (fun _ => False) w2).alloc _).grown g3 (fun i e => .inr (by cases e; exact Nat.le_refl _)) : Chg (fun _ => False) w2 w3); have O3 := hideIt o3; clear o3 g3 q3)
      | (at_builtin; refine wpList_append_recs (base := w2.heap.size) _ rfl _ _ 40 rfl recC encC_len encC_one rfl O3.out rfl (R2.out.new K3.out) N2 (by omega) K3.out.size ?_; intro v4 w4 o4 g4 q4; have K4 := hideIt (K3.out.grown g4 (fun i e => .inr (O3.out.base_le e)) : Chg (fun _ => False) w2 w4); obtain ⟨T, hT⟩ : ∃ T, [] ++ l.drop k ++ l = T := ⟨_, rfl⟩; rw [hT] at o4; obtain ⟨A4, c4, hv4, -, -, -, -⟩ := o4.slice; rw [hv4]; rw [hv4] at o4; have R4 := hideIt (OwnR.recs (d := d0C) encC_len o4 rfl); obtain ⟨n4, hn4⟩ : ∃ n4, T.length = n4 := ⟨_, rfl⟩; rw [hn4] at R4; rw [hn4]; have hn40 : n4 ≤ 40 := (by rw [← hn4, ← hT]; exact HL40.out); rw [hT] at HMEM; have R4l := hideIt (R2.out.new K4.out); have TW4 := hideIt (HTW.out.chg (K2.out.trans K4.out) (fun h => h)); clear o4 g4 q4 hv4 hn4 hT)
      | (have _t := tokM; go_at_call 22; refine (made_calls TW4.out R4l.out HOK.out HOKM.out (by omega)).mono ?_; rintro e w5 ⟨rfl, k5⟩; clear tokM _t; have TW5 := hideIt (TW4.out.chg k5 (fun h => h)); have K5 := hideIt k5; clear k5))
    refine (made_calls TW5.out (R4.out.new K5.out) (fun x hx => HOK.out x ((HMEM.out x).1 hx)) (fun x hx => HOKM.out x ((HMEM.out x).1 hx)) (by omega)).mono ?_
    rintro e w6 ⟨rfl, k6⟩
    obtain ⟨wz, hwz⟩ : ∃ wz, wz = (w6.alloc (.cells (tcs zeroT) 24)).alloc (.cells (tcs zeroT) 24) := ⟨_, rfl⟩
    have hA : TabAt wz w6.heap.size zeroT := by rw [hwz]; exact (Blk.new w6 _ _).alloc _
    have hB : TabAt wz (w6.heap.size + 1) zeroT := by
      rw [hwz]
      have := Blk.new (w6.alloc (.cells (tcs zeroT) 24)) 24 (tcs zeroT)
      unfold TabAt
      simpa using this
    have CZ : Chg (fun _ => False) w6 wz := by rw [hwz]; exact ((Chg.refl _ w6).alloc _).alloc _
    obtain ⟨w7, s7, t7, c7, z7⟩ := hA.store (madeT l)
    obtain ⟨w8, s8, t8, c8, z8⟩ := (hB.chg c7 (by omega)).store (madeT T)
    rw [hwz] at s7
    have s8' : (storeVar 24 ⟨(w6.alloc (.cells (tcs zeroT) 24)).heap.size, 0, none⟩ (.agg (tcs (madeT T)))).run Tryd.prog w7 = .ok () w8 := by
      rw [show (w6.alloc (.cells (tcs zeroT) 24)).heap.size = w6.heap.size + 1 by simp]
      exact s8
    clear s8
    have T7 := hideIt (t7.chg c8 (by omega))
    have T8 := hideIt t8
    have K45 := hideIt ((K2.out.trans K4.out).trans K5.out)
    have sz5 := K45.out.size
    have sz6 := k6.size
    have K8 : Hid (Chg (fun _ => False) w w8) := hideIt ((K45.out.trans (k6.trans CZ)).trans' c7 (fun i hi => .inr (by subst hi; omega)) |>.trans' c8 (fun i hi => .inr (by subst hi; omega)))
    clear hwz hA hB CZ t7 t8 c7 c8 z7 z8 k6 sz5 sz6
    go_wp2_with (first
      | (refine wpList_allocagg _ rfl 24 rfl (zero_tab _) ?_)
      | (refine wpList_storev _ rfl 24 _ _ rfl rfl rfl s8' ?_)
      | (refine wpList_storev _ rfl 24 _ _ rfl rfl rfl s7 ?_))
    clear s7 s8'
    have HR8 := hideIt (HR.out.new K8.out)
    clear R2 TW4 TW5 R4l K2
    generalize w6.heap.size = B6 at *
    go_loopw [44] (fun i wr => ∃ i0 : Nat, i0 ≤ 64 ∧ i = .int .i64 i0 ∧ Chg (fun _ => False) w8 wr) (fun i _ => 64 - (intOf i).toNat)
    case atStart => exact ⟨0, by omega, rfl, Chg.refl _ _⟩
    case round =>
      obtain ⟨i0, hi0, rfl, hch⟩ := hrel
      by_cases hi64 : i0 < 64
      · obtain ⟨⟨o, e0⟩, hoe⟩ : ∃ p, bestF i0 l = p := ⟨_, rfl⟩
        have hA := (T7.out.chg hch (fun h => h)).cell (show i0 < 128 by omega)
        have hB := (T8.out.chg hch (fun h => h)).cell (show i0 < 128 by omega)
        have ea : madeT l i0 = o := by rw [order_one HUN.out (fun _ => Iff.rfl) hi64, hoe]
        have eb : madeT T i0 = o := by rw [order_one HUN.out HMEM.out hi64, hoe]
        have HCA := hideIt hch
        have HOE := hideIt hoe
        have EA := hideIt ea
        have EB := hideIt eb
        have hd64 : decide ((i0 : Int) < (64 : Int)) = true := by simp; omega
        clear hch hoe ea eb hA hB
        go_wp2
        go_loopw [10, 11, 49] (fun wn be jv wq => ∃ j : Nat, j ≤ n ∧ jv = .int .i64 j ∧ wn = .int .i64 (bestF i0 (l.take j)).1 ∧ be = .int .i64 (bestF i0 (l.take j)).2 ∧ Chg (fun _ => False) w8 wq) (fun _ _ jv _ => n - (intOf jv).toNat)
        case atStart => exact ⟨0, by omega, rfl, rfl, rfl, HCA.out⟩
        case round =>
          obtain ⟨j, hj, rfl, rfl, rfl, hc2⟩ := hrel
          by_cases hlt : j < n
          · obtain ⟨p, off, rfl, hbl, _⟩ := HR8.out.at_ (by omega)
            have hload := (HR8.out.new hc2).load (P := Tryd.prog) (i := j) hlt 28 infoC aggC encC_len
            have hokc := HOK.out _ (getD_mem' (d := d0C) (by rw [HLN.out]; exact hlt))
            obtain ⟨⟨id, ep, m⟩, hT⟩ : ∃ t, l.getD j d0C = t := ⟨_, rfl⟩
            rw [hT] at hload hokc
            obtain ⟨o1, o2, o3⟩ := hokc
            simp only at o1 o2 o3
            have hl2 : (encC (id, ep, m)).toArray = #[.int .i64 id, .int .i64 ep, .int .u64 (m : Int)] := rfl
            rw [hl2] at hload
            obtain ⟨⟨wo, we⟩, hb⟩ : ∃ p, bestF i0 (l.take j) = p := ⟨_, rfl⟩
            rw [hb]
            have hnx : bestF i0 (l.take (j + 1)) = if m.testBit i0 && decide (we < ep) then (id, ep) else (wo, we) := by
              rw [take_succ_getD' l d0C j (by rw [HLN.out]; exact hlt), hT, bestF_snoc]
              exact bestS_t hb rfl rfl
            obtain ⟨bt, hbt⟩ : ∃ b, m.testBit i0 = b := ⟨_, rfl⟩
            rw [hbt] at hnx
            have HHM : Hid (∀ W, Calls Tryd.prog 20 #[.int .u64 (m : Int), .int .i64 (i0 : Int)] W fun e w' => e = .returned (.bool bt) ∧ W = w') := hideIt (fun W => by rw [← hbt]; exact has_calls W m o3 i0 hi64)
            obtain ⟨w9, s9, t9, k9, z9⟩ := keep_rec (P := Tryd.prog) wr infoC (cs := #[.int .i64 0, .int .i64 0, .int .u64 0]) (cs' := #[.int .i64 id, .int .i64 ep, .int .u64 (m : Int)]) rfl rfl (by intro v hv; simp at hv; rcases hv with rfl | rfl | rfl <;> rfl)
            have f0 : w9.cell? ⟨wr.heap.size, 0, none⟩ = some (.int .i64 id) := t9.cell 0
            have f1 : w9.cell? ⟨wr.heap.size, 1, none⟩ = some (.int .i64 ep) := t9.cell 1
            have f2 : w9.cell? ⟨wr.heap.size, 2, none⟩ = some (.int .u64 (m : Int)) := t9.cell 2
            have K9 := hideIt (hc2.trans k9)
            clear hl2 hT hb hbt t9 k9 z9 hc2
            cases bt with
            | false =>
              have HN : Hid (bestF i0 (l.take (j + 1)) = (wo, we)) := hideIt (hnx.trans (by simp))
              clear hnx
              go_wp2_with (first
                | (refine wpList_loadv _ rfl 28 _ rfl rfl hload ?_)
                | (refine wpList_allocv _ rfl 28 rfl (zeroC _) ?_)
                | (refine wpList_storev _ rfl 28 _ _ rfl rfl rfl s9 ?_)
                | (go_at_call 20; refine (HHM.out _).mono ?_; rintro e w10 ⟨rfl, rfl⟩))
              go_roundw
              case rel => exact ⟨j + 1, by omega, by go_num, by rw [HN.out], by rw [HN.out], K9.out⟩
              case measure => simp [intOf]; omega
            | true =>
              by_cases hlt2 : we < ep
              · have hd : decide (we < ep) = true := by simpa using hlt2
                have HN : Hid (bestF i0 (l.take (j + 1)) = (id, ep)) := hideIt (hnx.trans (by simp [hlt2]))
                clear hnx hlt2
                go_wp2_with (first
                  | (refine wpList_loadv _ rfl 28 _ rfl rfl hload ?_)
                  | (refine wpList_allocv _ rfl 28 rfl (zeroC _) ?_)
                  | (refine wpList_storev _ rfl 28 _ _ rfl rfl rfl s9 ?_)
                  | (go_at_call 20; refine (HHM.out _).mono ?_; rintro e w10 ⟨rfl, rfl⟩))
                go_quiet (fail)
                go_wp2
                go_roundw
                case rel => exact ⟨j + 1, by omega, by go_num, by rw [HN.out], by rw [HN.out], K9.out.drewN _⟩
                case measure => simp [intOf]; omega
              · have hd : decide (we < ep) = false := by simpa using hlt2
                have HN : Hid (bestF i0 (l.take (j + 1)) = (wo, we)) := hideIt (hnx.trans (by simp [hlt2]))
                clear hnx hlt2
                go_wp2_with (first
                  | (refine wpList_loadv _ rfl 28 _ rfl rfl hload ?_)
                  | (refine wpList_allocv _ rfl 28 rfl (zeroC _) ?_)
                  | (refine wpList_storev _ rfl 28 _ _ rfl rfl rfl s9 ?_)
                  | (go_at_call 20; refine (HHM.out _).mono ?_; rintro e w10 ⟨rfl, rfl⟩))
                go_roundw
                case rel => exact ⟨j + 1, by omega, by go_num, by rw [HN.out], by rw [HN.out], K9.out⟩
                case measure => simp [intOf]; omega
          · obtain rfl : j = n := by omega
            have h1 : l.take j = l := by rw [← HLN.out, List.take_length]
            rw [h1, HOE.out]
            have hA := (T7.out.chg hc2 (fun h => h)).cell (show i0 < 128 by omega)
            have hB := (T8.out.chg hc2 (fun h => h)).cell (show i0 < 128 by omega)
            rw [EA.out] at hA
            rw [EB.out] at hB
            have HC2 := hideIt hc2
            clear h1 hc2
            go_wp2
            go_roundw
            case rel => exact ⟨i0 + 1, by omega, by go_num, HC2.out⟩
            case measure => simp [intOf]; omega
      · obtain rfl : i0 = 64 := by omega
        go_wp2
        go_ret
        exact ⟨rfl, K8.out.trans hch⟩
end Go.Proofs.YtgmekeeemimnpaaDoor.R
