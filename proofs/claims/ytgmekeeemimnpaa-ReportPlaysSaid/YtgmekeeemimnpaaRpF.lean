/- Layer 8's own list of reports: records in slices; 'note' walked. -/
import Derived.Test.YtgmekeeemimnpaaRpD
import Derived.Test.YtgmekeeemimnpaaOwnR
namespace Go.Proofs.Ytgmekeeemimnpaa
open Go Go.Maps Go.MapKept Go.RowKit

def encRp (p : Pr × Int) : List Value := [.int .i64 p.1.1, .int .i64 p.1.2, .int .i64 p.2]
def d0Rp : Pr × Int := ((0, 0), 0)
abbrev RecsP (w : World) (A : Option Addr) (n : Nat) (L : List (Pr × Int)) : Prop := Recs encRp 3 d0Rp w A n L
theorem encRp_len (p : Pr × Int) : (encRp p).length = 3 := rfl
theorem encRp_one (p : Pr × Int) : ∀ u ∈ encRp p, u.oneCell' = true := by
  intro u hu
  simp [encRp] at hu
  rcases hu with rfl | rfl | rfl <;> rfl
theorem infoRp : (Try.prog.info? 143).map (·.size) = some 3 := by kernel_rfl
theorem aggRp (w : World) : (isAgg 143).run Try.prog w = .ok true w := by kernel_rfl
theorem zeroRp (w : World) : (zeroValue 143).run Try.prog w = .ok (.agg #[.int .i64 0, .int .i64 0, .int .i64 0]) w := by kernel_rfl
theorem recRp : RecT Try.prog 60 143 3 24 := RecT.of Try.underlying60 (by kernel_rfl) (by decide)
theorem Recs.oneP (w : World) (a b c : Int) : RecsP (w.alloc (.cells #[.int .i64 a, .int .i64 b, .int .i64 c] 143)) (some ⟨w.heap.size, 0, none⟩) 1 [((a, b), c)] :=
  ⟨rfl, fun _ => ⟨w.heap.size, 0, rfl, by simp, fun i hi j v hv => by
    obtain rfl : i = 0 := by omega
    rw [Nat.zero_mul, Nat.zero_add, Nat.zero_add]
    refine (Blk.new w _ _).cell j |>.trans ?_
    simpa [encRp] using hv⟩⟩
theorem aput_set {L : List (Pr × Int)} (hn : keysNodup L) {k : Nat} (hk : k < L.length) {x : Pr} {t v : Int} (he : L.getD k d0Rp = (x, t)) : aput L x v = L.set k (x, v) ∧ aget L x = some t := by
  have hm : (x, t) ∈ L := by rw [← he]; exact getD_mem' hk
  have hg := aget_of_mem hn hm
  refine ⟨?_, hg⟩
  unfold aput
  rw [hg, if_pos (show (some t).isSome = true from rfl)]
  refine List.ext_getElem (by simp) fun i h1 h2 => ?_
  simp only [List.length_map] at h1
  rw [List.getElem_map, List.getElem_set]
  by_cases hik : k = i
  · subst hik
    rw [if_pos rfl]
    have : (L[k]'hk) = (x, t) := by rw [← he]; simp [List.getD, List.getElem?_eq_getElem hk]
    rw [this, if_pos rfl]
  · rw [if_neg hik, if_neg]
    intro hx
    apply hik
    have h3 : (L.map (·.1))[i]'(by simpa using h1) = (L.map (·.1))[k]'(by simpa using hk) := by
      rw [List.getElem_map, List.getElem_map, hx]
      have : (L[k]'hk) = (x, t) := by rw [← he]; simp [List.getD, List.getElem?_eq_getElem hk]
      rw [this]
    exact ((List.getElem_inj hn).1 h3).symm
theorem aget_miss {L : List (Pr × Int)} {x : Pr} (h : ∀ j, j < L.length → (L.getD j d0Rp).1 ≠ x) : aget L x = none := by
  rw [aget_none_iff]
  intro p hp
  obtain ⟨j, hj, rfl⟩ := List.mem_iff_getElem.1 hp
  have := h j hj
  simpa [List.getD, List.getElem?_eq_getElem hj] using this

theorem OwnR.addr {α : Type} {enc : α → List Value} {K : Nat} {w : World} {base e : Nat} {A : Option Addr} {n c : Nat} {xs : List α} (h : OwnR enc K w base e (.slice A n c) xs) (hp : 0 < xs.length) : ∃ g, A = some ⟨g, 0, none⟩ := by
  rcases h.2 with ⟨h', h0⟩ | ⟨g', cap, cur, h', _⟩
  · omega
  · cases h'
    exact ⟨g', rfl⟩
/-- What 'note' answers: the list behind it, in the old slice or in a new one; an error's number. -/
def Note08 (w : World) (L : List (Pr × Int)) (y z u : Int) (e : Ending) (w' : World) : Prop :=
  ∃ A n c, e = .returned (.tuple #[.slice A n c, .int .i64 (noteE y z u)]) ∧ RecsP w' A n (noteP L y z u) ∧ n ≤ c ∧ c ≤ maxLen ∧ Chg (fun _ => False) w w'
section
variable {w w' : World} {A : Option Addr} {n c : Nat} {L : List (Pr × Int)} {x y z u r : Int}
theorem note08_same (h : noteE y z u = r) (h0 : ¬ r = 0) (hl : RecsP w A n L) (hnc : n ≤ c) (hc : c ≤ maxLen) (hch : Chg (fun _ => False) w w') : Note08 w L y z u (.returned (.tuple #[.slice A n c, .int .i64 r])) w' := by
  subst h
  refine ⟨A, n, c, rfl, ?_, hnc, hc, hch⟩
  unfold noteP
  rw [if_neg h0]
  exact hl.new hch
theorem note08_new {L' : List (Pr × Int)} {base : Nat} {v : Value} (h : noteE y z u = 0) (hL : noteP L y z u = L') (ho : OwnR encRp 3 w' base 143 v L') (hch : Chg (fun _ => False) w w') : Note08 w L y z u (.returned (.tuple #[v, .int .i64 0])) w' := by
  subst hL
  obtain ⟨A', c', rfl, h1, h2, h3, _⟩ := ho.slice
  exact ⟨A', _, c', by rw [h], ho.recs encRp_len rfl, h1, h2, hch⟩

set_option maxRecDepth 100000 in
set_option maxHeartbeats 16000000 in
theorem note08_calls (hl : RecsP w A n L) (hnc : n ≤ c) (hcm : c ≤ maxLen) (hn : n ≤ 1000) (hnd : keysNodup L) (oy : okI y) (oz : okI z) (ou : okI u) :
    Calls Try.prog 59 #[.slice A n c, .agg #[.int .i64 x, .int .i64 y, .int .i64 z, .int .i64 u]] w (Note08 w L y z u) := by
  have HL := hideIt hl
  have HLN := hideIt hl.len
  have HND := hideIt hnd
  have HCM := hideIt hcm
  obtain ⟨y1, y2⟩ := okI_iff.1 oy
  obtain ⟨z1, z2⟩ := okI_iff.1 oz
  obtain ⟨u1, u2⟩ := okI_iff.1 ou
  clear hl hnd hcm
  go_enter Try.func59, Try.ntmps59
  go_wp2
  go_loop [17] (fun i => ∃ k : Nat, k ≤ 2 ∧ i = .int .i64 k ∧ Hid ((1 ≤ k → 1 ≤ y ∧ y ≤ 4294967296) ∧ (2 ≤ k → 1 ≤ z ∧ z ≤ 4294967296))) (fun i => 2 - (intOf i).toNat)
  case atStart => exact ⟨0, by omega, rfl, hideIt ⟨by omega, by omega⟩⟩
  case round =>
    obtain ⟨k, hk, rfl, hyz⟩ := hrel
    have hC : Chg (fun _ => False) w ((w.alloc (.cells #[.int .i64 x, .int .i64 y, .int .i64 z, .int .i64 u] 62)).alloc (.cells #[.int .i64 y, .int .i64 z] 3)) := ((Chg.refl _ w).alloc _).alloc _
    have HC := hideIt hC
    clear hC
    by_cases k0 : k = 0
    · subst k0
      by_cases q1 : y < 1
      · have HE := hideIt (show noteE y z u = 10 by unfold noteE; rw [if_pos (by left; omega)])
        go_wp2
        go_ret2
        exact note08_same HE.out (by decide) HL.out hnc HCM.out HC.out
      · by_cases q2 : 4294967296 < y
        · have HE := hideIt (show noteE y z u = 10 by unfold noteE; rw [if_pos (by right; left; omega)])
          go_wp2
          go_ret2
          exact note08_same HE.out (by decide) HL.out hnc HCM.out HC.out
        · have HY := hideIt (show (1 ≤ 1 → 1 ≤ y ∧ y ≤ 4294967296) ∧ (2 ≤ 1 → 1 ≤ z ∧ z ≤ 4294967296) by omega)
          go_wp2
          exact ⟨⟨1, by omega, by go_num, HY⟩, by simp [intOf]⟩
    · by_cases k1 : k = 1
      · subst k1
        have hy := hyz.out.1 (by omega)
        by_cases q1 : z < 1
        · have HE := hideIt (show noteE y z u = 10 by unfold noteE; rw [if_pos (by left; omega)])
          clear hy
          go_wp2
          go_ret2
          exact note08_same HE.out (by decide) HL.out hnc HCM.out HC.out
        · by_cases q2 : 4294967296 < z
          · have HE := hideIt (show noteE y z u = 10 by unfold noteE; rw [if_pos (by right; left; omega)])
            clear hy
            go_wp2
            go_ret2
            exact note08_same HE.out (by decide) HL.out hnc HCM.out HC.out
          · have HY := hideIt (show (1 ≤ 2 → 1 ≤ y ∧ y ≤ 4294967296) ∧ (2 ≤ 2 → 1 ≤ z ∧ z ≤ 4294967296) by omega)
            clear hy
            go_wp2
            exact ⟨⟨2, by omega, by go_num, HY⟩, by simp [intOf]⟩
      · obtain rfl : k = 2 := by omega
        obtain ⟨hy, hz⟩ : (1 ≤ y ∧ y ≤ 4294967296) ∧ 1 ≤ z ∧ z ≤ 4294967296 := ⟨hyz.out.1 (by omega), hyz.out.2 (by omega)⟩
        by_cases q1 : u < 0
        · have HE := hideIt (show noteE y z u = 10 by unfold noteE; rw [if_pos (by right; right; left; omega)])
          go_wp2
          go_ret2
          exact note08_same HE.out (by decide) HL.out hnc HCM.out HC.out
        by_cases q2 : 1099511627776 < u
        · have HE := hideIt (show noteE y z u = 10 by unfold noteE; rw [if_pos (by right; right; right; omega)])
          go_wp2
          go_ret2
          exact note08_same HE.out (by decide) HL.out hnc HCM.out HC.out
        by_cases q3 : y = z
        · have HE := hideIt (show noteE y z u = 33 by unfold noteE; rw [if_neg (by omega), if_pos q3])
          subst q3
          go_wp2
          go_ret2
          exact note08_same HE.out (by decide) HL.out hnc HCM.out HC.out
        · have HE := hideIt (show noteE y z u = 0 by unfold noteE; rw [if_neg (by omega), if_neg q3])
          have HP := hideIt (show noteP L y z u = aput L (y, z) (max ((aget L (y, z)).getD 0) u) by unfold noteP; rw [HE.out, if_pos rfl])
          have d3 : (y == z) = false := by simpa using q3
          have HU := hideIt (show 0 ≤ u by omega)
          have N0 : ([] : List (Pr × Int)).length + n ≤ 1000000000 := by simp; omega
          obtain ⟨wa, hwa⟩ : ∃ wa, wa = (w.alloc (.cells #[.int .i64 x, .int .i64 y, .int .i64 z, .int .i64 u] 62)).alloc (.cells #[.int .i64 y, .int .i64 z] 3) := ⟨_, rfl⟩
          have Ta : Blk wa w.heap.size 62 #[.int .i64 x, .int .i64 y, .int .i64 z, .int .i64 u] := by rw [hwa]; exact (Blk.new w _ _).alloc _
          have TA := hideIt Ta
          have ea1 := Ta.cell 1
          have ea2 := Ta.cell 2
          have ea3 := Ta.cell 3
          have SA : w.heap.size + 2 = wa.heap.size := by rw [hwa]; simp
          have HC' := hideIt HC.out
          rw [← hwa] at HC'
          have sa0 := hideIt (show w.heap.size < wa.heap.size by omega)
          rw [← hwa]
          clear hwa Ta HC hyz q3
          go_wp2_with (at_builtin; refine wpList_append_recs (base := wa.heap.size) _ rfl _ _ 60 rfl recRp encRp_len encRp_one rfl (OwnR.empty wa _ _ (Nat.le_refl _)) rfl (HL.out.new ((HC'.out).alloc _)) N0 (by omega) (by simp) ?_; intro v3 w3 o3 g3 q3; have K3 := hideIt (((Chg.refl (fun _ => False) wa).alloc _).grown g3 (fun i e => .inr (by cases e; exact Nat.le_refl _)) : Chg (fun _ => False) wa w3); obtain ⟨A3, c3, hv3, hk3, hm3, hb3, _⟩ := o3.slice; have hn3 : ([] ++ L).length = n := HLN.out; rw [hn3] at hv3; rw [hv3]; rw [hv3] at o3 q3; have O3 : Hid (OwnR encRp 3 w3 wa.heap.size 143 (.slice A3 n c3) L) := hideIt o3; have T3 := hideIt (TA.out.chg K3.out (fun h => h)); clear o3 g3 q3 hv3 hn3 hk3 hm3 hb3 ea1 ea2 ea3)
          go_loopw [49] (fun i wr => ∃ k : Nat, k ≤ n ∧ i = .int .i64 k ∧ Chg (fun _ => False) w3 wr ∧ Hid (∀ j, j < k → (L.getD j d0Rp).1 ≠ (y, z))) (fun i _ => n - (intOf i).toNat)
          case atStart => exact ⟨0, by omega, rfl, Chg.refl _ _, hideIt (by omega)⟩
          case round =>
            obtain ⟨k, hk, rfl, hch, hno⟩ := hrel
            have Or := hideIt (O3.out.new hch)
            have Tr := T3.out.chg hch (fun h => h)
            have TR := hideIt Tr
            have er1 := Tr.cell 1
            have er2 := Tr.cell 2
            have er3 := Tr.cell 3
            clear Tr
            by_cases hlt : k < n
            · have hrecs := OwnR.recs (d := d0Rp) encRp_len Or.out rfl
              obtain ⟨g, rfl⟩ := Or.out.addr (by rw [HLN.out]; omega)
              have hload := hrecs.load (P := Try.prog) hlt 143 infoRp aggRp encRp_len
              obtain ⟨⟨⟨a, b⟩, t⟩, hT⟩ : ∃ t, L.getD k d0Rp = t := ⟨_, rfl⟩
              rw [hT] at hload
              have hl2 : (encRp ((a, b), t)).toArray = #[.int .i64 a, .int .i64 b, .int .i64 t] := rfl
              rw [hl2, Nat.zero_add] at hload
              obtain ⟨w4, s2, t2, k2, z2⟩ := keep_rec (P := Try.prog) wr infoRp (cs := #[.int .i64 0, .int .i64 0, .int .i64 0]) (cs' := #[.int .i64 a, .int .i64 b, .int .i64 t]) rfl rfl (by intro v hv; simp at hv; rcases hv with rfl | rfl | rfl <;> rfl)
              have f0 : w4.cell? ⟨wr.heap.size, 0, none⟩ = some (.int .i64 a) := t2.cell 0
              have f1 : w4.cell? ⟨wr.heap.size, 1, none⟩ = some (.int .i64 b) := t2.cell 1
              have f2 : w4.cell? ⟨wr.heap.size, 2, none⟩ = some (.int .i64 t) := t2.cell 2
              have Tr := TR.out.chg k2 (fun h => h)
              have h41 := Tr.cell 1
              have h42 := Tr.cell 2
              have h43 := Tr.cell 3
              have O4 := hideIt (Or.out.new k2)
              have C4 := hideIt (hch.trans k2)
              have HT := hideIt hT
              clear hl2 hT hrecs t2 k2 z2 Tr er1 er2 er3
              by_cases ha : a = y
              · by_cases hb : b = z
                · have HA := hideIt (aput_set HND.out (by rw [HLN.out]; exact hlt) (x := (y, z)) (t := t) (v := max t u) (by rw [HT.out, ha, hb]))
                  have da : (a == y) = true := by simpa using ha
                  have db : (b == z) = true := by simpa using hb
                  have HAB := hideIt (And.intro ha hb)
                  have hfr := OwnR.free O4.out HLN.out.symm (k * 3 + 2)
                  have hcl : w4.cell? ⟨g, k * 3 + 2, none⟩ = some (.int .i64 t) := by
                    obtain ⟨b', off', e', _, hc'⟩ := (OwnR.recs (d := d0Rp) encRp_len O4.out rfl).at_ (by omega)
                    cases e'
                    have := hc' k hlt 2 (.int .i64 t) (by rw [HT.out]; rfl)
                    simpa using this
                  clear ha hb hno
                  go_wp2_with (first
                    | (refine wpList_loadv _ rfl 143 _ rfl rfl hload ?_)
                    | (refine wpList_allocv _ rfl 143 rfl (zeroRp _) ?_)
                    | (refine wpList_storev _ rfl 143 _ _ rfl rfl rfl s2 ?_))
                  go_ret2
                  have hgb : wa.heap.size ≤ g := O4.out.base_le rfl
                  have hs := OwnR.set_ (d := d0Rp) encRp_len O4.out HLN.out.symm (i := k) (j := 2) (by rw [HLN.out]; exact hlt) (by omega) (.int .i64 (max t u)) ((y, z), max t u) (by rw [HT.out]; obtain ⟨rfl, rfl⟩ := HAB.out; rfl)
                  refine note08_new HE.out ?_ hs ((((HC'.out.trans K3.out).trans C4.out)).setCell (.inr ?_) _)
                  · rw [HP.out, HA.out.2]; exact HA.out.1
                  · show w.heap.size ≤ g
                    have := HC'.out.size; omega
                · have HNO : Hid (∀ j, j < k + 1 → (L.getD j d0Rp).1 ≠ (y, z)) := hideIt (fun j hj => by
                    rcases Nat.lt_or_ge j k with h1 | h1
                    · exact hno.out j h1
                    · obtain rfl : j = k := by omega
                      rw [HT.out]; intro e; injection e with e1 e2; exact hb e2)
                  have da : (a == y) = true := by simpa using ha
                  have db : (b == z) = false := by simpa using hb
                  clear ha hb hno O4
                  go_wp2_with (first
                    | (refine wpList_loadv _ rfl 143 _ rfl rfl hload ?_)
                    | (refine wpList_allocv _ rfl 143 rfl (zeroRp _) ?_)
                    | (refine wpList_storev _ rfl 143 _ _ rfl rfl rfl s2 ?_))
                  go_roundw
                  case rel => exact ⟨k + 1, by omega, by go_num, C4.out, HNO⟩
                  case measure => simp [intOf]; omega
              · have HNO : Hid (∀ j, j < k + 1 → (L.getD j d0Rp).1 ≠ (y, z)) := hideIt (fun j hj => by
                  rcases Nat.lt_or_ge j k with h1 | h1
                  · exact hno.out j h1
                  · obtain rfl : j = k := by omega
                    rw [HT.out]; intro e; injection e with e1 e2; exact ha e1)
                have da : (a == y) = false := by simpa using ha
                clear ha hno O4
                go_wp2_with (first
                  | (refine wpList_loadv _ rfl 143 _ rfl rfl hload ?_)
                  | (refine wpList_allocv _ rfl 143 rfl (zeroRp _) ?_)
                  | (refine wpList_storev _ rfl 143 _ _ rfl rfl rfl s2 ?_))
                go_roundw
                case rel => exact ⟨k + 1, by omega, by go_num, C4.out, HNO⟩
                case measure => simp [intOf]; omega
            · obtain rfl : k = n := by omega
              have HA : Hid (noteP L y z u = L ++ [((y, z), u)]) := hideIt (by
                have hg := aget_miss (L := L) (x := (y, z)) (fun j hj => hno.out j (by rw [← HLN.out]; exact hj))
                rw [HP.out, hg]
                unfold aput
                rw [hg]
                have := HU.out
                simp; omega)
              have N1 : L.length + 1 ≤ 1000000000 := by rw [HLN.out]; omega
              have hsz := hch.size
              have hsz3 := K3.out.size
              have HCC := hideIt ((HC'.out.trans K3.out).trans hch)
              clear hno hch
              go_wp2_with (at_builtin; refine wpList_append_recs (base := wa.heap.size) _ rfl _ _ 60 rfl recRp encRp_len encRp_one rfl (Or.out.alloc _) rfl (Recs.oneP wr y z u) N1 (by omega) (by simp; omega) ?_; intro v5 w5 o5 g5 q5)
              go_ret2
              exact note08_new HE.out HA.out o5 ((HCC.out.alloc _).grown g5 (fun i e => .inr (by have := Or.out.base_le e; have := HC'.out.size; omega)))
end
end Go.Proofs.Ytgmekeeemimnpaa
