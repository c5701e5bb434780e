/- WatchBounds, walked: there are never more than sixteen peers, each once. (Printed by wip/gen/wbounds.py.) -/
import Derived.Test.YtgmekeeemimnpaaW4
namespace Go.Proofs.Ytgmekeeemimnpaa
open Go Go.Maps Go.MapKept Go.RowKit

theorem addW_cases (L : List (Int × Peer)) (id now : Int) : (addW L id now = (10, L)) ∨ (addW L id now = (32, L)) ∨ (addW L id now = (31, L) ∧ L.length = 16) ∨ (addW L id now = (0, L ++ [(id, (0, false, now))])) := by
  unfold addW
  split
  · exact .inl rfl
  split
  · exact .inr (.inl rfl)
  split
  · rename_i h; exact .inr (.inr (.inl ⟨rfl, h⟩))
  · exact .inr (.inr (.inr rfl))
theorem adel_len {κ α : Type} [DecidableEq κ] {x : κ} : ∀ {L : List (κ × α)}, keysNodup L → (aget L x).isSome = true → (adel L x).length + 1 = L.length
  | [], _, h => by cases h
  | q :: r, hn, h => by
    have hn' : keysNodup r := by unfold keysNodup at hn ⊢; exact (List.nodup_cons.1 (by simpa using hn)).2
    have hq : q.1 ∉ r.map (·.1) := by unfold keysNodup at hn; exact (List.nodup_cons.1 (by simpa using hn)).1
    by_cases he : q.1 = x
    · have hr : adel r x = r := adel_of_not (aget_none_iff.2 fun p hp e => hq (he ▸ e ▸ List.mem_map.2 ⟨p, hp, rfl⟩))
      have : adel (q :: r) x = adel r x := by unfold adel; simp [he]
      rw [this, hr]; rfl
    · have h' : (aget r x).isSome = true := by
        have : aget (q :: r) x = aget r x := by simp [aget, he]
        rw [← this]; exact h
      have : adel (q :: r) x = q :: adel r x := by unfold adel; simp [he]
      rw [this]
      simp [adel_len hn' h']

set_option maxRecDepth 100000 in
set_option maxHeartbeats 16000000 in
theorem watchbounds_calls {gone more : Int} {A : Option Addr} {n c : Nat} {ids : List Int} (w : World) (hv : Ints w A n ids ∧ n ≤ c ∧ c ≤ maxLen) (og : okI gone) (om : okI more) :
    Calls Try.prog 21 #[.slice A n c, .int .i64 gone, .int .i64 more] w fun e w' => e = .returned (.bool true) ∧ Below w.heap.size w w' := by
  have HA := hideIt (anchor09 w)
  obtain ⟨hv, hnc, hcm⟩ := hv
  unfold maxLen at hcm
  have HN := hideIt (fun W (hc : Chg (fun _ => False) w W) => watchNew 2 w W hc (by omega) (by omega))
  have HLEN := hideIt hv.len
  have HV := hideIt hv
  clear hv
  by_cases q0 : 100 < n
  · go_enter Try.func21, Try.ntmps21
    go_wp2_with (first
      | (go_at_call 48; refine HA.out.mono ?_; rintro e w1 ⟨rfl, c1⟩)
      | (go_at_call 49; refine (HN.out w1 c1).mono ?_; rintro e w2 ⟨b, rfl, b2, _, _⟩))
    go_ret
    exact ⟨rfl, b2.below⟩
  go_enter Try.func21, Try.ntmps21
  go_wp2_with fail
  refine HA.out.mono ?_
  rintro e w1 ⟨rfl, c1⟩
  go_wp2_with fail
  refine (HN.out w1 c1).mono ?_
  rintro e w2 ⟨b, rfl, b2, _, _⟩
  go_wp2_with fail
  go_loopw [9, 31] (fun m i wr => ∃ (k : Nat) (L : List (Int × Peer)) (N : Nat), k ≤ n ∧ i = .int .i64 k ∧ m = .int .i64 N ∧ L.length = N ∧ WatB w wr b 2 L) (fun _ i _ => n - (intOf i).toNat)
  case atStart => exact ⟨0, [], 0, Nat.zero_le _, rfl, rfl, rfl, b2⟩
  case round =>
    obtain ⟨k, L, N, hk, rfl, rfl, hl, hb⟩ := hrel
    have HL := hideIt hl
    have hl16 : N ≤ 16 := by rw [← hl]; exact hb.wok.1
    clear hl
    by_cases hlt : k < n
    · obtain ⟨p, off, rfl, hbl, hcell⟩ := HV.out.at_ (by omega)
      have hx : wr.cell? ⟨p, off + k, none⟩ = some (.int .i64 (ids.getD k 0)) := (hb.2.2.2.cell (p := ⟨p, off + k, none⟩) hbl (fun h => h)).trans (hcell k hlt)
      have hok : okI (ids.getD k 0) := HV.out.ok _ (getD_mem (by rw [HLEN.out]; exact hlt))
      obtain ⟨x, hT⟩ : ∃ t, ids.getD k 0 = t := ⟨_, rfl⟩
      rw [hT] at hx hok
      clear hT hcell
      rcases addW_cases L x 0 with hp | hp | ⟨hp, h16⟩ | hp
      · have HP := hideIt hp
        have HNL : Hid ((sortI (L.map (·.1))).length = N) := hideIt (by rw [sortI_len, List.length_map]; exact HL.out)
        have HLL := HL
        clear hp
        go_wp2_with (first
          | (go_at_call 50; refine (hb.add x 0 hok _ _ HP.out).mono ?_; rintro e w5 ⟨rfl, b5⟩)
          | (go_at_call 69; refine (b5.peers _ rfl N HNL.out).mono ?_; rintro e w6 ⟨A6, n6, rfl, i6, a6, b6, c6⟩))
        go_roundw
        case rel => exact ⟨k + 1, _, N, by omega, by go_num, by go_num, HLL.out, b6⟩
        case measure => simp [intOf]; omega
      · have HP := hideIt hp
        have HNL : Hid ((sortI (L.map (·.1))).length = N) := hideIt (by rw [sortI_len, List.length_map]; exact HL.out)
        have HLL := HL
        clear hp
        go_wp2_with (first
          | (go_at_call 50; refine (hb.add x 0 hok _ _ HP.out).mono ?_; rintro e w5 ⟨rfl, b5⟩)
          | (go_at_call 69; refine (b5.peers _ rfl N HNL.out).mono ?_; rintro e w6 ⟨A6, n6, rfl, i6, a6, b6, c6⟩))
        go_roundw
        case rel => exact ⟨k + 1, _, N, by omega, by go_num, by go_num, HLL.out, b6⟩
        case measure => simp [intOf]; omega
      · have hN : N = 16 := by rw [← HL.out]; exact h16
        have hN' : decide ((N : Int) ≠ 16) = false := by simp; omega
        have hz : ((N : Int) == 16) = true := by simp; omega
        have hz2 : ((N : Int) != 16) = false := by simp; omega
        clear h16
        have HP := hideIt hp
        have HNL : Hid ((sortI (L.map (·.1))).length = N) := hideIt (by rw [sortI_len, List.length_map]; exact HL.out)
        have HLL := HL
        clear hp
        go_wp2_with (first
          | (go_at_call 50; refine (hb.add x 0 hok _ _ HP.out).mono ?_; rintro e w5 ⟨rfl, b5⟩)
          | (go_at_call 69; refine (b5.peers _ rfl N HNL.out).mono ?_; rintro e w6 ⟨A6, n6, rfl, i6, a6, b6, c6⟩))
        go_roundw
        case rel => exact ⟨k + 1, _, N, by omega, by go_num, by go_num, HLL.out, b6⟩
        case measure => simp [intOf]; omega
      · have HP := hideIt hp
        have hk5 := (hb.wok.add (id := x) (now := 0)).1
        rw [hp] at hk5
        have HLL : Hid ((L ++ [(x, ((0 : Int), false, (0 : Int)))]).length = N + 1) := hideIt (by rw [List.length_append, HL.out]; rfl)
        have HNL : Hid ((sortI ((L ++ [(x, ((0 : Int), false, (0 : Int)))]).map (·.1))).length = N + 1) := hideIt (by rw [sortI_len, List.length_map]; exact HLL.out)
        have hN16 : N + 1 ≤ 16 := by have h1 := HLL.out; simp only at hk5; omega
        clear hp hk5
        go_wp2_with (first
          | (go_at_call 50; refine (hb.add x 0 hok _ _ HP.out).mono ?_; rintro e w5 ⟨rfl, b5⟩)
          | (go_at_call 69; refine (b5.peers _ rfl (N + 1) HNL.out).mono ?_; rintro e w6 ⟨A6, n6, rfl, i6, a6, b6, c6⟩))
        go_roundw
        case rel => exact ⟨k + 1, _, (N + 1), by omega, by go_num, by go_num, HLL.out, b6⟩
        case measure => simp [intOf]; omega
    · obtain rfl : k = n := by omega
      by_cases h16 : N < 16
      · go_wp2
        go_ret
        exact ⟨rfl, hb.below⟩
      · have hN : N = 16 := by omega
        subst hN
        cases hs : (aget L gone).isSome with
        | false =>
          have HS := hideIt hs
          clear hs
          go_wp2_with (go_at_call 70; refine (hb.remove gone og _ _ HS.out rfl).mono ?_; rintro e w5 ⟨rfl, b5⟩)
          go_ret
          exact ⟨rfl, b5.below⟩
        | true =>
          have HS := hideIt hs
          have H15 : Hid ((adel L gone).length = 15) := hideIt (by have := adel_len hb.wok.2.1 hs; have := HL.out; omega)
          have HN15 : Hid ((sortI ((adel L gone).map (·.1))).length = 15) := hideIt (by rw [sortI_len, List.length_map]; exact H15.out)
          clear hs
          rcases addW_cases (adel L gone) more 5 with hp | hp | ⟨hp, hx16⟩ | hp
          · have HP := hideIt hp
            clear hp
            go_wp2_with (first
              | (go_at_call 70; refine (hb.remove gone og _ _ HS.out rfl).mono ?_; rintro e w5 ⟨rfl, b5⟩)
              | (go_at_call 50; refine (b5.add more 5 om _ _ HP.out).mono ?_; rintro e w6 ⟨rfl, b6⟩)
              | (go_at_call 69; refine (b6.peers _ rfl 15 HN15.out).mono ?_; rintro e w7 ⟨A7, n7, rfl, i7, a7, b7, c7⟩))
            go_ret
            exact ⟨rfl, b7.below⟩
          · have HP := hideIt hp
            clear hp
            go_wp2_with (first
              | (go_at_call 70; refine (hb.remove gone og _ _ HS.out rfl).mono ?_; rintro e w5 ⟨rfl, b5⟩)
              | (go_at_call 50; refine (b5.add more 5 om _ _ HP.out).mono ?_; rintro e w6 ⟨rfl, b6⟩)
              | (go_at_call 69; refine (b6.peers _ rfl 15 HN15.out).mono ?_; rintro e w7 ⟨A7, n7, rfl, i7, a7, b7, c7⟩))
            go_ret
            exact ⟨rfl, b7.below⟩
          · have := H15.out; omega
          · have HP := hideIt hp
            have HN16 : Hid ((sortI ((adel L gone ++ [(more, ((0 : Int), false, (5 : Int)))]).map (·.1))).length = 16) := hideIt (by rw [sortI_len, List.length_map, List.length_append, H15.out]; rfl)
            clear hp
            have tok1 : True := trivial
            go_wp2_with (first
              | (go_at_call 70; refine (hb.remove gone og _ _ HS.out rfl).mono ?_; rintro e w5 ⟨rfl, b5⟩)
              | (go_at_call 50; refine (b5.add more 5 om _ _ HP.out).mono ?_; rintro e w6 ⟨rfl, b6⟩)
              | (have _t := tok1; go_at_call 69; refine (b6.peers _ rfl 16 HN16.out).mono ?_; rintro e w7 ⟨A7, n7, rfl, i7, a7, b7, c7⟩; clear tok1 _t b6)
              | (go_at_call 69; refine (b7.peers _ rfl 16 HN16.out).mono ?_; rintro e w8 ⟨A8, n8, rfl, i8, a8, b8, c8⟩))
            go_ret
            exact ⟨rfl, b8.below⟩
end Go.Proofs.Ytgmekeeemimnpaa
