/- Layer 15's twin, walked: may, gave. -/
import Derived.Test.YtgmekeeemimnpaaBP2
import Derived.Deep.RegionLaw
namespace Go.Proofs.Ytgmekeeemimnpaa
open Go Go.Maps Go.MapKept Go.RowKit

/-! ### lists side by side -/
theorem getD_cons_succ (a : Int) (l : List Int) (j : Nat) : (a :: l).getD (j + 1) 0 = l.getD j 0 := rfl
theorem aget_zip_at {x : Int} : ∀ {ws ts : List Int} {k : Nat}, ws.length = ts.length → k < ws.length → (∀ j, j < k → ws.getD j 0 ≠ x) → ws.getD k 0 = x → aget (ws.zip ts) x = some (ts.getD k 0)
  | [], _, k, _, h, _, _ => absurd h (by simp)
  | a :: ws, [], _, h, _, _, _ => by cases h
  | a :: ws, b :: ts, 0, _, _, _, h => by
    have h : a = x := h
    subst h
    simp [aget, List.getD]
  | a :: ws, b :: ts, k + 1, hl, hk, hj, h => by
    have h0 : a ≠ x := hj 0 (by omega)
    have ih := aget_zip_at (x := x) (ws := ws) (ts := ts) (k := k) (by simpa using hl) (by simpa using hk) (fun j hj' => by have := hj (j + 1) (by omega); rwa [getD_cons_succ] at this) h
    unfold aget at ih ⊢
    rw [List.zip_cons_cons, List.find?_cons]
    simp only [h0, decide_false, getD_cons_succ]
    exact ih
theorem aget_zip_none {x : Int} {ws ts : List Int} (h : ∀ j, j < ws.length → ws.getD j 0 ≠ x) : aget (ws.zip ts) x = none := by
  rw [aget_none_iff]
  intro p hp
  obtain ⟨a, b⟩ := p
  have h1 := (List.of_mem_zip hp).1
  obtain ⟨j, hj, rfl⟩ := List.mem_iff_getElem.1 h1
  have := h j hj
  rwa [getD_get ws j hj] at this
theorem keys_zip {ws ts : List Int} (h : ws.length = ts.length) : (ws.zip ts).map (·.1) = ws := List.map_fst_zip (by omega)
theorem aput_zip_at {x v : Int} {ws ts : List Int} {k : Nat} (hn : ws.Nodup) (hl : ws.length = ts.length) (hk : k < ws.length) (hj : ∀ j, j < k → ws.getD j 0 ≠ x) (h : ws.getD k 0 = x) : ws.zip (ts.set k v) = aput (ws.zip ts) x v := by
  unfold aput
  rw [aget_zip_at hl hk hj h, if_pos (show (some (ts.getD k 0)).isSome = true from rfl)]
  refine List.ext_getElem (by simp) fun i h1 h2 => ?_
  simp only [List.length_zip, List.length_set] at h1
  rw [List.getElem_map, List.getElem_zip, List.getElem_zip, List.getElem_set]
  rw [getD_get ws k hk] at h
  by_cases hik : k = i
  · subst hik
    rw [if_pos rfl, if_pos h, h]
  · rw [if_neg hik, if_neg]
    intro hx
    exact hik ((List.getElem_inj hn).1 (h.trans hx.symm))
theorem aput_zip_new {x v : Int} {ws ts : List Int} (hl : ws.length = ts.length) (hj : ∀ j, j < ws.length → ws.getD j 0 ≠ x) : (ws ++ [x]).zip (ts ++ [v]) = aput (ws.zip ts) x v := by
  unfold aput
  rw [aget_zip_none hj, if_neg (by simp), List.zip_append hl]
  rfl
theorem not_mem_getD {x : Int} {ws : List Int} (hj : ∀ j, j < ws.length → ws.getD j 0 ≠ x) : x ∉ ws := by
  intro hm
  obtain ⟨j, hj', rfl⟩ := List.mem_iff_getElem.1 hm
  exact hj j hj' (getD_get ws j hj')

/-- A twin's state within bounds. -/
structure TwOk (s : TwSt) (m : Nat) : Prop where
  vs_ok : ∀ x ∈ s.vs, okI x
  ys_ok : ∀ x ∈ s.ys, okI x
  ws_ok : ∀ x ∈ s.ws, okI x
  ts_ok : ∀ x ∈ s.ts, 0 ≤ x ∧ x ≤ 1099511627776
  len : s.ws.length = s.ts.length
  small : s.ws.length ≤ m
  vl : s.vs.length ≤ 100
  yl : s.ys.length ≤ m
  nd : s.ws.Nodup
theorem TwOk.ts_okI {s : TwSt} {m : Nat} (h : TwOk s m) : ∀ x ∈ s.ts, okI x := fun x hx => by
  have := h.ts_ok x hx
  exact okI_iff.2 (by omega)

set_option maxRecDepth 100000 in
set_option maxHeartbeats 8000000 in
theorem tmay_calls {base t : Nat} {F : Nat → Prop} {s : TwSt} {m : Nat} {master now to : Int} (w : World) (h : Twin w base F t s) (hs : TwOk s m) (hm : m ≤ 1000) (n1 : -1125899906842624 ≤ now) (n2 : now ≤ 1125899906842624) (t1 : 2 ≤ to) (t2 : to ≤ 1073741824) :
    Calls Try.prog 81 #[.pointer (some ⟨t, 0, none⟩), .int .i64 master, .int .i64 now, .int .i64 to] w fun e w' => e = .returned (.bool (mayB to (s.ws.zip s.ts) master now)) ∧ w = w' := by
  obtain ⟨⟨v1, v2, v3, v4, hb, ho⟩, -, -, -⟩ := h
  have c5 : w.cell? ⟨t, 5, none⟩ = some v3 := hb.cell 5
  have c6 : w.cell? ⟨t, 6, none⟩ = some v4 := hb.cell 6
  obtain ⟨A3, k3, rfl, -, -, -⟩ := ho.o3.slice
  obtain ⟨A4, k4, rfl, -, -, -⟩ := ho.o4.slice
  have I3 := ho.o3.ints hs.ws_ok rfl
  have I4 := ho.o4.ints hs.ts_okI rfl
  obtain ⟨n, hn⟩ : ∃ n, s.ws.length = n := ⟨_, rfl⟩
  have hn' : s.ts.length = n := by rw [← hs.len]; exact hn
  rw [hn'] at c6 I4
  rw [hn] at c5 I3
  have HN := hideIt hn
  have HN' := hideIt hn'
  have HI3 := hideIt I3
  have HI4 := hideIt I4
  have HS := hideIt hs
  have hn1 : n ≤ 1000 := by rw [← hn]; exact Nat.le_trans hs.small hm
  clear hn hn' I3 I4 hs ho hb
  go_enter Try.func81, Try.ntmps81
  go_wp2
  go_loop [16] (fun i => ∃ k : Nat, k ≤ n ∧ i = .int .i64 k ∧ Hid (∀ j, j < k → s.ws.getD j 0 ≠ master)) (fun i => n - (intOf i).toNat)
  case atStart => exact ⟨0, by omega, rfl, hideIt (by omega)⟩
  case round =>
    obtain ⟨k, hk, rfl, hno⟩ := hrel
    by_cases hlt : k < n
    · obtain ⟨b3, off3, rfl, _, hc3⟩ := HI3.out.at_ (by omega)
      obtain ⟨b4, off4, rfl, _, hc4⟩ := HI4.out.at_ (by omega)
      have x3 := hc3 k hlt
      have x4 := hc4 k hlt
      obtain ⟨y, hy⟩ : ∃ y, s.ws.getD k 0 = y := ⟨_, rfl⟩
      obtain ⟨z, hz⟩ : ∃ z, s.ts.getD k 0 = z := ⟨_, rfl⟩
      rw [hy] at x3
      rw [hz] at x4
      have hzb := HS.out.ts_ok _ (getD_mem (xs := s.ts) (k := k) (by rw [HN'.out]; exact hlt))
      rw [hz] at hzb
      obtain ⟨z1, z2⟩ := hzb
      have HY := hideIt hy
      have HZ := hideIt hz
      clear hc3 hc4 hy hz
      by_cases he : y = master
      · have de : (y == master) = true := by simpa using he
        have hA : aget (s.ws.zip s.ts) master = some z := by
          rw [← HZ.out]
          exact aget_zip_at HS.out.len (by rw [HN.out]; exact hlt) hno.out (by rw [HY.out, he])
        have hB : mayB to (s.ws.zip s.ts) master now = decide (z < now ∧ 2 * to < now - z) := by unfold mayB; rw [hA]
        clear he hA
        by_cases h1 : z < now
        · by_cases h2 : 2 * to < now - z
          · have H : Hid (mayB to (s.ws.zip s.ts) master now = true) := hideIt (by rw [hB]; simp [h1, h2])
            clear hB hno
            go_wp2
            go_ret
            exact ⟨ret_bool H.out.symm, rfl⟩
          · have H : Hid (mayB to (s.ws.zip s.ts) master now = false) := hideIt (by rw [hB]; simp [h2])
            clear hB hno
            go_wp2
            go_ret
            exact ⟨ret_bool H.out.symm, rfl⟩
        · have H : Hid (mayB to (s.ws.zip s.ts) master now = false) := hideIt (by rw [hB]; simp [h1])
          clear hB hno
          go_wp2
          go_ret
          exact ⟨ret_bool H.out.symm, rfl⟩
      · have de : (y == master) = false := by simpa using he
        have HNO : Hid (∀ j, j < k + 1 → s.ws.getD j 0 ≠ master) := hideIt (fun j hj => by
          rcases Nat.lt_or_ge j k with h1 | h1
          · exact hno.out j h1
          · obtain rfl : j = k := by omega
            rw [HY.out]; exact he)
        clear he hno
        go_wp2
        exact ⟨⟨k + 1, by omega, by go_num, HNO⟩, by simp [intOf]; omega⟩
    · obtain rfl : k = n := by omega
      have H : Hid (mayB to (s.ws.zip s.ts) master now = true) := hideIt (by
        unfold mayB
        rw [aget_zip_none (fun j hj => hno.out j (by rw [HN.out] at hj; exact hj))])
      clear hno
      go_wp2
      go_ret
      exact ⟨ret_bool H.out.symm, rfl⟩

/-- What 'gave' leaves. -/
def TGave (w : World) (base : Nat) (F : Nat → Prop) (t : Nat) (s : TwSt) (m : Nat) (master now : Int) (e : Ending) (w' : World) : Prop :=
  e = .returned (.int .i64 0) ∧ ∃ ws' ts', ws'.zip ts' = aput (s.ws.zip s.ts) master now ∧ Twin w' base F t { s with ws := ws', ts := ts' } ∧ TwOk { s with ws := ws', ts := ts' } (m + 1) ∧ Chg (fun i => ¬ F i ∧ base ≤ i) w w'
section
variable {base t : Nat} {F : Nat → Prop} {s : TwSt} {m : Nat} {master now : Int}
set_option maxHeartbeats 4000000 in
theorem tgave_no (w : World) (h : gaveB master now = false) :
    Calls Try.prog 80 #[.pointer (some ⟨t, 0, none⟩), .int .i64 master, .int .i64 now] w fun e w' => e = .returned (.int .i64 10) ∧ w = w' := by
  have hways : master < 1 ∨ 4294967296 < master ∨ now < 0 ∨ 1099511627776 < now := by
    unfold gaveB timeB at h
    simp only [Bool.and_eq_false_iff, decide_eq_false_iff_not] at h
    omega
  clear h
  by_cases h1 : master < 1
  · clear hways
    go_enter Try.func80, Try.ntmps80
    go_wp2
    go_ret
    exact ⟨rfl, rfl⟩
  by_cases h2 : 4294967296 < master
  · clear hways
    go_enter Try.func80, Try.ntmps80
    go_wp2
    go_ret
    exact ⟨rfl, rfl⟩
  by_cases h3 : now < 0
  · clear hways
    go_enter Try.func80, Try.ntmps80
    go_wp2
    go_ret
    exact ⟨rfl, rfl⟩
  · have h4 : 1099511627776 < now := by omega
    clear hways
    go_enter Try.func80, Try.ntmps80
    go_wp2
    go_ret
    exact ⟨rfl, rfl⟩
end
end Go.Proofs.Ytgmekeeemimnpaa
