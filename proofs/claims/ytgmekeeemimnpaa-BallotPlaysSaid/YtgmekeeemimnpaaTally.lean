/- The tally's Voters and Granted, walked. -/
import Derived.Test.YtgmekeeemimnpaaLayD
import Derived.Test.YtgmekeeemimnpaaKeys
import Derived.Test.YtgmekeeemimnpaaQ1
namespace Go.Proofs.Ytgmekeeemimnpaa
open Go Go.Maps Go.MapKept Go.RowKit Go.Sort Go.Shelf

section
variable {p m : Nat} {L : List (Int × Bool)} (w : World)
set_option maxHeartbeats 1000000 in
theorem voters_calls (h : TallyAt w p m L) : Calls Try.prog 107 #[.pointer (some ⟨p, 0, none⟩)] w (KeysIs w (L.map (·.1))) := by
  have c0 : w.cell? ⟨p, 0, none⟩ = some (.map (some m)) := h.blk.cell 0
  have hs := h.small
  have HK := hideIt (keysB_calls (b := m) w)
  have HS := hideIt (sortedB_calls w h.map (by omega))
  clear hs h
  go_enter Try.func107, Try.ntmps107
  go_wp2_with (first
    | (go_at_call 123; refine HK.out.mono ?_; rintro e w1 ⟨rfl, rfl⟩)
    | (go_at_call 109; refine HS.out.mono ?_; rintro e w1 ⟨A, n, c, rfl, ho, hc⟩))
  go_ret
  exact ⟨A, n, c, rfl, ho.low (by simp), ((Chg.refl _ w).alloc _).trans hc⟩
end

/-- An int that is one. -/
abbrev OkInt := { x : Int // okI x }
instance : Inhabited OkInt := ⟨⟨0, okI_iff.2 (by omega)⟩⟩
def encO (x : OkInt) : Value := .int .i64 x.1
/-- Doesn't somebody count? -/
def notYes (L : List (Int × Bool)) (x : Int) : Bool := !((aget L x).getD false)
set_option maxHeartbeats 1000000 in
theorem granted1_calls {p m B : Nat} {L : List (Int × Bool)} (x : Int) (w : World) (hx : okI x) (hB : w.cell? ⟨B, 0, none⟩ = some (.pointer (some ⟨p, 0, none⟩))) (hp : w.cell? ⟨p, 0, none⟩ = some (.map (some m))) (hm : MapIs (Value.int .i64) Value.bool okI w m L) :
    Calls Try.prog 125 #[.int .i64 x, .pointer (some ⟨B, 0, none⟩)] w fun e w' => e = .returned (.bool (notYes L x)) ∧ w = w' := by
  have hl := hm.look encInt Try.underlying116 (zeroBool w) hx false
  have hv : ((aget L x).map Value.bool).getD (.bool false) = .bool ((aget L x).getD false) := by cases aget L x <;> rfl
  rw [hv] at hl
  simp only [Bool.false_eq_true, if_false] at hl
  have H : Hid (notYes L x = !((aget L x).getD false)) := hideIt rfl
  obtain ⟨r, hr⟩ : ∃ r, (aget L x).getD false = r := ⟨_, rfl⟩
  rw [hr] at hl H
  clear hr hv hm
  go_enter Try.func125, Try.ntmps125
  go_wp2
  go_ret
  exact ⟨ret_bool H.out.symm, rfl⟩

theorem put_block {α : Type} [Inhabited α] (enc : α → Value) {w : World} {g : Nat} {cur : Array Value} {e : TypeId} (hb : w.heap[g]? = some (.cells cur e (0, 0))) (n : Nat) (d : Array α) : (putRow enc (Sort.ahead w n) g 0 d).heap[g]? = some (.cells (putCells enc 0 d cur) e (0, 0)) := by
  simp [putRow, mapBlock, Sort.ahead, Array.getElem?_modify, hb, onCells]
theorem put_chg {α : Type} [Inhabited α] (enc : α → Value) (w : World) (g n : Nat) (d : Array α) : Chg (fun i => i = g) w (putRow enc (Sort.ahead w n) g 0 d) := by
  refine ⟨rfl, rfl, rfl, by simp, fun k _ hne => ?_⟩
  have : g ≠ k := fun e => hne e.symm
  simp [putRow, mapBlock, Sort.ahead, Array.getElem?_modify, this]
theorem grow_chg {S : Nat → Prop} {w w' : World} (h : Chg S w w') (os : Array Obj) : Chg S w (grow w' os) :=
  h.trans' (T := fun _ => False) ⟨rfl, rfl, rfl, by show w'.heap.size ≤ (w'.heap ++ os).size; rw [Array.size_append]; omega, fun _ hj _ => Sort.heap_grow_old w' os hj⟩ (fun _ h => h.elim)
theorem okints : ∀ {xs : List Int}, (∀ x ∈ xs, okI x) → ∃ ys : List OkInt, ys.map (·.1) = xs
  | [], _ => ⟨[], rfl⟩
  | x :: xs, h => by
    obtain ⟨ys, e⟩ := okints (xs := xs) (fun y hy => h y (List.mem_cons_of_mem _ hy))
    exact ⟨⟨x, h x (List.mem_cons_self ..)⟩ :: ys, by simp [e]⟩
theorem encO_one : OneCell encO := fun _ => rfl
theorem take_put {α : Type} [Inhabited α] (enc : α → Value) (cur : Array Value) (d : Array α) (k : Nat) (h1 : k ≤ d.size) (h2 : d.size ≤ cur.size) : (putCells enc 0 d cur).toList.take k = (d.toList.take k).map enc := by
  apply List.ext_getElem?
  intro j
  by_cases hj : j < k
  · rw [List.getElem?_take_of_lt hj, Array.getElem?_toList, List.getElem?_map, List.getElem?_take_of_lt hj]
    have h3 : j < d.size := by omega
    simp [putCells, h3, show j < cur.size by omega]
  · rw [List.getElem?_take_eq_none (by omega), List.getElem?_eq_none (by simp; omega)]
def DelIs (w : World) (base : Nat) (S : Nat → Prop) (xs : List Int) (e : Ending) (w' : World) : Prop := ∃ A n c, e = .returned (.slice A n c) ∧ OwnI w' base 3 (.slice A n c) xs ∧ Chg S w w'
theorem calls_del {w : World} {base : Nat} {v : Value} {xs : List Int} (h : OwnI w base 3 v xs) (hok : ∀ x ∈ xs, okI x) (hx : 0 < xs.length) (h64 : xs.length ≤ 1000000) (g : Nat) (cb : Array Value) (q : Int → Bool) (eg : ∀ args w, (callFunc g args).run Try.prog w = .ok (.enter g args) w)
    (hq : ∀ (W : World) (x : Int), okI x → Chg (fun i => v.ownBlock = some i) w W → Calls Try.prog g (#[.int .i64 x] ++ cb) W fun e w' => e = .returned (.bool (q x)) ∧ W = w') :
    Calls Try.prog 124 #[v, .func (.func g) #[] cb] w (DelIs w base (fun i => v.ownBlock = some i) (xs.filter fun x => !q x)) := by
  rcases h.2 with ⟨rfl, h0⟩ | ⟨b, cap, cur, rfl, hg, hh, h1, h2, h3, h4⟩
  · omega
  obtain ⟨ys, hys⟩ := okints hok
  have hlen : ys.length = xs.length := by rw [← hys]; simp
  have hgv : ∀ (W : World) (x : OkInt), Chg (fun i => i = b) w W → FnGives Try.prog g cb #[encO x] (.bool (q x.1)) W := fun W x hW =>
    (hq W x.1 x.2 (hW.mono (fun i e => by subst e; rfl))).mono fun e w' he => ⟨he.1, 0, he.2.symm⟩
  have hH : Holds encO w b 0 ys.toArray := by
    intro j hj
    have hj' : j < xs.length := by rw [← hlen]; simpa using hj
    refine ⟨?_, by simp [World.frozen?, hh]⟩
    have h5 := World.ownsRow.cellAt h j (by omega)
    rw [Nat.zero_add, h5]
    simp only [List.getElem?_map]
    rw [← hys]
    simp only [List.getElem?_map]
    have hjy : j < ys.length := by omega
    rw [List.getElem?_eq_getElem hjy]
    simp [encO, hjy]
  have hc := AnyE.slices_DeleteFunc lay_delI encO encO_one (fun x => q x.1) g cb eg default (fun w => by kernel_rfl) b 0 cap ys.toArray w
    (fun W x hb => hgv W x ⟨hb.os, hb.tape, hb.output, hb.size, fun i hi _ => hb.block i hi⟩) (fun n os dk x _ => hgv _ x (grow_chg (put_chg encO w b n dk) os)) hH (by simp; omega) (by simpa using by omega)
  have hys2 : ys.toArray.size = xs.length := by simpa using hlen
  rw [hys2] at hc
  refine hc.mono ?_
  rintro e w' ⟨rfl, n, rfl⟩
  obtain ⟨fil, hfil⟩ : ∃ fil, (ys.toArray.toList.filter fun x => !q x.1) = fil := ⟨_, rfl⟩
  rw [hfil]
  have hfl : fil.length ≤ ys.length := by rw [← hfil]; exact List.length_filter_le _ _
  have hfx : fil.map (·.1) = xs.filter fun x => !q x := by
    rw [← hys, List.filter_map, ← hfil]; rfl
  have hlx : (xs.filter fun x => !q x).length = fil.length := by rw [← hfx, List.length_map]
  have h2' : xs.length ≤ cur.size := by omega
  refine ⟨some ⟨b, 0, none⟩, fil.length, cap, rfl, ?_, (put_chg encO w b n _).mono (fun i e => by subst e; rfl)⟩
  unfold OwnI
  rw [hlx]
  refine ⟨by simp [hlx], .inr ⟨b, cap, _, rfl, hg, put_block encO hh n _, by omega, h2, by simp [putCells, h3], ?_⟩⟩
  rw [Nat.mul_one, take_put encO cur _ fil.length (by simp) (by simp; omega)]
  have e1 : (List.take fil.length (fil ++ List.replicate (xs.length - fil.length) (default : OkInt))) = fil := List.take_left' rfl
  rw [List.toList_toArray, e1, ← hfx, List.map_map]
  rfl

set_option maxHeartbeats 1000000 in
/-- .. of nothing. -/
theorem calls_del_nil {w : World} {base : Nat} {A : Option Addr} {c : Nat} (h : OwnI w base 3 (.slice A 0 c) []) (g : Nat) (cb : Array Value) :
    Calls Try.prog 124 #[.slice A 0 c, .func (.func g) #[] cb] w (DelIs w base (fun i => (Value.slice A 0 c).ownBlock = some i) []) := by
  go_enter Try.func124, Try.ntmps124
  go_wp2
  refine wp_loop_rounds 1 ?_
  rw [rounds_succ]
  go_wp2
  go_ret
  exact ⟨A, 0, c, rfl, h, Chg.refl _ _⟩

section
variable {p m : Nat} {L : List (Int × Bool)} (w : World)
/-- Who has granted, rising. -/
def grantedL (L : List (Int × Bool)) : List Int := (sortI (L.map (·.1))).filter fun x => !notYes L x
theorem keys_ok {w : World} {m : Nat} {L : List (Int × Bool)} (h : MapIs (Value.int .i64) Value.bool okI w m L) : ∀ x ∈ sortI (L.map (·.1)), okI x := by
  intro x hx
  rw [mem_sortI] at hx
  obtain ⟨q, hq, rfl⟩ := List.mem_map.1 hx
  exact h.keyGood q hq
set_option maxHeartbeats 2000000 in
theorem granted_calls (h : TallyAt w p m L) : Calls Try.prog 108 #[.pointer (some ⟨p, 0, none⟩)] w fun e w' => DelIs w w.heap.size (fun _ => False) (grantedL L) e w' := by
  obtain ⟨wB, hwB⟩ : ∃ wB, wB = w.alloc (.cells #[.pointer (some ⟨p, 0, none⟩)] 27) := ⟨_, rfl⟩
  have hC : Chg (fun _ => False) w wB := by rw [hwB]; exact (Chg.refl _ w).alloc _
  have hB : wB.cell? ⟨w.heap.size, 0, none⟩ = some (.pointer (some ⟨p, 0, none⟩)) := by rw [hwB]; exact (Blk.new w _ _).cell 0
  have hz : w.heap.size < wB.heap.size := by rw [hwB]; simp
  have ht := h.chg hC (fun h => h) (fun h => h)
  have HV := hideIt (voters_calls wB ht)
  have HB := hideIt hwB
  have hsm := h.small
  have HC := hideIt hC
  have HBc := hideIt hB
  have HT := hideIt ht
  clear hwB hC hB ht h
  go_enter Try.func108, Try.ntmps108
  go_wp2_with (go_at_call 107; rw [← HB.out]; refine HV.out.mono ?_; rintro e w1 ⟨A, n, c, rfl, ho, hc⟩)
  have hok := keys_ok HT.out.map
  have hlen : (sortI (L.map (·.1))).length ≤ 16 := by rw [sortI_len, List.length_map]; exact hsm
  have eg := enters_of Try.func125 (by kernel_rfl) rfl
  have hcall : Calls Try.prog 124 #[.slice A n c, .func (.func 125) #[] #[.pointer (some ⟨w.heap.size, 0, none⟩)]] w1 (DelIs w1 wB.heap.size (fun i => (Value.slice A n c).ownBlock = some i) (grantedL L)) := by
    rcases Nat.eq_zero_or_pos (sortI (L.map (·.1))).length with h0 | h0
    · have hnil : sortI (L.map (·.1)) = [] := List.eq_nil_of_length_eq_zero h0
      obtain ⟨A', c', hv, _⟩ := ho.slice
      rw [h0] at hv
      cases hv
      rw [hnil] at ho
      have := calls_del_nil ho 125 #[.pointer (some ⟨w.heap.size, 0, none⟩)]
      unfold grantedL
      rw [hnil]
      exact this
    · refine calls_del ho hok h0 (by omega) 125 _ (notYes L) eg (fun W x hx hW => ?_)
      have hW' : Chg (fun i => wB.heap.size ≤ i) wB W := (hc.mono (fun _ h => h.elim)).trans (hW.mono (fun i e => ho.base_le e))
      refine granted1_calls x W hx ((hW'.cell (p := ⟨w.heap.size, 0, none⟩) hz (by simp only; omega)).trans HBc.out) ((HT.out.blk.chg hW' (by have := HT.out.blk.lt; omega)).cell 0) (HT.out.map.chg hW' (by have := HT.out.map.lt; omega))
  have HCALL := hideIt hcall
  clear hok hlen eg hcall
  go_wp2_with (go_at_call 124; refine HCALL.out.mono ?_; rintro e w2 ⟨A2, n2, c2, rfl, ho2, hc2⟩)
  go_ret
  exact ⟨A2, n2, c2, rfl, ho2.low (Nat.le_of_lt hz), (HC.out.trans hc).trans' hc2 (fun i e => .inr (Nat.le_trans (Nat.le_of_lt hz) (ho.base_le e)))⟩
end
end Go.Proofs.Ytgmekeeemimnpaa
