/- The watch, walked on: the closures of Due and Late, which, Due, Late, Peers. -/
import Derived.Test.YtgmekeeemimnpaaW2
import Derived.Test.YtgmekeeemimnpaaKeys
namespace Go.Proofs.Ytgmekeeemimnpaa
open Go Go.Maps Go.MapKept Go.RowKit

def dueB (to now : Int) (p : Peer) : Bool := decide (p.2.2 ≤ now) && decide (to / 2 ≤ now - p.2.2)
def lateB (to now : Int) (p : Peer) : Bool := p.2.1 && decide (p.1 < now) && decide (to < now - p.1)

section
variable {b p c1 c2 : Nat} {to now : Int} {x : Peer} (w : World)
set_option maxHeartbeats 2000000 in
theorem due1_calls (h1 : w.cell? ⟨c1, 0, none⟩ = some (.int .i64 now)) (h2 : w.cell? ⟨c2, 0, none⟩ = some (.pointer (some ⟨b, 0, none⟩))) (hb : w.cell? ⟨b, 0, none⟩ = some (.int .i64 to)) (hp : Blk w p 132 (encP x)) (hx : okP x) (hto : 2 ≤ to ∧ to ≤ 1073741824) (hn : okI now) :
    Calls Try.prog 100 #[.pointer (some ⟨p, 0, none⟩), .pointer (some ⟨c1, 0, none⟩), .pointer (some ⟨c2, 0, none⟩)] w fun e w' => e = .returned (.bool (dueB to now x)) ∧ Chg (fun _ => False) w w' := by
  obtain ⟨s, wt, l⟩ := x
  obtain ⟨_, ⟨l1, l2⟩, _⟩ := hx
  obtain ⟨to1, to2⟩ := hto
  obtain ⟨n1, n2⟩ := okI_iff.1 hn
  have hl : w.cell? ⟨p, 2, none⟩ = some (.int .i64 l) := hp.cell 2
  simp only at l1 l2
  clear hp hn
  by_cases h3 : now ≥ l
  · have d3 : decide (now ≥ l) = true := by simpa using h3
    go_enter Try.func100, Try.ntmps100
    go_wp2
    go_quiet (fail)
    go_wp2
    go_ret
    exact ⟨ret_bool (by unfold dueB; simp [h3]), (Chg.refl _ _).drewN _⟩
  · have d3 : decide (now ≥ l) = false := by simpa using h3
    go_enter Try.func100, Try.ntmps100
    go_wp2
    go_quiet (fail)
    go_wp2
    go_ret
    exact ⟨ret_bool (by unfold dueB; have : decide (l ≤ now) = false := by simpa using h3
                        simp [this]), (Chg.refl _ _).drewN _⟩
set_option maxHeartbeats 2000000 in
theorem late1_calls (h1 : w.cell? ⟨c1, 0, none⟩ = some (.int .i64 now)) (h2 : w.cell? ⟨c2, 0, none⟩ = some (.pointer (some ⟨b, 0, none⟩))) (hb : w.cell? ⟨b, 0, none⟩ = some (.int .i64 to)) (hp : Blk w p 132 (encP x)) (hx : okP x) (hto : 2 ≤ to ∧ to ≤ 1073741824) (hn : okI now) :
    Calls Try.prog 101 #[.pointer (some ⟨p, 0, none⟩), .pointer (some ⟨c1, 0, none⟩), .pointer (some ⟨c2, 0, none⟩)] w fun e w' => e = .returned (.bool (lateB to now x)) ∧ Chg (fun _ => False) w w' := by
  obtain ⟨s, wt, l⟩ := x
  obtain ⟨⟨l1, l2⟩, _, _⟩ := hx
  obtain ⟨to1, to2⟩ := hto
  obtain ⟨n1, n2⟩ := okI_iff.1 hn
  have hs : w.cell? ⟨p, 0, none⟩ = some (.int .i64 s) := hp.cell 0
  have hl : w.cell? ⟨p, 1, none⟩ = some (.bool wt) := hp.cell 1
  simp only at l1 l2
  clear hp hn
  cases wt with
  | false =>
    go_enter Try.func101, Try.ntmps101
    go_wp2
    go_quiet (fail)
    go_wp2
    go_ret
    exact ⟨ret_bool (by unfold lateB; simp), (Chg.refl _ _).drewN _⟩
  | true =>
    by_cases h3 : now > s
    · have d3 : decide (now > s) = true := by simpa using h3
      go_enter Try.func101, Try.ntmps101
      go_wp2
      go_quiet (fail)
      go_wp2
      go_ret
      exact ⟨ret_bool (by unfold lateB; have : decide (s < now) = true := by simpa using h3
                          simp [this]), (Chg.refl _ _).drewN _⟩
    · have d3 : decide (now > s) = false := by simpa using h3
      go_enter Try.func101, Try.ntmps101
      go_wp2
      go_quiet (fail)
      go_wp2
      go_ret
      exact ⟨ret_bool (by unfold lateB; have : decide (s < now) = false := by simpa using h3
                          simp [this]), (Chg.refl _ _).drewN _⟩
end

theorem infoIntW : (Try.prog.info? 3).map (fun i => (i.zero, i.size, i.bytes)) = some (some (.int .i64 0), 1, 8) := by kernel_rfl
theorem own_not_iter {κ α : Type} {ek : κ → Value} {ev : α → Value} {good : κ → Prop} {w : World} {base e g b : Nat} {v : Value} {xs : List Int} {L done : List (κ × α)} (h : OwnI w base e v xs) (hv : v.ownBlock = some g) (hi : IterIs ek ev good w g b L done) : False := by
  rcases h.2 with ⟨rfl, _⟩ | ⟨g', cap, cur, rfl, _, hh, _⟩
  · cases hv
  · cases hv
    obtain ⟨es, clock, since, seen, c0, _, _, _, _, hr, _⟩ := hi
    rw [hh] at hr
    cases hr
/-- The ids of the peers of which something holds, rising. -/
def whichW (hB : Peer → Bool) (L : List (Int × Peer)) : List Int := sortI ((L.filter (fun q => hB q.2)).map (·.1))
theorem whichW_len (hB : Peer → Bool) (L : List (Int × Peer)) : (whichW hB L).length ≤ L.length := by
  unfold whichW
  rw [sortI_len, List.length_map]
  exact List.length_filter_le _ _

section
variable {F : Nat → Prop} {b : Nat} {to : Int} {L : List (Int × Peer)} (w : World)
set_option maxRecDepth 100000 in
set_option maxHeartbeats 4000000 in
theorem which_calls (h : WMem w F b to L) (hk : WOk L) (cf : FuncId) (k1 k2 : Nat) (hB : Peer → Bool) (eg : ∀ args w, (callFunc cf args).run Try.prog w = .ok (.enter cf args) w)
    (hcl : ∀ (W : World) (p : Nat) (x : Peer), Chg (fun _ => False) w W → Blk W p 132 (encP x) → okP x → Calls Try.prog cf #[.pointer (some ⟨p, 0, none⟩), .pointer (some ⟨k1, 0, none⟩), .pointer (some ⟨k2, 0, none⟩)] W fun e W' => e = .returned (.bool (hB x)) ∧ Chg (fun _ => False) W W') :
    Calls Try.prog 99 #[.pointer (some ⟨b, 0, none⟩), .func (.func cf) #[] #[.pointer (some ⟨k1, 0, none⟩), .pointer (some ⟨k2, 0, none⟩)]] w (KeysIs w ((L.filter (fun q => hB q.2)).map (·.1))) := by
  obtain ⟨g, PL, st, hb, hm, hp, hn, f1, f2, rfl⟩ := h
  obtain ⟨i0, hi, hz0, hz1, hz2⟩ : ∃ i, Try.prog.info? 3 = some i ∧ i.zero = some (.int .i64 0) ∧ i.size = 1 ∧ i.bytes = 8 := by
    have h := infoIntW
    cases he : Try.prog.info? 3 with
    | none => rw [he] at h; cases h
    | some i => rw [he] at h; simp at h; exact ⟨i, rfl, h.1, h.2.1, h.2.2⟩
  have HI := hideIt hi
  have HC := hideIt hcl
  have HP := hideIt hp
  have HK := hideIt hk
  have c1 : w.cell? ⟨b, 1, none⟩ = some (.map (some g)) := hb.cell 1
  have hlen16 : PL.length ≤ 16 := by have := hk.1; simpa using this
  clear hi hcl hp hk
  go_enter Try.func99, Try.ntmps99
  go_wp2_with (at_range; refine wpList_range _ rfl _ 127 130 rfl Try.underlying127 rfl hm ?_; intro w0 hit0 hc0 hs0)
  go_loopw [5] (fun v wr => ∃ (done : List (Int × Nat)) (xs : List Int) (A' : Option Addr) (N c' : Nat), IterIs (Value.int .i64) (fun p : Nat => Value.pointer (some ⟨p, 0, none⟩)) okI wr w.heap.size g PL done ∧ v = .slice A' N c' ∧ OwnI wr w.heap.size 3 (.slice A' N c') xs ∧ xs = (done.filter (fun q => hB (st q.2))).map (·.1) ∧ Chg (fun _ => False) w wr ∧ done.length ≤ 16) (fun _ wr => wr.rangeLeft g w.heap.size)
  case atStart => exact ⟨[], [], none, 0, 0, hit0, rfl, OwnI.nil _ _ _, rfl, hc0, by simp⟩
  case round =>
    obtain ⟨done, xs, A', N, c', hit, rfl, ho, hxs, hch, hd16⟩ := hrel
    have HX := hideIt hxs
    clear hxs
    obtain ⟨A0, k0, hv0, hk0, hm0, hb0⟩ := ho.slice
    have hN0 : Hid (xs.length = N) := hideIt (by cases hv0; rfl)
    clear hv0 hk0 hm0 hb0
    go_wp2_with (at_next; refine wpList_nextm _ rfl _ rfl (fun a c h => by injection h) rfl hit ?_ ?_)
    · intro hperm
      have hsub := hit.sub
      have HL : Hid (whichW hB (PL.map (fun q => (q.1, st q.2))) = sortI xs) := hideIt (by
        unfold whichW
        rw [HX.out, List.filter_map, List.map_map]
        exact sortI_of_perm ((hperm.symm.filter _).map _))
      have HS := hideIt (calls_sort wr w.heap.size _ xs ho (by
        have := List.length_filter_le (fun q : Int × Nat => hB (st q.2)) done
        rw [HX.out, List.length_map]
        omega))
      clear hperm hsub
      go_wp2_with (go_at_call 103; refine HS.out.mono ?_; rintro e w4 ⟨rfl, ho4, hc4⟩)
      go_ret
      have hc : Chg (fun _ => False) w w4 := hch.trans' hc4 (fun i hi => .inr (ho.base_le hi))
      refine ⟨A', N, c', rfl, ?_, hc⟩
      have h1 := HL.out
      unfold whichW at h1
      rw [h1]
      exact ho4
    · intro id0 p0 w1 hq hnd hit1 hlt hc1 hs1 hen
      have hpq := (HP.out (id0, p0) hq).1
      have hx : okP (st p0) := (HK.out.2.2 (id0, st p0) (List.mem_map.2 ⟨(id0, p0), hq, rfl⟩)).2
      have hch1 : Chg (fun _ => False) w w1 := hch.trans' hc1 (fun i hi => .inr (by subst hi; exact Nat.le_refl _))
      have hcl := HC.out w1 p0 (st p0) hch1 (hpq.chg hch1 (fun h => h)) hx
      have HCL := hideIt hcl
      have ho1 : OwnI w1 w.heap.size 3 (.slice A' N c') xs := ho.chg hc1 (fun gg hgg e => by
        subst e
        exact absurd (own_not_iter ho hgg hit) (fun h => h))
      have hsub := hit1.sub
      have HD16 : Hid ((done ++ [(id0, p0)]).length ≤ 16) := hideIt (by
        have hp := nodup_len hsub.1 hsub.2
        omega)
      have hxb : xs.length ≤ 16 := by
        have := List.length_filter_le (fun q : Int × Nat => hB (st q.2)) done
        rw [HX.out, List.length_map]
        omega
      have hoki : okI id0 := hit.map.keyGood (id0, p0) hq
      have hbase : w.heap.size ≤ w1.heap.size := hch1.size
      have HQ := hideIt hit1
      have HLT := hideIt hlt
      clear hcl hit1 hsub hs1 hnd hq hpq hx
      cases hBx : hB (st p0) with
      | false =>
        rw [hBx] at HCL
        have HE : Hid (xs = List.map (fun x => x.fst) (List.filter (fun q => hB (st q.snd)) (done ++ [(id0, p0)]))) := hideIt (by
          rw [HX.out, List.filter_append]; simp [hBx])
        clear hBx
        go_wp2_with (go_at_fn cf; refine HCL.out.mono ?_; rintro e w2 ⟨rfl, hc2⟩)
        go_roundw
        case rel => exact ⟨done ++ [(id0, p0)], xs, A', N, c', HQ.out.chg hc2 (fun h => h) (fun h => h), rfl, ho1.new hc2, HE.out, hch1.trans hc2, HD16.out⟩
        case measure =>
          rw [rangeLeft_chg hc2 HQ.out.map.lt HQ.out.rlt (fun h => h) (fun h => h)]
          exact HLT.out
      | true =>
        rw [hBx] at HCL
        have HE : Hid (xs ++ [id0] = List.map (fun x => x.fst) (List.filter (fun q => hB (st q.snd)) (done ++ [(id0, p0)]))) := hideIt (by
          rw [HX.out, List.filter_append]; simp [hBx])
        clear hBx
        go_wp2_with (first
          | (go_at_fn cf; refine HCL.out.mono ?_; rintro e w2 ⟨rfl, hc2⟩; have ho2 := ho1.new hc2; have hch2 := hch1.trans hc2; have hit2 := hideIt (HQ.out.chg hc2 (fun h => h) (fun h => h)); have hbase2 : w.heap.size ≤ (w2.alloc (.cells #[.int .i64 id0] 3)).heap.size := by (have := hch2.size; simp; omega))
          | (at_builtin; refine wpList_append_ints _ rfl _ _ 25 rfl i0 _ Try.underlying25 HI.out hz0 hz1 hz2 rfl rfl (ho2.alloc _) rfl (Ints.one w2 3 id0 hoki) (by omega) hbase2 ?_; intro v3 w3 o3 g3 l3))
        have hk3 : Chg (fun i => (Value.slice A' N c').ownBlock = some i) w2 w3 := ((Chg.refl _ w2).alloc _).grown g3 (fun i e => .inl e)
        have hgl := hm.lt
        have hng : ¬ (Value.slice A' N c').ownBlock = some g := fun e => by have := ho2.base_le e; omega
        have hnr : ¬ (Value.slice A' N c').ownBlock = some w.heap.size := fun e => own_not_iter ho2 e hit2.out
        obtain ⟨A3, k3, hv3, _⟩ := o3.slice
        rw [hv3] at o3 ⊢
        refine ⟨⟨done ++ [(id0, p0)], xs ++ [id0], A3, _, k3, hit2.out.chg hk3 hng hnr, rfl, o3, HE.out, hch2.trans' hk3 (fun i e => .inr (ho2.base_le e)), HD16.out⟩, ?_⟩
        rw [rangeLeft_chg hk3 hit2.out.map.lt hit2.out.rlt hng hnr, rangeLeft_chg hc2 HQ.out.map.lt HQ.out.rlt (fun h => h) (fun h => h)]
        exact HLT.out

set_option maxHeartbeats 2000000 in
theorem due_calls (now : Int) (h : WMem w F b to L) (hk : WOk L) (hto : 2 ≤ to ∧ to ≤ 1073741824) (hn : okI now) :
    Calls Try.prog 52 #[.pointer (some ⟨b, 0, none⟩), .int .i64 now] w (KeysIs ((w.alloc (.cells #[.pointer (some ⟨b, 0, none⟩)] 47)).alloc (.cells #[.int .i64 now] 3)) ((L.filter (fun q => dueB to now q.2)).map (·.1))) := by
  obtain ⟨wB, hwB⟩ : ∃ wB, wB = (w.alloc (.cells #[.pointer (some ⟨b, 0, none⟩)] 47)).alloc (.cells #[.int .i64 now] 3) := ⟨_, rfl⟩
  have hC : Chg (fun _ => False) w wB := by rw [hwB]; exact ((Chg.refl _ w).alloc _).alloc _
  have k1 : wB.cell? ⟨w.heap.size, 0, none⟩ = some (.pointer (some ⟨b, 0, none⟩)) := by rw [hwB]; exact ((Blk.new w 47 #[.pointer (some ⟨b, 0, none⟩)]).alloc _).cell 0
  have k2 : wB.cell? ⟨w.heap.size + 1, 0, none⟩ = some (.int .i64 now) := by
    rw [hwB]
    exact (blk_at (by simp) (Blk.new (w.alloc (.cells #[.pointer (some ⟨b, 0, none⟩)] 47)) 3 #[.int .i64 now])).cell 0
  have s1 : w.heap.size + 1 < wB.heap.size := by rw [hwB]; simp
  have hb := (h.chg hC (fun _ _ h => h))
  have HW := hideIt (which_calls wB hb hk 100 (w.heap.size + 1) w.heap.size (dueB to now) (enters_of Try.func100 (by kernel_rfl) rfl)
    (fun W p x hW hp hx => due1_calls W ((hW.cell (p := ⟨w.heap.size + 1, 0, none⟩) s1 (fun h => h)).trans k2) ((hW.cell (p := ⟨w.heap.size, 0, none⟩) (by simp only; omega) (fun h => h)).trans k1) (hb.chg hW (fun _ _ h => h)).cell hp hx hto hn))
  have HB := hideIt hwB
  rw [← hwB]
  clear hwB hb s1 k1 k2 hC h hk hn hto
  go_enter Try.func52, Try.ntmps52
  go_wp2_with (go_at_call 99; rw [← HB.out]; refine HW.out.mono ?_; rintro e w1 ⟨A, n, c, rfl, ho, hc⟩)
  go_ret
  exact ⟨A, n, c, rfl, ho, hc⟩
set_option maxHeartbeats 2000000 in
theorem late_calls (now : Int) (h : WMem w F b to L) (hk : WOk L) (hto : 2 ≤ to ∧ to ≤ 1073741824) (hn : okI now) :
    Calls Try.prog 53 #[.pointer (some ⟨b, 0, none⟩), .int .i64 now] w (KeysIs ((w.alloc (.cells #[.pointer (some ⟨b, 0, none⟩)] 47)).alloc (.cells #[.int .i64 now] 3)) ((L.filter (fun q => lateB to now q.2)).map (·.1))) := by
  obtain ⟨wB, hwB⟩ : ∃ wB, wB = (w.alloc (.cells #[.pointer (some ⟨b, 0, none⟩)] 47)).alloc (.cells #[.int .i64 now] 3) := ⟨_, rfl⟩
  have hC : Chg (fun _ => False) w wB := by rw [hwB]; exact ((Chg.refl _ w).alloc _).alloc _
  have k1 : wB.cell? ⟨w.heap.size, 0, none⟩ = some (.pointer (some ⟨b, 0, none⟩)) := by rw [hwB]; exact ((Blk.new w 47 #[.pointer (some ⟨b, 0, none⟩)]).alloc _).cell 0
  have k2 : wB.cell? ⟨w.heap.size + 1, 0, none⟩ = some (.int .i64 now) := by
    rw [hwB]
    exact (blk_at (by simp) (Blk.new (w.alloc (.cells #[.pointer (some ⟨b, 0, none⟩)] 47)) 3 #[.int .i64 now])).cell 0
  have s1 : w.heap.size + 1 < wB.heap.size := by rw [hwB]; simp
  have hb := (h.chg hC (fun _ _ h => h))
  have HW := hideIt (which_calls wB hb hk 101 (w.heap.size + 1) w.heap.size (lateB to now) (enters_of Try.func101 (by kernel_rfl) rfl)
    (fun W p x hW hp hx => late1_calls W ((hW.cell (p := ⟨w.heap.size + 1, 0, none⟩) s1 (fun h => h)).trans k2) ((hW.cell (p := ⟨w.heap.size, 0, none⟩) (by simp only; omega) (fun h => h)).trans k1) (hb.chg hW (fun _ _ h => h)).cell hp hx hto hn))
  have HB := hideIt hwB
  rw [← hwB]
  clear hwB hb s1 k1 k2 hC h hk hn hto
  go_enter Try.func53, Try.ntmps53
  go_wp2_with (go_at_call 99; rw [← HB.out]; refine HW.out.mono ?_; rintro e w1 ⟨A, n, c, rfl, ho, hc⟩)
  go_ret
  exact ⟨A, n, c, rfl, ho, hc⟩

set_option maxHeartbeats 2000000 in
theorem peers_calls (h : WMem w F b to L) (hk : L.length ≤ 1000000) :
    Calls Try.prog 69 #[.pointer (some ⟨b, 0, none⟩)] w fun e w' => ∃ A n c, e = .returned (.slice A n c) ∧ OwnI w' w.heap.size 3 (.slice A n c) (sortI (L.map (·.1))) ∧ Chg (fun _ => False) w w' := by
  obtain ⟨g, PL, st, hb, hm, hp, hn, f1, f2, rfl⟩ := h
  have c1 : w.cell? ⟨b, 1, none⟩ = some (.map (some g)) := hb.cell 1
  have HK := hideIt (keysW_calls (b := g) w)
  have HS := hideIt (sortedW_calls w hm (by simpa using hk))
  clear hk hn hp
  go_enter Try.func69, Try.ntmps69
  go_wp2_with (first
    | (go_at_call 110; refine HK.out.mono ?_; rintro e w1 ⟨rfl, rfl⟩)
    | (go_at_call 109; refine HS.out.mono ?_; rintro e w1 ⟨A, n, c, rfl, ho, hc⟩))
  go_ret
  refine ⟨A, n, c, rfl, ?_, ((Chg.refl _ w).alloc _).trans hc⟩
  rw [List.map_map]
  exact ho.low (by simp)
end
end Go.Proofs.Ytgmekeeemimnpaa
