/- Package disk's Write, walked. -/
import Derived.Test.YtgmekeeemimnpaaD6
namespace Go.Proofs.Ytgmekeeemimnpaa
open Go Go.Maps Go.MapKept Go.RowKit Go.Sort

section
variable {w : World} {d m : Nat} {s : DSt}
/-- What Write leaves, the file being f; its error's number. -/
def putS (s : DSt) (x : Str) (f : FileG) : DSt := stepS { s with L := aput s.L x f }
def wrD (s : DSt) (x : Str) (f : FileG) : DSt := if s.down then s else if namedB x then if s.room - (total (adel s.L x) : Int) < (f.n : Int) then s else putS s x f else s
def wrE (s : DSt) (x : Str) (n : Nat) : Int := if s.down then 50 else if namedB x then if s.room - (total (adel s.L x) : Int) < (n : Int) then 51 else if (stepS s).down then 50 else 0 else 52
theorem stepS_put (s : DSt) (L : Files) : stepS { s with L := L } = { stepS s with L := L } := by unfold stepS; simp only; split <;> (try split) <;> rfl
def WriteIs (w : World) (d m : Nat) (s : DSt) (x : Str) (n : Nat) (xs : List Int) (e : Ending) (w' : World) : Prop :=
  ∃ f : FileG, f.n = n ∧ f.xs = xs ∧ f.safe = false ∧ e = .returned (.int .i64 (wrE s x n)) ∧ DiskAt w' d m (wrD s x f) ∧ Chg (fun i => i = d ∨ i = m) w w'
theorem total_aput {L : Files} (hn : keysNodup L) (x : Str) (f : FileG) : total (aput L x f) = total (adel L x) + f.n := by
  have hp : (aput L x f).Perm (adel L x ++ [(x, f)]) := by
    have h1 := nodup_of_keys (nodup_aput hn x f)
    have h2 : (adel L x ++ [(x, f)]).Nodup := by
      rw [List.nodup_append]
      exact ⟨nodup_of_keys (nodup_adel hn x), by simp, fun a ha b hb e => by simp at hb; subst hb; subst e; exact (mem_adel.1 ha).2 rfl⟩
    refine (List.perm_ext_iff_of_nodup h1 h2).2 fun p => ?_
    rw [mem_aput, List.mem_append, mem_adel, List.mem_singleton]
    constructor
    · rintro (h | h)
      · exact .inr h
      · exact .inl h
    · rintro (h | h)
      · exact .inr h
      · exact .inl h
  rw [total_perm hp, total_append]
  simp [total]
theorem DOk.put (h : DOk s) (hn : keysNodup s.L) {x : Str} {f : FileG} (hf : ¬ s.room - (total (adel s.L x) : Int) < (f.n : Int)) : DOk { s with L := aput s.L x f } :=
  ⟨h.room0, h.room1, by show (total (aput s.L x f) : Int) ≤ s.room; rw [total_aput hn]; omega, h.left0, h.left1⟩
set_option maxRecDepth 100000 in
set_option maxHeartbeats 8000000 in
theorem write_calls {A : Option Addr} {n c : Nat} {xs : List Int} (x : Str) (w : World) (h : DiskAt w d m s) (hok : DOk s) (hx : okS x) (hb : Bytes w A n xs) (hn : n ≤ 1000000) (hnc : n ≤ c) (hcm : c ≤ maxLen) :
    Calls Try.prog 85 #[.pointer (some ⟨d, 0, none⟩), encStr x, .slice A n c] w (WriteIs w d m s x n xs) := by
  have H0 := hideIt h
  have HK := hideIt hok
  have HB := hideIt hb
  have HNC := hideIt (And.intro hnc hcm)
  have HN : Hid (∀ W, Calls Try.prog 113 #[encStr x] W fun e w' => e = .returned (.bool (namedB x)) ∧ Chg (fun _ => False) W w') := hideIt (fun W => named_calls x W hx)
  have HO : Hid (∀ W, Chg (fun _ => False) w W → Calls Try.prog 114 #[.pointer (some ⟨d, 0, none⟩), encStr x] W fun e w' => e = .returned (.int .i64 (total (adel s.L x) : Int)) ∧ Chg (fun _ => False) W w') := hideIt (fun W hW => others_calls x W (H0.out.new hW) HK.out)
  have c3 : w.cell? ⟨d, 3, none⟩ = some (.bool s.down) := h.blk.cell 3
  have hr0 := hok.room0
  have hr1 := hok.room1
  have ht := hok.tot
  have hta := total_adel_le s.L x
  obtain ⟨to, hto⟩ : ∃ t, total (adel s.L x) = t := ⟨_, rfl⟩
  rw [hto] at HO hta
  have HTO := hideIt hto
  have same : ∀ (r : Int) (w' : World), wrE s x n = r → (∀ f : FileG, f.n = n → wrD s x f = s) → Chg (fun _ => False) w w' → WriteIs w d m s x n xs (.returned (.int .i64 r)) w' := by
    intro r w' h1 h2 hc
    exact ⟨⟨A, n, c, false, xs⟩, rfl, rfl, rfl, by rw [h1], by rw [h2 _ rfl]; exact H0.out.new hc, hc.mono (fun _ h => h.elim)⟩
  have SAME := hideIt same
  clear same h hok hb hnc hcm hto
  cases hd : s.down with
  | true =>
    have HE := hideIt (show wrE s x n = 50 by unfold wrE; rw [hd]; rfl)
    have HD := hideIt (show ∀ f : FileG, f.n = n → wrD s x f = s from fun f _ => by unfold wrD; rw [hd]; rfl)
    rw [hd] at c3
    clear hd
    go_enter Try.func85, Try.ntmps85
    go_wp2
    go_ret
    exact SAME.out _ _ HE.out HD.out (Chg.refl _ _)
  | false =>
    have hd' := hd
    rw [hd] at c3
    cases hnb : namedB x with
    | false =>
      have HE := hideIt (show wrE s x n = 52 by unfold wrE; rw [hd, hnb]; rfl)
      have HD := hideIt (show ∀ f : FileG, f.n = n → wrD s x f = s from fun f _ => by unfold wrD; rw [hd, hnb]; rfl)
      rw [hnb] at HN
      clear hd hd' hnb
      go_enter Try.func85, Try.ntmps85
      go_wp2_with (go_at_call 113; refine (HN.out _).mono ?_; rintro e w1 ⟨rfl, k1⟩)
      go_ret
      exact SAME.out _ _ HE.out HD.out k1
    | true =>
      rw [hnb] at HN
      obtain ⟨room, hroom⟩ : ∃ r, s.room = r := ⟨_, rfl⟩
      rw [hroom] at hr0 hr1 ht
      have hw1 : IntKind.i64.wrap (room - (to : Int)) = room - (to : Int) := IntWalk.i64_in _ (by omega)
      have HR : Hid (∀ W, Chg (fun _ => False) w W → W.cell? ⟨d, 1, none⟩ = some (.int .i64 room)) := hideIt (fun W hW => by rw [← hroom]; exact (H0.out.new hW).blk.cell 1)
      by_cases hsp : room - (to : Int) < (n : Int)
      · have HE := hideIt (show wrE s x n = 51 by unfold wrE; rw [hd, hnb, HTO.out, hroom]; simp [hsp])
        have HD := hideIt (show ∀ f : FileG, f.n = n → wrD s x f = s from fun f hf => by unfold wrD; rw [hd, hnb, HTO.out, hroom, hf]; simp [hsp])
        have hds : decide (room - (to : Int) < (n : Int)) = true := by simpa using hsp
        clear hd hd' hnb hsp hroom
        go_enter Try.func85, Try.ntmps85
        go_wp2_with (go_at_call 113; refine (HN.out _).mono ?_; rintro e w1 ⟨rfl, k1⟩; have r1 := HR.out _ k1)
        go_region_held3 (fun w' => w'.cell? ⟨d, 1, none⟩ = some (.int .i64 room))
          (first
            | exact r1
            | exact r2
            | go_keep)
          (first
            | (go_at_call 114; refine (HO.out _ (k1.drew)).mono ?_; rintro e w2 ⟨rfl, k2⟩; have r2 := HR.out _ (k1.drew.trans k2)))
        go_wp2
        go_ret
        exact SAME.out _ _ HE.out HD.out (k1.drew.trans k2)
      · have hdi : ∀ f : FileG, f.n = n → DOk { s with L := aput s.L x f } := fun f hf => HK.out.put H0.out.map.nodup (by rw [HTO.out, hroom, hf]; exact hsp)
        have HST : Hid (∀ (f : FileG) W, f.n = n → DiskAt W d m { s with L := aput s.L x f } → Calls Try.prog 116 #[.pointer (some ⟨d, 0, none⟩)] W (DiskR W d m (putS s x f) (.bool (!(stepS s).down)))) := hideIt (fun f W hf hW => by
          have := step_calls W hW (hdi f hf)
          have e : (stepS { s with L := aput s.L x f }).down = (stepS s).down := by rw [stepS_put]
          rw [e] at this
          exact this)
        have HD := hideIt (show ∀ f : FileG, f.n = n → wrD s x f = putS s x f from fun f hf => by unfold wrD; rw [hd, hnb, HTO.out, hroom, hf]; simp [hsp])
        have HM : Hid (∀ W, Chg (fun _ => False) w W → W.cell? ⟨d, 0, none⟩ = some (.map (some m))) := hideIt (fun W hW => (H0.out.new hW).blk.cell 0)
        have HC : Hid (∀ W, Chg (fun _ => False) w W → Calls Try.prog 115 #[.slice A n c] W (CloneIs W n xs)) := hideIt (fun W hW => clone_calls W (HB.out.new hW) hn)
        have hds : decide (room - (to : Int) < (n : Int)) = false := by simpa using hsp
        cases hsd : (stepS s).down with
        | true =>
          have HE := hideIt (show wrE s x n = 50 by unfold wrE; rw [hd, hnb, HTO.out, hroom, hsd]; simp [hsp])
          rw [hsd] at HST
          clear hd hd' hnb hsp hroom hdi hsd
          go_enter Try.func85, Try.ntmps85
          go_wp2_with (go_at_call 113; refine (HN.out _).mono ?_; rintro e w1 ⟨rfl, k1⟩; have r1 := HR.out _ k1)
          go_region_held3 (fun w' => w'.cell? ⟨d, 1, none⟩ = some (.int .i64 room))
            (first
              | exact r1
              | exact r2
              | go_keep)
            (first
              | (go_at_call 114; refine (HO.out _ (k1.drew)).mono ?_; rintro e w2 ⟨rfl, k2⟩; have r2 := HR.out _ (k1.drew.trans k2); have K2 := hideIt (k1.drew.trans k2); clear k2))
          go_wp2_with fail
          have p1 := HM.out _ K2.out
          go_region_held3 (fun w' => w'.cell? ⟨d, 0, none⟩ = some (.map (some m)))
            (first
              | exact p1
              | exact p3
              | exact p4
              | go_keep)
            (first
              | (go_at_call 115; refine (HC.out _ (K2.out.drew)).mono ?_; rintro e w3 ⟨A3, c3', rfl, b3, q1, q2, k3⟩; have K3 := hideIt (K2.out.drew.trans k3); have p3 := HM.out _ K3.out; have B3 := hideIt b3; have Q3 := hideIt (And.intro q1 q2); obtain ⟨w4, hrun, hm4, ht4⟩ := (H0.out.new K3.out).map.store (P := Try.prog) encS Try.underlying154 hx (FileG.mk A3 n c3' false xs); have H4 := hideIt (DiskAt.put (H0.out.new K3.out) hm4 rfl ht4 ⟨B3.out, Q3.out⟩); simp only [evF] at hrun; have p4 : w4.cell? ⟨d, 0, none⟩ = some (.map (some m)) := H4.out.1.blk.cell 0; clear k3 b3 q1 q2 hm4 ht4))
          go_wp2_with (first
            | (go_at_call 116; refine (HST.out _ _ rfl H4.out.1).mono ?_; rintro e w5 ⟨rfl, h5, k5⟩))
          go_ret
          exact ⟨⟨A3, n, c3', false, xs⟩, rfl, rfl, rfl, by rw [HE.out]; rfl, by rw [HD.out _ rfl]; exact h5, ((K3.out.mono (fun _ h => h.elim)).trans H4.out.2).trans k5⟩
        | false =>
          have HE := hideIt (show wrE s x n = 0 by unfold wrE; rw [hd, hnb, HTO.out, hroom, hsd]; simp [hsp])
          rw [hsd] at HST
          clear hd hd' hnb hsp hroom hdi hsd
          go_enter Try.func85, Try.ntmps85
          go_wp2_with (go_at_call 113; refine (HN.out _).mono ?_; rintro e w1 ⟨rfl, k1⟩; have r1 := HR.out _ k1)
          go_region_held3 (fun w' => w'.cell? ⟨d, 1, none⟩ = some (.int .i64 room))
            (first
              | exact r1
              | exact r2
              | go_keep)
            (first
              | (go_at_call 114; refine (HO.out _ (k1.drew)).mono ?_; rintro e w2 ⟨rfl, k2⟩; have r2 := HR.out _ (k1.drew.trans k2); have K2 := hideIt (k1.drew.trans k2); clear k2))
          go_wp2_with fail
          have p1 := HM.out _ K2.out
          go_region_held3 (fun w' => w'.cell? ⟨d, 0, none⟩ = some (.map (some m)))
            (first
              | exact p1
              | exact p3
              | exact p4
              | go_keep)
            (first
              | (go_at_call 115; refine (HC.out _ (K2.out.drew)).mono ?_; rintro e w3 ⟨A3, c3', rfl, b3, q1, q2, k3⟩; have K3 := hideIt (K2.out.drew.trans k3); have p3 := HM.out _ K3.out; have B3 := hideIt b3; have Q3 := hideIt (And.intro q1 q2); obtain ⟨w4, hrun, hm4, ht4⟩ := (H0.out.new K3.out).map.store (P := Try.prog) encS Try.underlying154 hx (FileG.mk A3 n c3' false xs); have H4 := hideIt (DiskAt.put (H0.out.new K3.out) hm4 rfl ht4 ⟨B3.out, Q3.out⟩); simp only [evF] at hrun; have p4 : w4.cell? ⟨d, 0, none⟩ = some (.map (some m)) := H4.out.1.blk.cell 0; clear k3 b3 q1 q2 hm4 ht4))
          go_wp2_with (first
            | (go_at_call 116; refine (HST.out _ _ rfl H4.out.1).mono ?_; rintro e w5 ⟨rfl, h5, k5⟩))
          go_ret
          exact ⟨⟨A3, n, c3', false, xs⟩, rfl, rfl, rfl, by rw [HE.out]; rfl, by rw [HD.out _ rfl]; exact h5, ((K3.out.mono (fun _ h => h.elim)).trans H4.out.2).trans k5⟩
end
end Go.Proofs.Ytgmekeeemimnpaa
