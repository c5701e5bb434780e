/- Layer 15's twin, walked: ack. -/
import Derived.Test.YtgmekeeemimnpaaBP5
namespace Go.Proofs.Ytgmekeeemimnpaa
open Go Go.Maps Go.MapKept Go.RowKit

/-- Does a vote count for the twin? -/
def ackT (s : TwSt) (ep id now : Int) : Bool := s.on && (decide (now ≤ s.un) && (decide (ep = s.ep) && (decide (id ∈ s.vs) && !decide (id ∈ s.ys))))
section
variable {base t : Nat} {F : Nat → Prop} {s : TwSt} {m : Nat} {A : Option Addr} {n c : Nat} {how ep id now : Int}
set_option maxRecDepth 100000 in
set_option maxHeartbeats 8000000 in
theorem tack_no (w : World) (h : Twin w base F t s) (hs : TwOk s m) (hm : m ≤ 1000) (ha : ackT s ep id now = false) :
    Calls Try.prog 78 #[.pointer (some ⟨t, 0, none⟩), .agg #[.int .i64 how, .int .i64 ep, .int .i64 id, .int .i64 now, .slice A n c]] w fun e w' => e = .returned (.bool false) ∧ Chg (fun _ => False) w w' := by
  obtain ⟨wB, hwB⟩ : ∃ wB, wB = w.alloc (.cells #[.int .i64 how, .int .i64 ep, .int .i64 id, .int .i64 now, .slice A n c] 90) := ⟨_, rfl⟩
  have tB : Blk wB w.heap.size 90 #[.int .i64 how, .int .i64 ep, .int .i64 id, .int .i64 now, .slice A n c] := by rw [hwB]; exact Blk.new w _ _
  have CB : Hid (Chg (fun _ => False) w wB) := hideIt (by rw [hwB]; exact (Chg.refl _ w).alloc _)
  obtain ⟨⟨v1, v2, v3, v4, hb, ho⟩, -, -, -⟩ := h
  obtain ⟨A1, k1, rfl, -, -, -⟩ := ho.o1.slice
  obtain ⟨A2, k2, rfl, -, -, -⟩ := ho.o2.slice
  have I1 := (ho.o1.ints hs.vs_ok rfl).new CB.out
  have I2 := (ho.o2.ints hs.ys_ok rfl).new CB.out
  have vl := hs.vl
  have yl := hs.yl
  obtain ⟨n1, hn1⟩ : ∃ n, s.vs.length = n := ⟨_, rfl⟩
  obtain ⟨n2, hn2⟩ : ∃ n, s.ys.length = n := ⟨_, rfl⟩
  obtain ⟨un, hun⟩ : ∃ un, s.un = un := ⟨_, rfl⟩
  obtain ⟨sep, hsep⟩ : ∃ sep, s.ep = sep := ⟨_, rfl⟩
  obtain ⟨on, hon⟩ : ∃ on, s.on = on := ⟨_, rfl⟩
  rw [hn1] at hb I1 vl
  rw [hn2] at hb I2 yl
  have hbB := hb.chg CB.out (fun h => h)
  rw [hon, hun, hsep] at hbB
  have e0 : wB.cell? ⟨t, 0, none⟩ = some (.bool on) := hbB.cell 0
  have e1 : wB.cell? ⟨t, 1, none⟩ = some (.int .i64 sep) := hbB.cell 1
  have e2 : wB.cell? ⟨t, 2, none⟩ = some (.int .i64 un) := hbB.cell 2
  have e3 : wB.cell? ⟨t, 3, none⟩ = some (.slice A1 n1 k1) := hbB.cell 3
  have e4 : wB.cell? ⟨t, 4, none⟩ = some (.slice A2 n2 k2) := hbB.cell 4
  have f1 : wB.cell? ⟨w.heap.size, 1, none⟩ = some (.int .i64 ep) := tB.cell 1
  have f2 : wB.cell? ⟨w.heap.size, 2, none⟩ = some (.int .i64 id) := tB.cell 2
  have f3 : wB.cell? ⟨w.heap.size, 3, none⟩ = some (.int .i64 now) := tB.cell 3
  have HI1 := hideIt I1
  have HI2 := hideIt I2
  have HB := hideIt hwB
  unfold ackT at ha
  rw [hon, hun, hsep] at ha
  clear hb ho hs I1 I2 hn1 hn2 hun hsep hon hbB tB hwB
  cases on with
  | false =>
    clear ha
    go_enter Try.func78, Try.ntmps78
    go_wp2_with fail
    rw [← HB.out]
    go_quiet (fail)
    go_wp2
    go_ret
    exact ⟨rfl, CB.out.drewN _⟩
  | true =>
    rw [Bool.true_and] at ha
    by_cases q1 : now ≤ un
    · have d1 : decide (un < now) = false := by simp; omega
      rw [show decide (now ≤ un) = true from by simpa using q1, Bool.true_and] at ha
      by_cases q2 : ep = sep
      · have d2 : (ep != sep) = false := by simpa using q2
        rw [show decide (ep = sep) = true from by simpa using q2, Bool.true_and] at ha
        clear q1 q2
        by_cases q3 : id ∈ s.vs
        · have d3 : decide (id ∈ s.vs) = true := by simpa using q3
          rw [d3, Bool.true_and] at ha
          have d4 : decide (id ∈ s.ys) = true := by simpa using ha
          clear q3 ha
          go_enter Try.func78, Try.ntmps78
          go_wp2_with fail
          rw [← HB.out]
          go_quiet ((go_at_call 82; exact Calls.quiet_of_same ((has15_calls _ _ (by first | exact HI1.out.drewN _ | exact HI2.out.drewN _) (by omega)).mono fun _ _ h => ⟨h.1, h.2.symm⟩)))
          go_wp2
          go_ret
          exact ⟨rfl, CB.out.drewN _⟩
        · have d3 : decide (id ∈ s.vs) = false := by simpa using q3
          clear q3 ha
          go_enter Try.func78, Try.ntmps78
          go_wp2_with fail
          rw [← HB.out]
          go_quiet ((go_at_call 82; exact Calls.quiet_of_same ((has15_calls _ _ (by first | exact HI1.out.drewN _ | exact HI2.out.drewN _) (by omega)).mono fun _ _ h => ⟨h.1, h.2.symm⟩)))
          go_wp2
          go_ret
          exact ⟨rfl, CB.out.drewN _⟩
      · have d2 : (ep != sep) = true := by simpa using q2
        clear q1 q2 ha
        go_enter Try.func78, Try.ntmps78
        go_wp2_with fail
        rw [← HB.out]
        go_quiet (fail)
        go_wp2
        go_ret
        exact ⟨rfl, CB.out.drewN _⟩
    · have d1 : decide (un < now) = true := by simp; omega
      clear q1 ha
      go_enter Try.func78, Try.ntmps78
      go_wp2_with fail
      rw [← HB.out]
      go_quiet (fail)
      go_wp2
      go_ret
      exact ⟨rfl, CB.out.drewN _⟩

end
end Go.Proofs.Ytgmekeeemimnpaa
