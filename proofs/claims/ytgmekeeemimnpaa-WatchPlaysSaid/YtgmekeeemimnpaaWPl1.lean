/- WatchPlays: place and step, walked. -/
import Derived.Test.YtgmekeeemimnpaaWPlP
import Derived.Test.YtgmekeeemimnpaaOwnR
import Derived.Test.YtgmekeeemimnpaaWAct
import Derived.Deep.RegionLaw
import Derived.StillTailTactics
namespace Go.Proofs.Ytgmekeeemimnpaa
open Go Go.Maps Go.MapKept Go.RowKit

def encD (p : DPeer) : List Value := [.int .i64 p.1, .int .i64 p.2.1, .int .i64 p.2.2.1, .bool p.2.2.2]
theorem encD_len (p : DPeer) : (encD p).length = 4 := rfl
theorem encD_one (p : DPeer) : ∀ u ∈ encD p, u.oneCell' = true := by
  intro u hu
  simp only [encD, List.mem_cons, List.not_mem_nil, or_false] at hu
  rcases hu with rfl | rfl | rfl | rfl <;> rfl
theorem sizeD (w : World) : (sizeOf 153).run Try.prog w = .ok 4 w := by kernel_rfl
theorem aggD (w : World) : (isAgg 153).run Try.prog w = .ok true w := by kernel_rfl
theorem recD : RecT Try.prog 80 153 4 32 := RecT.of Try.underlying80 (by kernel_rfl) (by decide)
abbrev RecsD := Recs encD 4 d0P
section
variable {w : World} {A : Option Addr} {n : Nat} {l : List DPeer}
/-- A record's cells. -/
theorem RecsD.at4 (h : RecsD w A n l) {k : Nat} (hk : k < n) : ∃ b off, A = some ⟨b, off, none⟩ ∧ b < w.heap.size ∧ w.cell? ⟨b, off + k * 4, none⟩ = some (.int .i64 (l.getD k d0P).1) ∧ w.cell? ⟨b, off + k * 4 + 1, none⟩ = some (.int .i64 (l.getD k d0P).2.1) ∧
    w.cell? ⟨b, off + k * 4 + 2, none⟩ = some (.int .i64 (l.getD k d0P).2.2.1) ∧ w.cell? ⟨b, off + k * 4 + 3, none⟩ = some (.bool (l.getD k d0P).2.2.2) := by
  obtain ⟨b, off, rfl, hb, hc⟩ := Recs.at_ h (by omega)
  exact ⟨b, off, rfl, hb, hc k hk 0 _ rfl, hc k hk 1 _ rfl, hc k hk 2 _ rfl, hc k hk 3 _ rfl⟩
end
/-- A slice of one record that was just laid. -/
theorem Recs.one4 (w : World) (a b c : Int) (d : Bool) : RecsD (w.alloc (.cells #[.int .i64 a, .int .i64 b, .int .i64 c, .bool d] 153)) (some ⟨w.heap.size, 0, none⟩) 1 [(a, b, c, d)] :=
  ⟨rfl, fun _ => ⟨w.heap.size, 0, rfl, by simp, fun i hi j v hv => by
    obtain rfl : i = 0 := by omega
    have := (Blk.new w 153 #[.int .i64 a, .int .i64 b, .int .i64 c, .bool d]).cell j
    rw [show (0 : Nat) + (0 * 4 + j) = j by omega, this]
    simpa [encD] using hv⟩⟩
theorem own_some {A : Option Addr} {n c g : Nat} {a : Addr} {k k' : Nat} (h : (Value.slice A n c).ownBlock = (Value.slice (some a) k k').ownBlock ∨ (Value.slice A n c).ownBlock = some g) : ∃ b, A = some b := by
  cases A with
  | none => rcases h with h | h <;> cases h
  | some b => exact ⟨b, rfl⟩
theorem own_block {α : Type} {enc : α → List Value} {K : Nat} {w : World} {base e : Nat} {a : Addr} {n c : Nat} {xs : List α} (h : OwnR enc K w base e (.slice (some a) n c) xs) : ∃ g, a = ⟨g, 0, none⟩ ∧ base ≤ g := by
  rcases h.2 with ⟨h', _⟩ | ⟨g, cap, cur, h', hb, _⟩
  · cases h'
  · cases h'; exact ⟨g, rfl, hb⟩
theorem getD_set_self {α : Type} {l : List α} {k : Nat} {a d : α} (h : k < l.length) : (l.set k a).getD k d = a := by simp [List.getD, h]
theorem infoD : (Try.prog.info? 153).map (·.size) = some 4 := by kernel_rfl
theorem inD_eq {l : List DPeer} {id : Int} {d : DPeer} : inD l id = (decide (pos l id < l.length) && ((l.getD (pos l id) d).1 == id)) := by
  unfold inD
  by_cases h : pos l id < l.length
  · rw [List.getElem?_eq_getElem h]
    simp [h, List.getD]
  · rw [List.getElem?_eq_none (by omega)]
    simp [h]

set_option maxRecDepth 100000 in
set_option maxHeartbeats 4000000 in
theorem place_calls {A : Option Addr} {n c : Nat} {l : List DPeer} (id : Int) (w : World) (hl : RecsD w A n l) (hn : n ≤ 1000000) :
    Calls Try.prog 111 #[.slice A n c, .int .i64 id] w fun e w' => e = .returned (.tuple #[.int .i64 (pos l id : Int), .bool (inD l id)]) ∧ Chg (fun _ => False) w w' := by
  have HL := hideIt hl
  have HLN := hideIt hl.len
  clear hl
  go_enter Try.func111, Try.ntmps111
  go_wp2
  go_loop [6] (fun i => ∃ k : Nat, k ≤ n ∧ i = .int .i64 k ∧ ∀ j, j < k → (l.getD j d0P).1 < id) (fun i => n - (intOf i).toNat)
  case atStart => exact ⟨0, by omega, rfl, fun j hj => absurd hj (by omega)⟩
  case round =>
    obtain ⟨k, hk, rfl, hall⟩ := hrel
    have HALL := hideIt hall
    clear hall
    by_cases hlt : k < n
    · obtain ⟨b, off, rfl, hb, e0, e1, e2, e3⟩ := RecsD.at4 HL.out hlt
      clear e1 e2 e3
      obtain ⟨x, hX⟩ : ∃ x, (l.getD k d0P).1 = x := ⟨_, rfl⟩
      rw [hX] at e0
      have HX := hideIt hX
      clear hX
      by_cases hxi : x < id
      · go_wp2
        refine ⟨⟨k + 1, by omega, by go_num, fun j hj => ?_⟩, by simp [intOf]; omega⟩
        rcases Nat.lt_or_ge j k with h1 | h1
        · exact HALL.out j h1
        · obtain rfl : j = k := by omega
          rw [HX.out]; exact hxi
      · have HP : Hid (k = pos l id) := hideIt (pos_eq l id d0P k (by rw [HLN.out]; exact hk) HALL.out (fun _ => by rw [HX.out]; exact hxi))
        have HI : Hid (inD l id = (x == id)) := hideIt (by
          rw [inD_eq (d := d0P), ← HP.out, HX.out, HLN.out]
          simp [hlt])
        have hd : decide ((k : Int) < (n : Int)) = true := by simp; omega
        go_wp2
        go_quiet (fail)
        go_wp2
        go_ret2
        rw [HI.out, ← HP.out]
        exact ⟨rfl, (Chg.refl _ _).drewN _⟩
    · obtain rfl : k = n := by omega
      have HP : Hid (k = pos l id) := hideIt (pos_eq l id d0P k (by rw [HLN.out]; exact hk) HALL.out (fun h => by rw [HLN.out] at h; omega))
      have HI : Hid (inD l id = false) := hideIt (by
        rw [inD_eq (d := d0P), ← HP.out, HLN.out]
        simp)
      have hd : decide ((k : Int) < (k : Int)) = false := by simp
      go_wp2
      go_quiet (fail)
      go_wp2
      go_ret2
      rw [HI.out, ← HP.out]
      exact ⟨rfl, (Chg.refl _ _).drewN _⟩
end Go.Proofs.Ytgmekeeemimnpaa
