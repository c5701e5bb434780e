/- Package disk's memory: bytes in slices, names as a map's keys, the files; Clone, named, New, step, walked. -/
import Derived.Test.YtgmekeeemimnpaaLayS
import Derived.Test.YtgmekeeemimnpaaOwnR
import Derived.Test.YtgmekeeemimnpaaIter
import Derived.Test.YtgmekeeemimnpaaQ1
import Derived.Deep.RegionHeld3
import Derived.Deep.RegionLaw
namespace Go.Proofs.Ytgmekeeemimnpaa
open Go Go.Maps Go.MapKept Go.RowKit Go.Sort

/-! ### bytes, names -/
def encU (x : Int) : List Value := [.int .u8 x]
theorem encU_len (x : Int) : (encU x).length = 1 := rfl
theorem encU_one (x : Int) : ∀ u ∈ encU x, u.oneCell' = true := by
  intro u hu
  simp [encU] at hu
  subst hu
  rfl
/-- A slice of bytes that reads as xs. -/
abbrev Bytes (w : World) (A : Option Addr) (n : Nat) (xs : List Int) : Prop := Recs encU 1 0 w A n xs
theorem recU : RecT Try.prog 95 5 1 1 := RecT.of Try.underlying95 (by kernel_rfl) (by decide)
abbrev Str := List UInt8
def okS (s : Str) : Prop := s.length ≤ maxLen
theorem encS : KeyEnc Try.prog 9 encStr okS :=
  ⟨string_keyed Try.underlying9, fun a b h => by
    injection h with h
    injection h with h
    have := congrArg Array.toList h
    simpa using this, fun a ha => ⟨_, Go.WideMaps.keyOf_string_mk Try.underlying9 (s := ⟨a.toArray⟩) (by simpa [okS, ByteArray.size] using ha)⟩⟩

/-- A file's value, and what its bytes are. -/
structure FileG where
  A : Option Addr
  n : Nat
  c : Nat
  safe : Bool
  xs : List Int
def evF (f : FileG) : Value := .agg #[.slice f.A f.n f.c, .bool f.safe]
theorem zeroFile (w : World) : (zeroValue 160).run Try.prog w = .ok (.agg #[.slice none 0 0, .bool false]) w := by kernel_rfl
theorem infoFile : (Try.prog.info? 160).map (·.size) = some 2 := by kernel_rfl
theorem aggFile (w : World) : (isAgg 160).run Try.prog w = .ok true w := by kernel_rfl
abbrev Files := List (Str × FileG)
/-- How many bytes files have. -/
def total (L : Files) : Nat := (L.map (fun p => p.2.n)).sum
structure DSt where
  L : Files
  room : Int
  left : Int
  down : Bool
def okF (w : World) (f : FileG) : Prop := Bytes w f.A f.n f.xs ∧ f.n ≤ f.c ∧ f.c ≤ maxLen
/-- A disk at block d, its files' map at block m. -/
structure DiskAt (w : World) (d m : Nat) (s : DSt) : Prop where
  blk : Blk w d 156 #[.map (some m), .int .i64 s.room, .int .i64 s.left, .bool s.down]
  map : MapIs encStr evF okS w m s.L
  files : ∀ p ∈ s.L, okF w p.2
/-- What holds of every disk. -/
structure DOk (s : DSt) : Prop where
  room0 : 0 ≤ s.room
  room1 : s.room ≤ 65536
  tot : (total s.L : Int) ≤ s.room
  left0 : -1 ≤ s.left
  left1 : s.left ≤ 9223372036854775807

theorem Bytes.chg_own {w w' : World} {A : Option Addr} {n : Nat} {xs : List Int} {S : Nat → Prop} (h : Bytes w A n xs) (hc : Chg S w w') (hS : ∀ b, S b → ∀ off x, w.cell? ⟨b, off, none⟩ ≠ some (.int .u8 x)) : Bytes w' A n xs := by
  rcases Nat.eq_zero_or_pos n with h0 | h0
  · subst h0
    exact ⟨h.len, fun h => absurd h (by omega)⟩
  · refine ⟨h.len, fun hp => ?_⟩
    obtain ⟨b, off, e, hb, hcell⟩ := h.at_ hp
    have hn : ¬ S b := fun hs => hS b hs (off + (0 * 1 + 0)) (xs.getD 0 0) (hcell 0 h0 0 _ rfl)
    exact ⟨b, off, e, Nat.lt_of_lt_of_le hb hc.size, fun i hi j v hv => (hc.cell hb hn).trans (hcell i hi j v hv)⟩
section
variable {w w' : World} {d m : Nat} {s : DSt}
theorem DiskAt.ne (h : DiskAt w d m s) : m ≠ d := map_ne_blk h.map h.blk
/-- The blocks of a disk hold no bytes. -/
theorem DiskAt.no_bytes (h : DiskAt w d m s) : ∀ b, b = d ∨ b = m → ∀ off x, w.cell? ⟨b, off, none⟩ ≠ some (.int .u8 x) := by
  rintro b (rfl | rfl) off x hx
  · rw [h.blk.cell off] at hx
    rcases off with _ | _ | _ | _ | off
    · cases hx
    · simp at hx
    · simp at hx
    · simp at hx
    · simp at hx
  · obtain ⟨es, clock, hb, _⟩ := h.map
    simp [World.cell?, hb] at hx
theorem okF.own {f : FileG} (hf : okF w f) (h : DiskAt w d m s) (hc : Chg (fun i => i = d ∨ i = m) w w') : okF w' f := ⟨hf.1.chg_own hc h.no_bytes, hf.2⟩
theorem okF.new {f : FileG} (hf : okF w f) (hc : Chg (fun _ => False) w w') : okF w' f := ⟨hf.1.new hc, hf.2⟩
theorem DiskAt.new (h : DiskAt w d m s) (hc : Chg (fun _ => False) w w') : DiskAt w' d m s :=
  ⟨h.blk.chg hc (fun h => h), h.map.chg hc (fun h => h), fun p hp => (h.files p hp).new hc⟩
end

/-- What New answers. -/
def DiskNew (w : World) (room : Int) (e : Ending) (w' : World) : Prop :=
  ∃ d m, e = .returned (.pointer (some ⟨d, 0, none⟩)) ∧ w.heap.size ≤ d ∧ w.heap.size ≤ m ∧ DiskAt w' d m ⟨[], room, -1, false⟩ ∧ Chg (fun _ => False) w w'
set_option maxHeartbeats 400000 in
theorem diskNew_yes (room : Int) (w : World) (h1 : 0 ≤ room) (h2 : room ≤ 65536) : Calls Try.prog 84 #[.int .i64 room] w (DiskNew w room) := by
  have hmm := @run_makeMap Try.prog
  go_enter Try.func84, Try.ntmps84
  go_wp2
  go_ret
  refine ⟨w.heap.size + 1, w.heap.size, rfl, by omega, Nat.le_refl _, ⟨?_, (MapIs.made w).alloc _, by simp⟩, ((Chg.refl _ w).alloc _).alloc _⟩
  have := Blk.new (w.alloc (.map #[] 0)) 156 #[.map (some w.heap.size), .int .i64 room, .int .i64 (-1), .bool false]
  simpa using this
set_option maxHeartbeats 400000 in
theorem diskNew_no (room : Int) (w : World) (h : ¬ (0 ≤ room ∧ room ≤ 65536)) : Calls Try.prog 84 #[.int .i64 room] w fun e w' => e = .returned (.pointer none) ∧ w = w' := by
  by_cases h1 : room < 0
  · go_enter Try.func84, Try.ntmps84
    go_wp2
    go_ret
    exact ⟨rfl, rfl⟩
  · have h2 : 65536 < room := by omega
    go_enter Try.func84, Try.ntmps84
    go_wp2
    go_ret
    exact ⟨rfl, rfl⟩

/-- What slices.Clone answers. -/
def CloneIs (w : World) (n : Nat) (xs : List Int) (e : Ending) (w' : World) : Prop :=
  ∃ A c, e = .returned (.slice A n c) ∧ Bytes w' A n xs ∧ n ≤ c ∧ c ≤ maxLen ∧ Chg (fun _ => False) w w'
set_option maxHeartbeats 1000000 in
theorem clone_calls {A : Option Addr} {n c : Nat} {xs : List Int} (w : World) (h : Bytes w A n xs) (hn : n ≤ 1000000) : Calls Try.prog 115 #[.slice A n c] w (CloneIs w n xs) := by
  have q := fun (w : World) (a : Option Addr) (n c n' c' : Nat) => Lib.run_eql_slice_nil (P := Try.prog) w _ _ a n c n' c' Try.underlying95
  have hlen := h.len
  rcases A with _ | ad
  · have hn0 : n = 0 := by
      rcases Nat.eq_zero_or_pos n with h0 | h0
      · exact h0
      · obtain ⟨b, off, e, _⟩ := h.at_ h0
        cases e
    subst hn0
    have HL := hideIt hlen
    clear h hlen
    go_enter Try.func115, Try.ntmps115
    go_wp2
    go_ret
    have hx : xs = [] := List.eq_nil_of_length_eq_zero HL.out
    subst hx
    exact ⟨none, 0, rfl, Recs.nil _, Nat.le_refl _, by unfold maxLen; omega, Chg.refl _ _⟩
  · have HL := hideIt hlen
    have N1 : ([] : List Int).length + n ≤ 1000000000 := by simp; omega
    have HB := hideIt h
    clear h hlen
    go_enter Try.func115, Try.ntmps115
    go_wp2_with (at_builtin; refine wpList_append_recs (base := w.heap.size) (d := (0 : Int)) _ rfl _ _ 95 rfl recU encU_len encU_one rfl (OwnR.empty w _ _ (Nat.le_refl _)) rfl (HB.out.new ((Chg.refl _ w).alloc _)) N1 (by omega) (by simp) ?_; intro v3 w3 o3 g3 q3)
    go_ret
    obtain ⟨A3, c3, rfl, h1, h2, _, _⟩ := o3.slice
    have hl : ([] ++ xs).length = n := by simpa using HL.out
    rw [hl] at h1 o3 ⊢
    exact ⟨A3, c3, rfl, by have := OwnR.recs (d := (0 : Int)) encU_len o3 rfl; simpa using this, h1, h2, ((Chg.refl (fun _ => False) w).alloc _).grown g3 (fun i e => .inr (by cases e; exact Nat.le_refl _))⟩
end Go.Proofs.Ytgmekeeemimnpaa
