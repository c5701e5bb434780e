/- A disk over a law's own memory: package disk's calls in those words. -/
import Derived.Test.YtgmekeeemimnpaaD9
import Derived.Laws.BytesArg
namespace Go.Proofs.Ytgmekeeemimnpaa
open Go Go.Maps Go.MapKept Go.RowKit Go.Sort

/-- 'string(b)'. -/
theorem Bytes.toStr {w : World} {A : Option Addr} {n c : Nat} {xs : List Int} (h : Bytes w A n xs) : (convert 95 9 (.slice A n c)).run Try.prog w = .ok (.string (strOfNums xs)) w := by
  rcases A with _ | ad
  · have hx : xs = [] := by
      refine List.eq_nil_of_length_eq_zero ?_
      rw [h.len]
      rcases Nat.eq_zero_or_pos n with h0 | h0
      · exact h0
      · obtain ⟨b, off, e, _⟩ := h.at_ h0
        cases e
    subst hx
    rw [run_convert_bytes_nil (P := Try.prog) w 95 5 Try.underlying95 Try.underlying5 n c 9 Try.underlying9]
    rfl
  · rcases Nat.eq_zero_or_pos n with h0 | h0
    · subst h0
      have hx : xs = [] := List.eq_nil_of_length_eq_zero h.len
      subst hx
      have hl := run_loadCells_list (P := Try.prog) w ad [] (by simp)
      rw [run_convert_bytes_string w 95 9 5 (some ad) 0 c Try.underlying95 Try.underlying5 Try.underlying9, run_bytesToString w ad 0 c [] (by simpa using hl)]
      rfl
    · obtain ⟨b, off, e, _, hc⟩ := h.at_ h0
      cases e
      exact run_convert_bytes_arg (P := Try.prog) w 95 5 Try.underlying95 Try.underlying5 b off n c xs h.len (fun i hi => by
        have := hc i hi 0 (.int .u8 (xs.getD i 0)) rfl
        simpa using this) 9 Try.underlying9

/-! ### what holds of every disk stays so -/
section
variable {s : DSt}
theorem DOk.step (h : DOk s) : DOk (stepS s) := by
  have h0 := h.left0
  have h1 := h.left1
  unfold stepS
  split
  · exact ⟨h.room0, h.room1, h.tot, by show -1 ≤ s.left - 1; omega, by show s.left - 1 ≤ _; omega⟩
  · split
    · exact ⟨h.room0, h.room1, h.tot, h.left0, h.left1⟩
    · exact h
theorem DOk.files (h : DOk s) {L : Files} (hL : total L ≤ total s.L) : DOk { s with L := L } := ⟨h.room0, h.room1, by have := h.tot; show (total L : Int) ≤ s.room; omega, h.left0, h.left1⟩
theorem total_same {L : Files} (hn : keysNodup L) {x : Str} {f : FileG} (ha : aget L x = some f) : total (adel L x) + f.n = total L := by
  have e : aput L x f = L := by
    unfold aput
    rw [ha, if_pos (show (some f).isSome = true from rfl)]
    refine (List.map_congr_left fun p hp => ?_).trans (List.map_id _)
    by_cases hpx : p.1 = x
    · rw [if_pos hpx]
      obtain ⟨a, g⟩ := p
      simp only at hpx
      subst hpx
      have := aget_of_mem hn hp
      rw [ha] at this
      cases this
      rfl
    · rw [if_neg hpx]; rfl
  have := total_aput hn x f
  rw [e] at this
  omega
theorem DOk.sync (h : DOk s) (hn : keysNodup s.L) (x : Str) : DOk (syncS s x).2 := by
  unfold syncS
  split
  · exact h
  · split
    · exact h
    · next f ha =>
      split
      · exact h.step
      · have := h.step.files (L := aput s.L x { f with safe := true }) (by rw [stepS_L, total_aput hn]; have := total_same hn ha; show total (adel s.L x) + f.n ≤ _; omega)
        exact this
theorem DOk.ren (h : DOk s) (hn : keysNodup s.L) (x y : Str) : DOk (renS s x y).2 := by
  unfold renS
  split
  · exact h
  · split
    · exact h
    · next f ha =>
      split
      · split
        · exact h.step
        · have := h.step.files (L := aput (adel s.L x) y f) (by rw [stepS_L, total_aput (nodup_adel hn x)]; have := total_same hn ha; have := total_adel_le (adel s.L x) y; omega)
          exact this
      · exact h
theorem DOk.wr (h : DOk s) (hn : keysNodup s.L) (x : Str) (f : FileG) : DOk (wrD s x f) := by
  unfold wrD
  split
  · exact h
  · split
    · split
      · exact h
      · next hs => exact (h.put hn hs).step
    · exact h
theorem DOk.arm (h : DOk s) {v : Int} (hv : v ≤ 9223372036854775807) : DOk { s with left := max v (-1) } := ⟨h.room0, h.room1, h.tot, by show -1 ≤ max v (-1); omega, by show max v (-1) ≤ _; omega⟩
theorem DOk.crash (h : DOk s) (hn : keysNodup s.L) (keep : List Int) : DOk ⟨crashL keep s.L, s.room, -1, false⟩ :=
  ⟨h.room0, h.room1, by have := (crashTo_inv (keep := keep) hn s.L.length (Nat.le_refl _)).2.2.1; have := h.tot; show (total (crashTo keep s.L s.L.length).2 : Int) ≤ s.room; omega, by show (-1 : Int) ≤ -1; omega, by show (-1 : Int) ≤ _; omega⟩
end

/-- A disk that a law has made since the world w0. -/
structure DiskB (w0 w : World) (d m : Nat) (s : DSt) : Prop where
  at_ : DiskAt w d m s
  ok : DOk s
  dlo : w0.heap.size ≤ d
  mlo : w0.heap.size ≤ m
  chg : Chg (fun _ => False) w0 w
section
variable {w0 w w' : World} {d m : Nat} {s s' : DSt}
theorem DiskB.new (h : DiskB w0 w d m s) (hc : Chg (fun _ => False) w w') : DiskB w0 w' d m s := ⟨h.at_.new hc, h.ok, h.dlo, h.mlo, h.chg.trans hc⟩
theorem DiskB.own (h : DiskB w0 w d m s) (ha : DiskAt w' d m s') (hok : DOk s') (hc : Chg (fun i => i = d ∨ i = m) w w') : DiskB w0 w' d m s' :=
  ⟨ha, hok, h.dlo, h.mlo, h.chg.trans' hc (fun i hi => .inr (by rcases hi with rfl | rfl; exact h.dlo; exact h.mlo))⟩
theorem DiskB.nodup (h : DiskB w0 w d m s) : keysNodup s.L := h.at_.map.nodup
def DiskBR (w0 : World) (d m : Nat) (s : DSt) (r : Value) (e : Ending) (w' : World) : Prop := e = .returned r ∧ DiskB w0 w' d m s
def DiskNewB (w0 : World) (room : Int) (e : Ending) (w' : World) : Prop := ∃ d m, e = .returned (.pointer (some ⟨d, 0, none⟩)) ∧ DiskB w0 w' d m ⟨[], room, -1, false⟩
theorem diskNewB (room : Int) (h1 : 0 ≤ room) (h2 : room ≤ 65536) (hc : Chg (fun _ => False) w0 w) : Calls Try.prog 84 #[.int .i64 room] w (DiskNewB w0 room) := by
  refine (diskNew_yes room w h1 h2).mono ?_
  rintro e w' ⟨d, m, rfl, hd, hm, hat, hc'⟩
  have := hc.size
  exact ⟨d, m, rfl, hat, ⟨h1, h2, h1, by show (-1 : Int) ≤ -1; omega, by show (-1 : Int) ≤ _; omega⟩, by omega, by omega, hc.trans hc'⟩
def DiskW (w0 : World) (d m : Nat) (s : DSt) (x : Str) (n : Nat) (xs : List Int) (r : Int) (e : Ending) (w' : World) : Prop :=
  ∃ f : FileG, f.n = n ∧ f.xs = xs ∧ f.safe = false ∧ e = .returned (.int .i64 r) ∧ DiskB w0 w' d m (wrD s x f)
theorem DiskB.write {A : Option Addr} {n c : Nat} {xs : List Int} (h : DiskB w0 w d m s) (x : Str) (hx : okS x) (hb : Bytes w A n xs) (hn : n ≤ 1000000) (hnc : n ≤ c) (hcm : c ≤ maxLen) (r : Int) (hr : wrE s x n = r) :
    Calls Try.prog 85 #[.pointer (some ⟨d, 0, none⟩), encStr x, .slice A n c] w (DiskW w0 d m s x n xs r) := by
  refine (write_calls x w h.at_ h.ok hx hb hn hnc hcm).mono ?_
  rintro e w' ⟨f, h1, h2, h3, rfl, hat, hc⟩
  exact ⟨f, h1, h2, h3, by rw [hr], h.own hat (h.ok.wr h.nodup x f) hc⟩
theorem DiskB.sync (h : DiskB w0 w d m s) (x : Str) (hx : okS x) (r : Int) (hr : syncS s x = (r, s')) : Calls Try.prog 86 #[.pointer (some ⟨d, 0, none⟩), encStr x] w (DiskBR w0 d m s' (.int .i64 r)) := by
  refine (sync_calls x w h.at_ h.ok hx).mono ?_
  rintro e w' ⟨rfl, hat, hc⟩
  have := h.ok.sync h.nodup x
  rw [hr] at hat this ⊢
  exact ⟨rfl, h.own hat this hc⟩
theorem DiskB.rename (h : DiskB w0 w d m s) (x y : Str) (hx : okS x) (hy : okS y) (r : Int) (hr : renS s x y = (r, s')) : Calls Try.prog 88 #[.pointer (some ⟨d, 0, none⟩), encStr x, encStr y] w (DiskBR w0 d m s' (.int .i64 r)) := by
  refine (rename_calls x y w h.at_ h.ok hx hy).mono ?_
  rintro e w' ⟨rfl, hat, hc⟩
  have := h.ok.ren h.nodup x y
  rw [hr] at hat this ⊢
  exact ⟨rfl, h.own hat this hc⟩
theorem DiskB.arm (h : DiskB w0 w d m s) (v : Int) (hv : okI v) : Calls Try.prog 87 #[.pointer (some ⟨d, 0, none⟩), .int .i64 v] w (DiskBR w0 d m { s with left := max v (-1) } (.tuple #[])) := by
  have hb := okI_iff.1 hv
  refine (arm_calls v w h.at_).mono ?_
  rintro e w' ⟨rfl, hat, hc⟩
  exact ⟨rfl, h.own hat (h.ok.arm hb.2) hc⟩
theorem DiskB.crash {B : Option Addr} {q c : Nat} {keep : List Int} (h : DiskB w0 w d m s) (hk : Ints w B q keep) (hq : q ≤ 1000000) (hL : s.L.length ≤ 1000000) (hkb : 0 < q → ∀ b off, B = some ⟨b, off, none⟩ → b ≠ d ∧ b ≠ m) (L' : Files) (hc' : crashL keep s.L = L') :
    Calls Try.prog 89 #[.pointer (some ⟨d, 0, none⟩), .slice B q c] w (DiskBR w0 d m ⟨L', s.room, -1, false⟩ (.tuple #[])) := by
  subst hc'
  refine (crash_calls w h.at_ h.ok hL hk hq hkb).mono ?_
  rintro e w' ⟨rfl, hat, hc⟩
  exact ⟨rfl, h.own hat (h.ok.crash h.nodup keep) hc⟩
/-- What came in lies in other blocks. -/
theorem DiskB.apart (h : DiskB w0 w d m s) {B : Option Addr} {q : Nat} {keep : List Int} (hk : Ints w0 B q keep) : 0 < q → ∀ b off, B = some ⟨b, off, none⟩ → b ≠ d ∧ b ≠ m := by
  intro hq b off e
  obtain ⟨b', off', e', hb', _⟩ := hk.at_ hq
  rw [e] at e'
  cases e'
  have := h.dlo
  have := h.mlo
  omega
theorem DiskB.safe (h : DiskB w0 w d m s) (x : Str) (hx : okS x) (r : Bool) (hr : safeB s x = r) : Calls Try.prog 91 #[.pointer (some ⟨d, 0, none⟩), encStr x] w fun e w' => e = .returned (.bool r) ∧ w = w' := by
  rw [← hr]
  exact safe_calls x w h.at_ hx
/-- What Read answers. -/
def DiskRd (w0 w : World) (d m : Nat) (s : DSt) (n : Nat) (xs : List Int) (e : Ending) (w' : World) : Prop :=
  ∃ A c, e = .returned (.tuple #[.slice A n c, .int .i64 0]) ∧ Bytes w' A n xs ∧ n ≤ c ∧ c ≤ maxLen ∧ DiskB w0 w' d m s ∧ Chg (fun _ => False) w w'
theorem DiskB.read (h : DiskB w0 w d m s) (x : Str) (hx : okS x) (f : FileG) (hd : s.down = false) (ha : aget s.L x = some f) : Calls Try.prog 90 #[.pointer (some ⟨d, 0, none⟩), encStr x] w (DiskRd w0 w d m s f.n f.xs) := by
  refine (read_yes x f w h.at_ h.ok hx hd ha).mono ?_
  rintro e w' ⟨A, c, rfl, hb, h1, h2, hc⟩
  exact ⟨A, c, rfl, hb, h1, h2, h.new hc, hc⟩
theorem DiskB.read_no (h : DiskB w0 w d m s) (x : Str) (hx : okS x) (r : Int) (hr : findR s x = (zeroF, r)) (hr0 : r ≠ 0) : Calls Try.prog 90 #[.pointer (some ⟨d, 0, none⟩), encStr x] w (DiskBR w0 d m s (.tuple #[.slice none 0 0, .int .i64 r])) := by
  refine (Go.Proofs.Ytgmekeeemimnpaa.read_no x r w h.at_ hx hr hr0).mono ?_
  rintro e w' ⟨rfl, hc⟩
  exact ⟨rfl, h.new hc⟩
theorem DiskB.names (h : DiskB w0 w d m s) (hd : s.down = false) (hL : s.L.length ≤ 1000000) : Calls Try.prog 93 #[.pointer (some ⟨d, 0, none⟩)] w (DNames w s.L) := names_calls w h.at_ hd hL
end
end Go.Proofs.Ytgmekeeemimnpaa
