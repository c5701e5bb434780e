/- The watch: its memory, and what its functions do to a list of peers, plain. -/
import Derived.Test.YtgmekeeemimnpaaQ1
import Derived.Test.YtgmekeeemimnpaaIter
namespace Go.Proofs.Ytgmekeeemimnpaa
open Go Go.Maps Go.MapKept Go.RowKit

/-- A peer: when it was pinged first, whether a ping waits, when it was pinged or heard last. -/
abbrev Peer := Int × Bool × Int
def encP (p : Peer) : Array Value := #[.int .i64 p.1, .bool p.2.1, .int .i64 p.2.2]
/-- A watch at block b, all its blocks in F: L says who its peers are. -/
def WMem (w : World) (F : Nat → Prop) (b : Nat) (to : Int) (L : List (Int × Peer)) : Prop :=
  ∃ (g : Nat) (PL : List (Int × Nat)) (st : Nat → Peer), Blk w b 129 #[.int .i64 to, .map (some g)] ∧ MapIs (Value.int .i64) (fun p : Nat => .pointer (some ⟨p, 0, none⟩)) okI w g PL ∧
    (∀ q ∈ PL, Blk w q.2 132 (encP (st q.2)) ∧ F q.2) ∧ (PL.map (·.2)).Nodup ∧ F b ∧ F g ∧ L = PL.map (fun q => (q.1, st q.2))
section
variable {w w' : World} {F F' S : Nat → Prop} {b : Nat} {to : Int} {L : List (Int × Peer)}
theorem WMem.chg (h : WMem w F b to L) (hc : Chg S w w') (hS : ∀ i, F i → ¬ S i) : WMem w' F b to L := by
  obtain ⟨g, PL, st, hb, hm, hp, hn, f1, f2, hL⟩ := h
  exact ⟨g, PL, st, hb.chg hc (hS b f1), hm.chg hc (hS g f2), fun q hq => ⟨(hp q hq).1.chg hc (hS _ (hp q hq).2), (hp q hq).2⟩, hn, f1, f2, hL⟩
theorem WMem.mono (h : WMem w F b to L) (hF : ∀ i, F i → F' i) : WMem w F' b to L := by
  obtain ⟨g, PL, st, hb, hm, hp, hn, f1, f2, hL⟩ := h
  exact ⟨g, PL, st, hb, hm, fun q hq => ⟨(hp q hq).1, hF _ (hp q hq).2⟩, hn, hF _ f1, hF _ f2, hL⟩
theorem WMem.cell (h : WMem w F b to L) : w.cell? ⟨b, 0, none⟩ = some (.int .i64 to) := by
  obtain ⟨g, PL, st, hb, _⟩ := h
  exact hb.cell 0
end

theorem blk_ne {w : World} {a b : Nat} {t t' : TypeId} {cs cs' : Array Value} (h : Blk w a t cs) (h' : Blk w b t' cs') (hne : t ≠ t') : a ≠ b := by
  rintro rfl
  unfold Blk at h h'
  rw [h] at h'
  injection h' with h'
  injection h' with _ ht
  exact hne ht

/-! ### plain -/
def rightW (id now : Int) : Bool := decide (1 ≤ id) && decide (id ≤ 4294967296) && decide (0 ≤ now) && decide (now ≤ 1099511627776)
def addW (L : List (Int × Peer)) (id now : Int) : Int × List (Int × Peer) :=
  if rightW id now = false then (10, L) else if (aget L id).isSome then (32, L) else if L.length = 16 then (31, L) else (0, L ++ [(id, (0, false, now))])
def pinged (p : Peer) (now : Int) : Peer := if p.2.1 then (p.1, true, max p.2.2 now) else (now, true, max p.2.2 now)
def ponged (p : Peer) (now : Int) : Peer := (0, false, max p.2.2 now)
def pingW (L : List (Int × Peer)) (id now : Int) : Int × List (Int × Peer) :=
  if rightW id now = false then (10, L) else match aget L id with
    | none => (30, L)
    | some p => (0, aput L id (pinged p now))
def pongW (L : List (Int × Peer)) (id now : Int) : Int × List (Int × Peer) :=
  if rightW id now = false then (10, L) else match aget L id with
    | none => (30, L)
    | some p => (0, aput L id (ponged p now))
/-- What a watch's peers always are. -/
def okP (p : Peer) : Prop := (0 ≤ p.1 ∧ p.1 ≤ 1099511627776) ∧ (0 ≤ p.2.2 ∧ p.2.2 ≤ 1099511627776) ∧ (p.2.1 = false → p.1 = 0)
def WOk (L : List (Int × Peer)) : Prop := L.length ≤ 16 ∧ keysNodup L ∧ ∀ q ∈ L, (1 ≤ q.1 ∧ q.1 ≤ 4294967296) ∧ okP q.2
theorem rightW_true {id now : Int} (h : rightW id now = true) : 1 ≤ id ∧ id ≤ 4294967296 ∧ 0 ≤ now ∧ now ≤ 1099511627776 := by
  unfold rightW at h; simp only [Bool.and_eq_true, decide_eq_true_eq] at h; omega
theorem WOk.nil : WOk [] := ⟨by simp, nodup_nil, by simp⟩
section
variable {L : List (Int × Peer)} {id now : Int}
theorem WOk.add (h : WOk L) : WOk (addW L id now).2 := by
  unfold addW
  split
  · exact h
  split
  · exact h
  split
  · exact h
  rename_i h1 h2 h3
  have hr := rightW_true (by simpa using h1)
  have hg : aget L id = none := by simpa using h2
  obtain ⟨a, b, c⟩ := h
  refine ⟨by simp; omega, ?_, ?_⟩
  · have := nodup_aput b id ((0, false, now) : Peer)
    unfold aput at this
    rw [hg] at this
    simpa using this
  · intro q hq
    rcases List.mem_append.1 hq with hq | hq
    · exact c q hq
    · simp only [List.mem_singleton] at hq
      subst hq
      exact ⟨⟨hr.1, hr.2.1⟩, ⟨by simp, ⟨hr.2.2.1, hr.2.2.2⟩, fun _ => rfl⟩⟩
theorem WOk.put {p : Peer} (h : WOk L) (hid : (aget L id).isSome = true) (hp : okP p) : WOk (aput L id p) := by
  obtain ⟨a, b, c⟩ := h
  refine ⟨by rw [length_aput, hid]; exact a, nodup_aput b _ _, fun q hq => ?_⟩
  rcases mem_aput.1 hq with rfl | ⟨hq, _⟩
  · obtain ⟨q, hq, he⟩ := List.mem_map.1 (aget_isSome_iff.1 hid)
    exact ⟨he ▸ (c q hq).1, hp⟩
  · exact c q hq
theorem WOk.get {p : Peer} (h : WOk L) (hg : aget L id = some p) : okP p := (h.2.2 _ (aget_some_mem hg)).2
theorem okP.ping {p : Peer} (h : okP p) (h1 : 0 ≤ now) (h2 : now ≤ 1099511627776) : okP (pinged p now) := by
  obtain ⟨a, b, c⟩ := h
  unfold pinged
  split
  · exact ⟨a, by simp; omega, by simp⟩
  · exact ⟨by simp; omega, by simp; omega, by simp⟩
theorem okP.pong {p : Peer} (h : okP p) (h1 : 0 ≤ now) (h2 : now ≤ 1099511627776) : okP (ponged p now) := by
  obtain ⟨a, b, c⟩ := h
  exact ⟨by simp [ponged], by simp [ponged]; omega, fun _ => rfl⟩
theorem WOk.ping (h : WOk L) : WOk (pingW L id now).2 := by
  unfold pingW
  split
  · exact h
  · rename_i hr
    have hr := rightW_true (by simpa using hr)
    split
    · exact h
    · rename_i p hp
      exact h.put (by rw [hp]; rfl) ((h.get hp).ping hr.2.2.1 hr.2.2.2)
theorem WOk.pong (h : WOk L) : WOk (pongW L id now).2 := by
  unfold pongW
  split
  · exact h
  · rename_i hr
    have hr := rightW_true (by simpa using hr)
    split
    · exact h
    · rename_i p hp
      exact h.put (by rw [hp]; rfl) ((h.get hp).pong hr.2.2.1 hr.2.2.2)
theorem WOk.del (h : WOk L) : WOk (adel L id) := by
  obtain ⟨a, b, c⟩ := h
  exact ⟨Nat.le_trans (List.length_filter_le _ _) a, nodup_adel b _, fun q hq => c q (mem_adel.1 hq).1⟩
end

/-! ### the peers' blocks -/
theorem aget_map2 {κ α β : Type} [DecidableEq κ] (L : List (κ × α)) (f : α → β) (x : κ) : aget (L.map (fun q => (q.1, f q.2))) x = (aget L x).map f := by
  unfold aget
  rw [List.find?_map]
  simp only [Function.comp_def, Option.map_map]
theorem wmap_put {PL : List (Int × Nat)} {st : Nat → Peer} {id : Int} {p : Nat} (hk : keysNodup PL) (hn : (PL.map (·.2)).Nodup) (hg : aget PL id = some p) (v : Peer) :
    PL.map (fun q => (q.1, if q.2 = p then v else st q.2)) = aput (PL.map (fun q => (q.1, st q.2))) id v := by
  unfold aput
  rw [aget_map2, hg]
  simp only [Option.map_some, Option.isSome_some, if_true, List.map_map]
  apply List.map_congr_left
  intro q hq
  have hm := aget_some_mem hg
  simp only [Function.comp]
  by_cases h : q.1 = id
  · have e : q.2 = p := by
      have h1 := aget_of_mem hk (show (q.1, q.2) ∈ PL from hq)
      rw [h, hg] at h1
      cases h1; rfl
    simp [h, e]
  · have e : q.2 ≠ p := by
      intro e
      obtain ⟨i, hi⟩ := List.getElem?_of_mem hq
      obtain ⟨j, hj⟩ := List.getElem?_of_mem hm
      have h1 : (PL.map (·.2))[i]? = (PL.map (·.2))[j]? := by simp [hi, hj, e]
      have hil : i < (PL.map (·.2)).length := by have := (List.getElem?_eq_some_iff.1 hi).1; simpa using this
      have := (List.getElem?_inj hil hn).1 h1
      subst this
      rw [hi] at hj
      cases hj
      exact h rfl
    simp [h, e]
theorem wmap_del (PL : List (Int × Nat)) (st : Nat → Peer) (id : Int) : (adel PL id).map (fun q => (q.1, st q.2)) = adel (PL.map (fun q => (q.1, st q.2))) id := by
  unfold adel
  rw [List.filter_map]
  rfl
end Go.Proofs.Ytgmekeeemimnpaa
