/- WatchPlays: the document's list of peers, plain. -/
import Derived.Test.YtgmekeeemimnpaaWGrows
namespace Go.Proofs.Ytgmekeeemimnpaa

/-- A peer of the document's: its id, when it was pinged first, when it was pinged or heard last, whether a ping waits. -/
abbrev DPeer := Int × Int × Int × Bool
def toW (p : DPeer) : Int × Peer := (p.1, (p.2.1, p.2.2.2, p.2.2.1))
def pos : List DPeer → Int → Nat
  | [], _ => 0
  | p :: r, id => if p.1 < id then pos r id + 1 else 0
def inD (l : List DPeer) (id : Int) : Bool := match l[pos l id]? with
  | some p => p.1 == id
  | none => false
theorem pos_le : ∀ (l : List DPeer) (id : Int), pos l id ≤ l.length
  | [], _ => Nat.le_refl _
  | p :: r, id => by
    unfold pos
    split
    · have := pos_le r id; simp; omega
    · simp
theorem pos_eq : ∀ (l : List DPeer) (id : Int) (d : DPeer) (k : Nat), k ≤ l.length → (∀ j, j < k → (l.getD j d).1 < id) → (k < l.length → ¬ (l.getD k d).1 < id) → k = pos l id
  | [], _, _, k, h, _, _ => by simp at h; subst h; rfl
  | p :: r, id, d, 0, _, _, h => by
    have := h (by simp)
    unfold pos
    rw [if_neg (by simpa using this)]
  | p :: r, id, d, k + 1, h, h1, h2 => by
    have h0 := h1 0 (by omega)
    unfold pos
    rw [if_pos (by simpa using h0)]
    rw [← pos_eq r id d k (by simpa using h) (fun j hj => by simpa using h1 (j + 1) (by omega)) (fun hk => by simpa using h2 (by simpa using hk))]
theorem pos_split : ∀ (l : List DPeer) (id : Int), ∃ A B, l = A ++ B ∧ A.length = pos l id ∧ (∀ a ∈ A, a.1 < id) ∧ (∀ b, B.head? = some b → id ≤ b.1)
  | [], _ => ⟨[], [], rfl, rfl, by simp, by simp⟩
  | p :: r, id => by
    by_cases h : p.1 < id
    · obtain ⟨A, B, e, hl, hA, hB⟩ := pos_split r id
      refine ⟨p :: A, B, by rw [e]; rfl, ?_, ?_, hB⟩
      · unfold pos; rw [if_pos h, ← hl]; rfl
      · intro a ha
        rcases List.mem_cons.1 ha with rfl | ha
        · exact h
        · exact hA a ha
    · refine ⟨[], p :: r, rfl, ?_, by simp, ?_⟩
      · unfold pos; rw [if_neg h]; rfl
      · intro b hb; simp at hb; subst hb; omega

def riseD (l : List DPeer) : Prop := (l.map (·.1)).Pairwise (fun a b => a < b)
/-- Where an id is, or would be, in a list that rises. -/
theorem rise_split {l : List DPeer} (hr : riseD l) (id : Int) : ∃ A B, l = A ++ B ∧ A.length = pos l id ∧ (∀ a ∈ A, a.1 < id) ∧
    ((inD l id = true ∧ ∃ p r, B = p :: r ∧ p.1 = id ∧ ∀ b ∈ r, id < b.1) ∨ (inD l id = false ∧ ∀ b ∈ B, id < b.1)) := by
  obtain ⟨A, B, e, hl, hA, hB⟩ := pos_split l id
  have hget : l[pos l id]? = B.head? := by
    rw [← hl]
    conv => lhs; rw [e]
    rw [List.getElem?_append_right (Nat.le_refl _), Nat.sub_self, List.head?_eq_getElem?]
  have hin : inD l id = match B.head? with | some p => p.1 == id | none => false := by unfold inD; rw [hget]
  refine ⟨A, B, e, hl, hA, ?_⟩
  unfold riseD at hr
  rw [e, List.map_append, List.pairwise_append] at hr
  obtain ⟨_, hrB, _⟩ := hr
  cases B with
  | nil => exact .inr ⟨hin, by simp⟩
  | cons p r =>
    have hp := hB p rfl
    rw [List.map_cons, List.pairwise_cons] at hrB
    have hr' : ∀ b ∈ r, p.1 < b.1 := fun b hb => hrB.1 _ (List.mem_map.2 ⟨b, hb, rfl⟩)
    by_cases h : p.1 = id
    · left
      refine ⟨by rw [hin]; simpa using h, p, r, rfl, h, fun b hb => h ▸ hr' b hb⟩
    · right
      refine ⟨by rw [hin]; simpa using h, fun b hb => ?_⟩
      rcases List.mem_cons.1 hb with rfl | hb
      · omega
      · have := hr' b hb; omega

def d0P : DPeer := (0, 0, 0, false)
def stepD (l : List DPeer) (a : Int × Int × Int) : List DPeer × Int :=
  if a.1 = 2 then (if inD l a.2.1 then (l.take (pos l a.2.1) ++ l.drop (pos l a.2.1 + 1), 1) else (l, 0))
  else if rightW a.2.1 a.2.2 = false then (l, 10)
  else if a.1 = 1 then (if inD l a.2.1 then (l, 32) else if l.length = 16 then (l, 31) else (l.take (pos l a.2.1) ++ [(a.2.1, 0, a.2.2, false)] ++ l.drop (pos l a.2.1), 0))
  else if a.1 = 3 then (if inD l a.2.1 then (l.set (pos l a.2.1) (let p := l.getD (pos l a.2.1) d0P; (p.1, if p.2.2.2 then p.2.1 else a.2.2, max p.2.2.1 a.2.2, true)), 0) else (l, 30))
  else if a.1 = 4 then (if inD l a.2.1 then (l.set (pos l a.2.1) (let p := l.getD (pos l a.2.1) d0P; (a.2.1, 0, max p.2.2.1 a.2.2, false)), 0) else (l, 30))
  else (l, 0)
/-- What the watch itself does. -/
def stepW (L : List (Int × Peer)) (a : Int × Int × Int) : List (Int × Peer) × Int :=
  if a.1 = 1 then ((addW L a.2.1 a.2.2).2, (addW L a.2.1 a.2.2).1)
  else if a.1 = 2 then (adel L a.2.1, if (aget L a.2.1).isSome then 1 else 0)
  else if a.1 = 3 then ((pingW L a.2.1 a.2.2).2, (pingW L a.2.1 a.2.2).1)
  else ((pongW L a.2.1 a.2.2).2, (pongW L a.2.1 a.2.2).1)

/-- The document's list and the watch's peers are the same. -/
def SameD (l : List DPeer) (L : List (Int × Peer)) : Prop := riseD l ∧ (l.map toW).Perm L
theorem aget_perm {κ α : Type} [DecidableEq κ] {L M : List (κ × α)} (hn : keysNodup L) (h : L.Perm M) (x : κ) : aget L x = aget M x := by
  have hm : keysNodup M := by unfold keysNodup at *; exact (h.map _).nodup_iff.1 hn
  cases hg : aget M x with
  | some v => exact aget_of_mem hn (h.mem_iff.2 (aget_some_mem hg))
  | none =>
    rw [aget_none_iff] at hg ⊢
    exact fun p hp => hg p (h.mem_iff.1 hp)
section
variable {l : List DPeer} {L : List (Int × Peer)} {id : Int}
theorem SameD.keys (h : SameD l L) : keysNodup (l.map toW) := by
  unfold keysNodup
  rw [List.map_map]
  have : ((fun x : Int × Peer => x.1) ∘ toW) = (fun x : DPeer => x.1) := rfl
  rw [this]
  exact h.1.imp (fun h => by omega)
theorem SameD.len (h : SameD l L) : l.length = L.length := by have := h.2.length_eq; simpa using this
theorem SameD.get (h : SameD l L) : aget L id = aget (l.map toW) id := (aget_perm h.keys h.2 id).symm
theorem SameD.no (h : SameD l L) (hi : inD l id = false) : aget L id = none := by
  obtain ⟨A, B, e, _, hA, ⟨h1, _⟩ | ⟨_, hB⟩⟩ := rise_split h.1 id
  · rw [hi] at h1; cases h1
  · rw [h.get, aget_none_iff]
    intro q hq
    obtain ⟨p, hp, rfl⟩ := List.mem_map.1 hq
    rw [e] at hp
    rcases List.mem_append.1 hp with hp | hp
    · have := hA p hp; show p.1 ≠ id; omega
    · have := hB p hp; show p.1 ≠ id; omega
/-- .. where it is. -/
theorem SameD.yes (h : SameD l L) (hi : inD l id = true) : ∃ A p r, l = A ++ p :: r ∧ A.length = pos l id ∧ p.1 = id ∧ (∀ a ∈ A, a.1 < id) ∧ (∀ b ∈ r, id < b.1) ∧ aget L id = some (toW p).2 ∧ l.getD (pos l id) d0P = p := by
  obtain ⟨A, B, e, hl, hA, ⟨_, p, r, rfl, hp, hr⟩ | ⟨h1, _⟩⟩ := rise_split h.1 id
  · refine ⟨A, p, r, e, hl, hp, hA, hr, ?_, ?_⟩
    · rw [h.get]
      refine aget_of_mem h.keys ?_
      have : (id, (toW p).2) = toW p := by rw [← hp]; rfl
      rw [this]
      exact List.mem_map.2 ⟨p, by rw [e]; simp, rfl⟩
    · rw [← hl]
      conv => lhs; arg 1; rw [e]
      simp [List.getD]
  · rw [hi] at h1; cases h1
theorem SameD.isSome (h : SameD l L) : (aget L id).isSome = inD l id := by
  cases hi : inD l id with
  | false => rw [h.no hi]; rfl
  | true => obtain ⟨A, p, r, _, _, _, _, _, hg, _⟩ := h.yes hi; rw [hg]; rfl
end
theorem aput_perm {κ α : Type} [DecidableEq κ] {L M : List (κ × α)} (hn : keysNodup L) (h : L.Perm M) (x : κ) (v : α) : (aput L x v).Perm (aput M x v) := by
  unfold aput
  rw [aget_perm hn h x]
  split
  · exact h.map _
  · exact h.append_right _
theorem adel_perm {κ α : Type} [DecidableEq κ] {L M : List (κ × α)} (h : L.Perm M) (x : κ) : (adel L x).Perm (adel M x) := h.filter _
theorem rise_mid {A r : List DPeer} {id : Int} (h : riseD (A ++ r)) (p : DPeer) (hp : p.1 = id) (hA : ∀ a ∈ A, a.1 < id) (hr : ∀ b ∈ r, id < b.1) : riseD (A ++ p :: r) := by
  unfold riseD at h ⊢
  rw [List.map_append, List.pairwise_append] at h ⊢
  obtain ⟨h1, h2, h3⟩ := h
  refine ⟨h1, ?_, ?_⟩
  · rw [List.map_cons, List.pairwise_cons]
    exact ⟨fun b hb => by obtain ⟨q, hq, rfl⟩ := List.mem_map.1 hb; rw [hp]; exact hr q hq, h2⟩
  · intro a ha b hb
    rw [List.map_cons, List.mem_cons] at hb
    rcases hb with rfl | hb
    · obtain ⟨q, hq, rfl⟩ := List.mem_map.1 ha; rw [hp]; exact hA q hq
    · exact h3 a ha b hb
theorem rise_out {A r : List DPeer} {p : DPeer} (h : riseD (A ++ p :: r)) : riseD (A ++ r) := by
  unfold riseD at h ⊢
  rw [List.map_append, List.pairwise_append] at h ⊢
  obtain ⟨h1, h2, h3⟩ := h
  rw [List.map_cons, List.pairwise_cons] at h2
  exact ⟨h1, h2.2, fun a ha b hb => h3 a ha b (by rw [List.map_cons]; exact List.mem_cons_of_mem _ hb)⟩
/-- The entry of an id is replaced. -/
theorem put_mid {A r : List DPeer} {p q : DPeer} {id : Int} (hp : p.1 = id) (hq : q.1 = id) (hA : ∀ a ∈ A, a.1 < id) (hr : ∀ b ∈ r, id < b.1) : aput ((A ++ p :: r).map toW) id (toW q).2 = (A ++ q :: r).map toW := by
  have hs : (aget ((A ++ p :: r).map toW) id).isSome = true := by
    rw [aget_isSome_iff, List.map_map]
    exact List.mem_map.2 ⟨p, by simp, hp⟩
  unfold aput
  rw [if_pos hs, List.map_append, List.map_append, List.map_append, List.map_cons, List.map_cons, List.map_cons]
  have hz : toW q = (id, (toW q).2) := by rw [← hq]; rfl
  congr 1
  · rw [List.map_map]
    apply List.map_congr_left
    intro a ha
    have := hA a ha
    simp only [Function.comp]
    rw [if_neg]
    show a.1 ≠ id
    omega
  · congr 1
    · rw [if_pos (show (toW p).1 = id from hp)]; exact hz.symm
    · rw [List.map_map]
      apply List.map_congr_left
      intro a ha
      have := hr a ha
      simp only [Function.comp]
      rw [if_neg]
      show a.1 ≠ id
      omega
theorem del_mid {A r : List DPeer} {p : DPeer} {id : Int} (hp : p.1 = id) (hA : ∀ a ∈ A, a.1 < id) (hr : ∀ b ∈ r, id < b.1) : adel ((A ++ p :: r).map toW) id = (A ++ r).map toW := by
  unfold adel
  rw [List.map_append, List.filter_append, List.map_cons, List.filter_cons, List.map_append]
  have h0 : (!decide ((toW p).1 = id)) = false := by simp; exact hp
  rw [h0]
  simp only [Bool.false_eq_true, if_false]
  congr 1
  · rw [List.filter_eq_self]
    intro q hq
    obtain ⟨a, ha, rfl⟩ := List.mem_map.1 hq
    have := hA a ha
    simp only [Bool.not_eq_true', decide_eq_false_iff_not]
    show a.1 ≠ id
    omega
  · rw [List.filter_eq_self]
    intro q hq
    obtain ⟨a, ha, rfl⟩ := List.mem_map.1 hq
    have := hr a ha
    simp only [Bool.not_eq_true', decide_eq_false_iff_not]
    show a.1 ≠ id
    omega
theorem set_mid {A r : List DPeer} {p q : DPeer} {k : Nat} (hk : A.length = k) : (A ++ p :: r).set k q = A ++ q :: r := by
  subst hk
  rw [List.set_append_right _ _ (Nat.le_refl _), Nat.sub_self, List.set_cons_zero]

section
variable (l : List DPeer) (L : List (Int × Peer)) (id t : Int)
theorem stepW_1 : stepW L (1, id, t) = ((addW L id t).2, (addW L id t).1) := by simp [stepW]
theorem stepW_2 : stepW L (2, id, t) = (adel L id, if (aget L id).isSome then 1 else 0) := by unfold stepW; rw [if_neg (by show ¬ (2 : Int) = 1; decide), if_pos rfl]
theorem stepW_3 : stepW L (3, id, t) = ((pingW L id t).2, (pingW L id t).1) := by unfold stepW; rw [if_neg (by show ¬ (3 : Int) = 1; decide), if_neg (by show ¬ (3 : Int) = 2; decide), if_pos rfl]
theorem stepW_4 : stepW L (4, id, t) = ((pongW L id t).2, (pongW L id t).1) := by unfold stepW; rw [if_neg (by show ¬ (4 : Int) = 1; decide), if_neg (by show ¬ (4 : Int) = 2; decide), if_neg (by show ¬ (4 : Int) = 3; decide)]
theorem stepD_1 : stepD l (1, id, t) = if rightW id t = false then (l, 10) else if inD l id then (l, 32) else if l.length = 16 then (l, 31) else (l.take (pos l id) ++ [(id, 0, t, false)] ++ l.drop (pos l id), 0) := by
  unfold stepD; rw [if_neg (by show ¬ (1 : Int) = 2; decide)]
  by_cases h : rightW id t = false
  · rw [if_pos h, if_pos h]
  · rw [if_neg h, if_neg h, if_pos rfl]
theorem stepD_2 : stepD l (2, id, t) = if inD l id then (l.take (pos l id) ++ l.drop (pos l id + 1), 1) else (l, 0) := by unfold stepD; rw [if_pos rfl]
theorem stepD_3 : stepD l (3, id, t) = if rightW id t = false then (l, 10) else if inD l id then (l.set (pos l id) (let p := l.getD (pos l id) d0P; (p.1, if p.2.2.2 then p.2.1 else t, max p.2.2.1 t, true)), 0) else (l, 30) := by
  unfold stepD; rw [if_neg (by show ¬ (3 : Int) = 2; decide)]
  by_cases h : rightW id t = false
  · rw [if_pos h, if_pos h]
  · rw [if_neg h, if_neg h, if_neg (by show ¬ (3 : Int) = 1; decide), if_pos rfl]
theorem stepD_4 : stepD l (4, id, t) = if rightW id t = false then (l, 10) else if inD l id then (l.set (pos l id) (let p := l.getD (pos l id) d0P; (id, 0, max p.2.2.1 t, false)), 0) else (l, 30) := by
  unfold stepD; rw [if_neg (by show ¬ (4 : Int) = 2; decide)]
  by_cases h : rightW id t = false
  · rw [if_pos h, if_pos h]
  · rw [if_neg h, if_neg h, if_neg (by show ¬ (4 : Int) = 1; decide), if_neg (by show ¬ (4 : Int) = 3; decide), if_pos rfl]
end

/-- A step of both. -/
theorem same_step {l : List DPeer} {L : List (Int × Peer)} (h : SameD l L) (a : Int × Int × Int) (ha : a.1 = 1 ∨ a.1 = 2 ∨ a.1 = 3 ∨ a.1 = 4) : (stepW L a).2 = (stepD l a).2 ∧ SameD (stepD l a).1 (stepW L a).1 := by
  obtain ⟨how, id, t⟩ := a
  simp only at ha
  have hlen := h.len
  have hiS := h.isSome (id := id)
  rcases ha with rfl | rfl | rfl | rfl
  · -- Add
    rw [stepW_1, stepD_1]
    unfold addW
    by_cases hr : rightW id t = false
    · rw [if_pos hr, if_pos hr]; exact ⟨rfl, h⟩
    rw [if_neg hr, if_neg hr, hiS]
    cases hi : inD l id with
    | true => simp only [if_true]; exact ⟨trivial, h⟩
    | false =>
      simp only [Bool.false_eq_true, if_false, hlen]
      by_cases h16 : L.length = 16
      · rw [if_pos h16, if_pos h16]; exact ⟨rfl, h⟩
      · rw [if_neg h16, if_neg h16]
        refine ⟨rfl, ?_⟩
        obtain ⟨A, B, e, hl, hA, ⟨h1, _⟩ | ⟨_, hB⟩⟩ := rise_split h.1 id
        · rw [hi] at h1; cases h1
        have e1 : l.take (pos l id) = A := by rw [← hl, e]; simp
        have e2 : l.drop (pos l id) = B := by rw [← hl, e]; simp
        simp only [e1, e2]
        have hr0 : riseD (A ++ B) := e ▸ h.1
        refine ⟨by simpa using rise_mid hr0 (id, 0, t, false) rfl hA hB, ?_⟩
        have hp := h.2
        rw [e] at hp
        simp only [List.append_assoc, List.singleton_append, List.map_append, List.map_cons] at hp ⊢
        refine (List.perm_middle).trans ?_
        refine (List.Perm.cons _ hp).trans ?_
        exact (List.perm_append_singleton _ _).symm
  · -- Remove
    rw [stepW_2, stepD_2, hiS]
    cases hi : inD l id with
    | false =>
      simp only [Bool.false_eq_true, if_false]
      exact ⟨trivial, h.1, by rw [adel_of_not (h.no hi)]; exact h.2⟩
    | true =>
      simp only [if_true]
      obtain ⟨A, p, r, e, hl, hp, hA, hr, _, _⟩ := h.yes hi
      have e1 : l.take (pos l id) = A := by rw [← hl, e]; simp
      have e2 : l.drop (pos l id + 1) = r := by rw [← hl, e, List.drop_append]; simp
      rw [e1, e2]
      refine ⟨trivial, rise_out (e ▸ h.1), ?_⟩
      have := adel_perm h.2 id
      rw [e, del_mid hp hA hr] at this
      exact this
  · -- Ping
    rw [stepW_3, stepD_3]
    unfold pingW
    by_cases hr : rightW id t = false
    · rw [if_pos hr, if_pos hr]; exact ⟨rfl, h⟩
    rw [if_neg hr, if_neg hr]
    cases hi : inD l id with
    | false => simp only [Bool.false_eq_true, if_false]; rw [h.no hi]; exact ⟨rfl, h⟩
    | true =>
      simp only [if_true]
      obtain ⟨A, p, r, e, hl, hp, hA, hr', hg, hd⟩ := h.yes hi
      rw [hg, hd]
      refine ⟨rfl, ?_⟩
      obtain ⟨pid, s, lst, wt⟩ := p
      simp only at hp
      subst hp
      have hq : (toW (pid, if wt then s else t, max lst t, true)).2 = pinged (toW (pid, s, lst, wt)).2 t := by
        cases wt <;> simp [toW, pinged]
      simp only
      have hset : l.set (pos l pid) (pid, if wt then s else t, max lst t, true) = A ++ (pid, if wt then s else t, max lst t, true) :: r := by
        rw [← hl]; conv => lhs; rw [e]
        exact set_mid rfl
      rw [hset]
      refine ⟨rise_mid (rise_out (e ▸ h.1)) _ rfl hA hr', ?_⟩
      have := aput_perm h.keys h.2 pid (toW (pid, if wt then s else t, max lst t, true)).2
      rw [e, put_mid (p := (pid, s, lst, wt)) (q := (pid, if wt then s else t, max lst t, true)) (id := pid) rfl rfl hA hr', hq] at this
      exact this
  · -- Pong
    rw [stepW_4, stepD_4]
    unfold pongW
    by_cases hr : rightW id t = false
    · rw [if_pos hr, if_pos hr]; exact ⟨rfl, h⟩
    rw [if_neg hr, if_neg hr]
    cases hi : inD l id with
    | false => simp only [Bool.false_eq_true, if_false]; rw [h.no hi]; exact ⟨rfl, h⟩
    | true =>
      simp only [if_true]
      obtain ⟨A, p, r, e, hl, hp, hA, hr', hg, hd⟩ := h.yes hi
      rw [hg, hd]
      refine ⟨rfl, ?_⟩
      obtain ⟨pid, s, lst, wt⟩ := p
      simp only at hp
      subst hp
      have hq : (toW (pid, 0, max lst t, false)).2 = ponged (toW (pid, s, lst, wt)).2 t := by simp [toW, ponged]
      simp only
      have hset : l.set (pos l pid) (pid, 0, max lst t, false) = A ++ (pid, 0, max lst t, false) :: r := by
        rw [← hl]; conv => lhs; rw [e]
        exact set_mid rfl
      rw [hset]
      refine ⟨rise_mid (rise_out (e ▸ h.1)) _ rfl hA hr', ?_⟩
      have := aput_perm h.keys h.2 pid (toW (pid, 0, max lst t, false)).2
      rw [e, put_mid (p := (pid, s, lst, wt)) (q := (pid, 0, max lst t, false)) (id := pid) rfl rfl hA hr', hq] at this
      exact this
theorem same_which {l : List DPeer} {L : List (Int × Peer)} (h : SameD l L) (hB : Peer → Bool) : whichW hB L = (l.filter (fun p => hB (toW p).2)).map (·.1) := by
  unfold whichW
  rw [sortI_of_perm ((h.2.symm.filter _).map _)]
  have e : ((l.map toW).filter (fun q => hB q.2)).map (·.1) = (l.filter (fun p => hB (toW p).2)).map (·.1) := by
    rw [List.filter_map, List.map_map]; rfl
  rw [e]
  have hr : ((l.filter (fun p => hB (toW p).2)).map (·.1)).Pairwise (fun a b => a < b) := h.1.sublist (List.filter_sublist.map _)
  exact rise_ext (sortI_lt (hr.imp (fun h => by omega))) hr (fun x => mem_sortI)
theorem same_ids {l : List DPeer} {L : List (Int × Peer)} (h : SameD l L) : sortI (L.map (·.1)) = l.map (·.1) := by
  rw [sortI_of_perm (h.2.symm.map _), List.map_map]
  exact rise_ext (sortI_lt (h.1.imp (fun h => by omega))) h.1 (fun x => mem_sortI)
theorem same_waits {l : List DPeer} {L : List (Int × Peer)} (h : SameD l L) {p : DPeer} (hp : p ∈ l) : waitsW L p.1 = (p.2.1, p.2.2.2) := by
  have hg : aget L p.1 = some (toW p).2 := by
    rw [h.get]
    exact aget_of_mem h.keys (List.mem_map.2 ⟨p, hp, rfl⟩)
  unfold waitsW
  rw [hg]
  rfl
theorem same_nil : SameD [] [] := ⟨by simp [riseD], List.Perm.refl _⟩
end Go.Proofs.Ytgmekeeemimnpaa
