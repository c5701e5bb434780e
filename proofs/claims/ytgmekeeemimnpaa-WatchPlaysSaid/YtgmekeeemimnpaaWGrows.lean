/- WatchGrows, walked: who is due, or late, and isn't pinged or heard, is so for ever. -/
import Derived.Test.YtgmekeeemimnpaaWAct
namespace Go.Proofs.Ytgmekeeemimnpaa
open Go Go.Maps Go.MapKept Go.RowKit

/-! ### what is left of a list when another one has gone by -/
def eat (l : List Int) (x : Int) : List Int := match l with
  | [] => []
  | y :: r => if y = x then r else y :: r
def rest (l m : List Int) : List Int := m.foldl eat l
theorem rest_nil (m : List Int) : rest [] m = [] := by
  unfold rest
  induction m with
  | nil => rfl
  | cons x m ih => simpa [eat] using ih
theorem rest_sub : ∀ {m l : List Int}, l.Sublist m → rest l m = []
  | [], l, h => by rw [List.sublist_nil.1 h]; rfl
  | y :: m, [], _ => rest_nil _
  | y :: m, x :: l, h => by
    show rest (eat (x :: l) y) m = []
    unfold eat
    by_cases e : x = y
    · subst e
      simp only [if_true]
      exact rest_sub (List.cons_sublist_cons.1 h)
    · simp only [if_neg e]
      rcases List.sublist_cons_iff.1 h with h1 | ⟨r, h1, _⟩
      · exact rest_sub h1
      · cases h1; exact absurd rfl e
theorem rest_snoc (l m : List Int) (x : Int) : rest l (m ++ [x]) = eat (rest l m) x := by simp [rest]
theorem eat_drop_eq {l : List Int} {a : Nat} {x : Int} (h : a < l.length) (he : l.getD a 0 = x) : eat (l.drop a) x = l.drop (a + 1) := by
  rw [List.drop_eq_getElem_cons h]
  rw [getD_get l a h] at he
  simp [eat, he]
theorem eat_drop_ne {l : List Int} {a : Nat} {x : Int} (h : a < l.length) (he : l.getD a 0 ≠ x) : eat (l.drop a) x = l.drop a := by
  rw [List.drop_eq_getElem_cons h]
  rw [getD_get l a h] at he
  simp [eat, he]
theorem eat_drop_all {l : List Int} {a : Nat} {x : Int} (h : l.length ≤ a) : eat (l.drop a) x = l.drop a := by
  rw [List.drop_eq_nil_of_le h]; rfl

theorem whichW_mem {hB : Peer → Bool} {L : List (Int × Peer)} (hn : keysNodup L) {x : Int} : x ∈ whichW hB L ↔ ∃ p, aget L x = some p ∧ hB p = true := by
  unfold whichW
  rw [mem_sortI, List.mem_map]
  constructor
  · rintro ⟨⟨i, p⟩, hq, rfl⟩
    obtain ⟨h1, h2⟩ := List.mem_filter.1 hq
    exact ⟨p, aget_of_mem hn h1, h2⟩
  · rintro ⟨p, h1, h2⟩
    exact ⟨(x, p), List.mem_filter.2 ⟨aget_some_mem h1, h2⟩, rfl⟩
theorem whichW_lt {hB : Peer → Bool} {L : List (Int × Peer)} (hn : keysNodup L) : (whichW hB L).Pairwise (fun a b => a < b) := by
  unfold whichW
  refine sortI_lt ?_
  exact (List.filter_sublist.map _).nodup hn
theorem whichW_sub {h1 h2 : Peer → Bool} {L : List (Int × Peer)} (hk : WOk L) (h : ∀ q ∈ L, h1 q.2 = true → h2 q.2 = true) : (whichW h1 L).Sublist (whichW h2 L) := by
  have hn := hk.2.1
  have e : whichW h1 L = (whichW h2 L).filter (fun x => (aget L x).any h1) := by
    refine rise_ext (whichW_lt hn) ((whichW_lt hn).filter _) fun x => ?_
    rw [List.mem_filter, whichW_mem hn, whichW_mem hn]
    constructor
    · rintro ⟨p, a, b⟩
      exact ⟨⟨p, a, h _ (aget_some_mem a) b⟩, by rw [a]; simpa using b⟩
    · rintro ⟨⟨p, a, _⟩, b⟩
      rw [a] at b
      exact ⟨p, a, by simpa using b⟩
  rw [e]
  exact List.filter_sublist
theorem due_later {to now later : Int} {L : List (Int × Peer)} (hk : WOk L) (h : now ≤ later) : (whichW (dueB to now) L).Sublist (whichW (dueB to later) L) :=
  whichW_sub hk fun q _ hq => by
    unfold dueB at hq ⊢
    simp only [Bool.and_eq_true, decide_eq_true_eq] at hq ⊢
    omega
theorem late_later {to now later : Int} {L : List (Int × Peer)} (hk : WOk L) (h : now ≤ later) : (whichW (lateB to now) L).Sublist (whichW (lateB to later) L) :=
  whichW_sub hk fun q _ hq => by
    unfold lateB at hq ⊢
    simp only [Bool.and_eq_true, decide_eq_true_eq] at hq ⊢
    exact ⟨⟨hq.1.1, by omega⟩, by omega⟩

set_option maxRecDepth 100000 in
set_option maxHeartbeats 4000000 in
/-- The statement's own 'in'. -/
theorem in_calls {A B : Option Addr} {n m c d : Nat} {l x : List Int} (w : World) (hl : Ints w A n l) (hm : Ints w B m x) (hs : l.Sublist x) (hn : n ≤ 1000000) (hmm : m ≤ 1000000) :
    Calls Try.prog 55 #[.slice A n c, .slice B m d] w fun e w' => e = .returned (.bool true) ∧ w = w' := by
  have HL := hideIt hl
  have HM := hideIt hm
  have HLN := hideIt hl.len
  have HMN := hideIt hm.len
  have HR := hideIt (rest_sub hs)
  clear hl hm hs
  go_enter Try.func55, Try.ntmps55
  go_wp2
  go_loop [5, 10] (fun a i => ∃ (k j : Nat), k ≤ m ∧ j ≤ n ∧ i = .int .i64 k ∧ a = .int .i64 j ∧ rest l (x.take k) = l.drop j) (fun _ i => m - (intOf i).toNat)
  case atStart => exact ⟨0, 0, by omega, by omega, rfl, rfl, rfl⟩
  case round =>
    obtain ⟨k, j, hk, hj, rfl, rfl, hrest⟩ := hrel
    have HREST := hideIt hrest
    clear hrest
    by_cases hlt : k < m
    · obtain ⟨p, off, rfl, hbl, hcell⟩ := HM.out.at_ (by omega)
      have hx := hcell k hlt
      have htk := take_succ_getD x k (by rw [HMN.out]; exact hlt)
      obtain ⟨t, hT⟩ : ∃ t, x.getD k 0 = t := ⟨_, rfl⟩
      rw [hT] at hx htk
      have HTK := hideIt htk
      clear hT hcell htk
      by_cases hjn : j < n
      · obtain ⟨p2, off2, rfl, hbl2, hcell2⟩ := HL.out.at_ (by omega)
        have hy := hcell2 j hjn
        obtain ⟨u, hU⟩ : ∃ u, l.getD j 0 = u := ⟨_, rfl⟩
        rw [hU] at hy
        have HU := hideIt hU
        clear hU hcell2
        by_cases hut : u = t
        · have hb : (u == t) = true := by simpa using hut
          have HE : Hid (rest l (x.take (k + 1)) = l.drop (j + 1)) := hideIt (by rw [HTK.out, rest_snoc, HREST.out, eat_drop_eq (by rw [HLN.out]; exact hjn) (HU.out.trans hut)])
          clear hut
          go_wp2
          exact ⟨⟨k + 1, j + 1, by omega, by omega, by go_num, by go_num, HE.out⟩, by simp [intOf]; omega⟩
        · have hb : (u == t) = false := by simpa using hut
          have HE : Hid (rest l (x.take (k + 1)) = l.drop j) := hideIt (by rw [HTK.out, rest_snoc, HREST.out, eat_drop_ne (by rw [HLN.out]; exact hjn) (by rw [HU.out]; exact hut)])
          clear hut
          go_wp2
          exact ⟨⟨k + 1, j, by omega, by omega, by go_num, rfl, HE.out⟩, by simp [intOf]; omega⟩
      · have HE : Hid (rest l (x.take (k + 1)) = l.drop j) := hideIt (by rw [HTK.out, rest_snoc, HREST.out, eat_drop_all (by rw [HLN.out]; omega)])
        go_wp2
        exact ⟨⟨k + 1, j, by omega, by omega, by go_num, rfl, HE.out⟩, by simp [intOf]; omega⟩
    · obtain rfl : k = m := by omega
      have hj2 : j = n := by
        have h1 := HREST.out
        rw [show x.take k = x by rw [← HMN.out, List.take_length], HR.out] at h1
        have h2 := congrArg List.length h1
        simp only [List.length_nil, List.length_drop, HLN.out] at h2
        omega
      subst hj2
      go_wp2
      go_ret
      exact ⟨ret_bool (by simp), rfl⟩
end Go.Proofs.Ytgmekeeemimnpaa
