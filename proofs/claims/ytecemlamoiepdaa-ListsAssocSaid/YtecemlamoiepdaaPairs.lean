/- Plain law of a heap of pairs alone: the k-th pair lies at the address 2k; rows of pairs, what they hold and where they lead. No program in sight. -/
import Derived.Test.YtecemlamoiepdaaLies
namespace Go.Proofs.Ytecemlamoiepdaa
open Go.RowKit

structure PK (M : Hp) (n : Nat) : Prop where
  cur : M.cur 0 = M.segs.length
  segs : M.segs.length = (n + 31) / 32
  kind : ∀ (j : Nat) (s : Sg), M.segs[j]? = some s → s.kind = 0
  len : ∀ (j : Nat) (s : Sg), M.segs[j]? = some s → s.words.length = min 64 (2 * n - 64 * j)

theorem PK.empty (l : Nat) : PK (Hp.empty l) 0 := ⟨rfl, rfl, by intro j s h; simp [Hp.empty] at h, by intro j s h; simp [Hp.empty] at h⟩

/-- the k-th pair -/
def Pr (M : Hp) (k x y : Nat) : Prop := M.Lies (2 * k) 0 [x, y]

theorem PK.obj {M : Hp} {n : Nat} (h : PK M n) (x : Nat) : M.objOf x = none := by
  have h1 : ∀ kk, kk ≠ 0 → M.objIn x kk = none := by
    intro kk hk
    have h0 : M.atOf x 3 kk = none := by
      cases ha : M.atOf x 3 kk with
      | none => rfl
      | some a =>
        obtain ⟨_, _, _, s, hs, hsk, _⟩ := Hp.atOf_some ha
        exact absurd ((h.kind _ _ hs).symm.trans hsk).symm hk
    unfold Hp.objIn
    rw [h0]
  unfold Hp.objOf
  rw [h1 2 (by omega), h1 3 (by omega)]

theorem PK.typ {M : Hp} {n : Nat} (h : PK M n) (x : Nat) : M.typ x = 0 := by unfold Hp.typ; rw [h.obj]

theorem Pr.grown {M M' : Hp} {k x y : Nat} (h : Pr M k x y) (g : M.Grown M') : Pr M' k x y := Hp.Lies.grown h g

theorem Pr.pair {M : Hp} (o : M.Ok) {k x y : Nat} (h : Pr M k x y) : M.pairOf (16 * k + 1) = some (2 * k) := by
  have hlt := Hp.Lies.lt o h
  obtain ⟨pre, post, h1, h2⟩ := h
  have hin : 2 * k % 64 < (pre ++ [x, y] ++ post).length := by simp; omega
  rw [show 16 * k + 1 = 2 * k * 8 + 1 by omega]
  unfold Hp.pairOf
  rw [Hp.atOf_eq (t := 1) (by omega) hlt, h1]
  simp only
  rw [if_pos ⟨trivial, hin⟩]
  simp

theorem Pr.car {M : Hp} (o : M.Ok) {k x y : Nat} (h : Pr M k x y) : M.half (16 * k + 1) 0 = some x := by
  unfold Hp.half
  rw [h.pair o]
  exact Hp.Lies.rd o h 0 (by simp)

theorem Pr.cdr {M : Hp} (o : M.Ok) {k x y : Nat} (h : Pr M k x y) : M.half (16 * k + 1) 1 = some y := by
  unfold Hp.half
  rw [h.pair o]
  exact Hp.Lies.rd o h 1 (by simp)

theorem Pr.lt {M : Hp} (o : M.Ok) {k x y : Nat} (h : Pr M k x y) : 2 * k < 65536 := Hp.Lies.lt o h

theorem Pr.fun {M : Hp} (o : M.Ok) {k x y x' y' : Nat} (h : Pr M k x y) (h' : Pr M k x' y') : x = x' ∧ y = y' := by
  have a := (h.car o).symm.trans (h'.car o)
  have b := (h.cdr o).symm.trans (h'.cdr o)
  exact ⟨by simpa using a, by simpa using b⟩

/-- no pair: by its tag -/
theorem nopair {M : Hp} {x : Nat} (h : tagOf x ≠ 1 ∧ tagOf x ≠ 2) : M.pairOf x = none := by
  have h1 : ∀ t k, t = 1 ∨ t = 2 → M.atOf x t k = none := by
    intro t k ht
    unfold Hp.atOf
    rw [if_neg (by rintro ⟨_, e⟩; omega)]
  unfold Hp.pairOf
  rw [h1 1 0 (by omega), h1 2 1 (by omega)]

/-- one pair more -/
theorem PK.cons {M : Hp} {n : Nat} (o : M.Ok) (h : PK M n) (x y : Nat) (hn : n < 32 * M.limit) : ∃ M', M.two 0 x y = (16 * n + 1, 0, M') ∧ PK M' (n + 1) ∧ M.Grown M' ∧ Pr M' n x y := by
  have key : ∃ M', M.putAt 0 [x, y] = some (2 * n, M') ∧ PK M' (n + 1) := by
    have hl := h.segs
    by_cases hm : n % 32 = 0
    · have hr : M.room 0 2 = none := by
        unfold Hp.room
        split
        · rfl
        · rename_i hc
          rw [h.cur] at hc ⊢
          cases hs : M.segs[M.segs.length - 1]? with
          | none => rfl
          | some s =>
            have := h.len _ _ hs
            simp only
            rw [if_neg (by omega)]
      have hlt : M.segs.length < M.limit := by omega
      refine ⟨_, by unfold Hp.putAt; rw [show [x, y].length = 2 from rfl, hr]; simp only; rw [if_pos hlt, show M.segs.length * 64 = 2 * n by omega], ?_, ?_, ?_, ?_⟩
      · unfold Hp.upd Hp.fresh Hp.setCur Hp.more; simp
      · unfold Hp.upd Hp.fresh Hp.setCur Hp.more; simp; omega
      · intro j s hs
        unfold Hp.upd Hp.fresh Hp.setCur Hp.more at hs
        simp only at hs
        by_cases hj : j = M.segs.length
        · subst hj; simp at hs; rw [← hs]
        · rw [List.getElem?_set_ne (by omega)] at hs
          rcases Nat.lt_or_ge j M.segs.length with h1 | h1
          · rw [List.getElem?_append_left h1] at hs; exact h.kind _ _ hs
          · rw [List.getElem?_append_right h1, List.getElem?_eq_none (by simp; omega)] at hs; cases hs
      · intro j s hs
        unfold Hp.upd Hp.fresh Hp.setCur Hp.more at hs
        simp only at hs
        by_cases hj : j = M.segs.length
        · subst hj; simp at hs; rw [← hs]; simp; omega
        · rw [List.getElem?_set_ne (by omega)] at hs
          rcases Nat.lt_or_ge j M.segs.length with h1 | h1
          · rw [List.getElem?_append_left h1] at hs; have := h.len _ _ hs; omega
          · rw [List.getElem?_append_right h1, List.getElem?_eq_none (by simp; omega)] at hs; cases hs
    · have hpos : 0 < M.segs.length := by omega
      obtain ⟨s, hs⟩ : ∃ s, M.segs[M.segs.length - 1]? = some s := ⟨_, List.getElem?_eq_getElem (by omega)⟩
      have hsl := h.len _ _ hs
      have hr : M.room 0 2 = some (M.segs.length - 1, s) := by
        unfold Hp.room
        rw [h.cur, if_neg (by omega), hs]
        simp only
        rw [if_pos (by omega)]
      refine ⟨_, by unfold Hp.putAt; rw [show [x, y].length = 2 from rfl, hr]; simp only; rw [show (M.segs.length - 1) * 64 + s.words.length = 2 * n by omega], ?_, ?_, ?_, ?_⟩
      · unfold Hp.upd; simp; exact h.cur
      · unfold Hp.upd; simp; omega
      · intro j t ht
        unfold Hp.upd at ht
        simp only at ht
        by_cases hj : j = M.segs.length - 1
        · subst hj; rw [List.getElem?_set_self (by omega)] at ht; cases ht; exact h.kind (M.segs.length - 1) s hs
        · rw [List.getElem?_set_ne (by omega)] at ht; exact h.kind _ _ ht
      · intro j t ht
        unfold Hp.upd at ht
        simp only at ht
        by_cases hj : j = M.segs.length - 1
        · subst hj; rw [List.getElem?_set_self (by omega)] at ht; cases ht; simp; omega
        · rw [List.getElem?_set_ne (by omega)] at ht
          have h1 : j < M.segs.length := (List.getElem?_eq_some_iff.1 ht).1
          have := h.len _ _ ht; omega
  obtain ⟨M', hp, hk⟩ := key
  obtain ⟨g, ⟨pre, h1, h2, _⟩, _, _⟩ := Hp.putAt_grown o (by simp) hp
  refine ⟨M', ?_, hk, g, pre, [], by rw [h1, List.append_nil], h2⟩
  unfold Hp.two Hp.cons
  rw [hp]
  simp only [Option.map_some]
  rw [show 2 * n * 8 + (0 + 1) = 16 * n + 1 by omega]

/-! ### rows of pairs: each with its own word and what it holds -/
def LSeg (M : Hp) : Nat → List (Nat × Nat) → Nat → Prop
  | v, [], q => v = q
  | v, (u, x) :: t, q => v = u ∧ ∃ k d, u = 16 * k + 1 ∧ Pr M k x d ∧ LSeg M d t q

theorem LSeg.grown {M M' : Hp} (g : M.Grown M') : ∀ {v : Nat} {l : List (Nat × Nat)} {q : Nat}, LSeg M v l q → LSeg M' v l q
  | _, [], _, h => h
  | _, (_, _) :: _, _, ⟨h0, k, d, h1, h2, h3⟩ => ⟨h0, k, d, h1, h2.grown g, LSeg.grown g h3⟩

theorem LSeg.append {M : Hp} : ∀ {l m : List (Nat × Nat)} {v p q : Nat}, LSeg M v l p → LSeg M p m q → LSeg M v (l ++ m) q
  | [], _, _, _, _, h, h' => by cases h; exact h'
  | (_, _) :: _, _, _, _, _, ⟨h0, k, d, h1, h2, h3⟩, h' => ⟨h0, k, d, h1, h2, LSeg.append h3 h'⟩

theorem LSeg.split {M : Hp} : ∀ {l m : List (Nat × Nat)} {v q : Nat}, LSeg M v (l ++ m) q → ∃ p, LSeg M v l p ∧ LSeg M p m q
  | [], _, v, _, h => ⟨v, rfl, h⟩
  | (_, _) :: _, _, _, _, ⟨h0, k, d, h1, h2, h3⟩ => by
    obtain ⟨p, h4, h5⟩ := LSeg.split h3
    exact ⟨p, ⟨h0, k, d, h1, h2, h4⟩, h5⟩

/-- the word at which so many are over -/
def LSeg.at' (q : Nat) (l : List (Nat × Nat)) (i : Nat) : Nat := ((l[i]?).map (·.1)).getD q

theorem LSeg.head {M : Hp} {v q : Nat} {l : List (Nat × Nat)} (h : LSeg M v l q) : v = LSeg.at' q l 0 := by
  cases l with
  | nil => exact h
  | cons p t => obtain ⟨u, x⟩ := p; exact h.1

theorem LSeg.step {M : Hp} : ∀ {l : List (Nat × Nat)} {v q : Nat} (_ : LSeg M v l q) (i : Nat) (u x : Nat), l[i]? = some (u, x) → ∃ k d, u = 16 * k + 1 ∧ Pr M k x d ∧ d = LSeg.at' q l (i + 1)
  | [], _, _, _, i, _, _, h => by simp at h
  | (u, x) :: t, v, q, ⟨h0, k, d, h1, h2, h3⟩, 0, u', x', h => by
    simp at h
    obtain ⟨rfl, rfl⟩ := h
    exact ⟨k, d, h1, h2, h3.head⟩
  | (u, x) :: t, v, q, ⟨h0, k, d, h1, h2, h3⟩, i + 1, u', x', h => by
    obtain ⟨k', d', a, b, c⟩ := h3.step i u' x' (by simpa using h)
    exact ⟨k', d', a, b, by rw [c]; simp [LSeg.at']⟩

/-- what stands so many pairs on is a row, too -/
theorem LSeg.drop {M : Hp} : ∀ {l : List (Nat × Nat)} {v q : Nat} (_ : LSeg M v l q) (i : Nat), i ≤ l.length → LSeg M (LSeg.at' q l i) (l.drop i) q
  | [], v, q, h, i, hi => by
    obtain rfl : i = 0 := by simpa using hi
    exact rfl
  | (u, x) :: t, v, q, h, 0, _ => by
    have := h.head
    rw [← this]; exact h
  | (u, x) :: t, v, q, ⟨h0, k, d, h1, h2, h3⟩, i + 1, hi => by
    have := h3.drop i (by simpa using hi)
    simpa [LSeg.at'] using this

/-! ### a row made from its end on, ahead of what is there -/
def rowL (n : Nat) : List Nat → List (Nat × Nat)
  | [] => []
  | x :: t => (16 * (n + t.length) + 1, x) :: rowL n t

theorem rowL_len (n : Nat) : ∀ l : List Nat, (rowL n l).length = l.length
  | [] => rfl
  | _ :: t => by simp [rowL, rowL_len n t]

theorem rowL_snd (n : Nat) : ∀ l : List Nat, (rowL n l).map (·.2) = l
  | [] => rfl
  | _ :: t => by simp [rowL, rowL_snd n t]

theorem rowL_get (n : Nat) : ∀ (l : List Nat) (i x : Nat), l[i]? = some x → (rowL n l)[i]? = some (16 * (n + (l.length - 1 - i)) + 1, x)
  | [], i, x, h => by simp at h
  | y :: t, 0, x, h => by simp at h; subst h; simp [rowL]
  | y :: t, i + 1, x, h => by
    have h' : t[i]? = some x := by simpa using h
    have hi := (List.getElem?_eq_some_iff.1 h').1
    rw [rowL, List.getElem?_cons_succ, rowL_get n t i x h']
    congr 3
    simp
    omega

/-- one pair ahead -/
theorem LSeg.push {M M' : Hp} {n x v q : Nat} {l : List (Nat × Nat)} (h : LSeg M v l q) (g : M.Grown M') (hp : Pr M' n x v) : LSeg M' (16 * n + 1) ((16 * n + 1, x) :: l) q :=
  ⟨rfl, n, v, rfl, hp, h.grown g⟩

/-- a list: it ends in Nil -/
def Lst (M : Hp) (v : Nat) (l : List (Nat × Nat)) : Prop := LSeg M v l 20

/-- what a range over its pairs gives -/
def items (q : Nat) (l : List (Nat × Nat)) : List (Nat × Bool) := l.map (fun p => (p.1, false)) ++ [(q, true)]

theorem items_len (q : Nat) (l : List (Nat × Nat)) : (items q l).length = l.length + 1 := by simp [items]

theorem items_get {q : Nat} {l : List (Nat × Nat)} {i : Nat} {u x : Nat} (h : l[i]? = some (u, x)) : (items q l)[i]? = some (u, false) := by
  have hi := (List.getElem?_eq_some_iff.1 h).1
  unfold items
  rw [List.getElem?_append_left (by simpa using hi), List.getElem?_map, h]
  rfl

theorem items_last (q : Nat) (l : List (Nat × Nat)) : (items q l)[l.length]? = some (q, true) := by
  unfold items
  rw [List.getElem?_append_right (by simp)]
  simp

theorem items_take {q : Nat} {l : List (Nat × Nat)} {i : Nat} (hi : i ≤ l.length) : (items q l).take i = (l.take i).map (fun p => (p.1, false)) := by
  unfold items
  rw [List.take_append_of_le_length (by simpa using hi), List.map_take]
end Go.Proofs.Ytecemlamoiepdaa
