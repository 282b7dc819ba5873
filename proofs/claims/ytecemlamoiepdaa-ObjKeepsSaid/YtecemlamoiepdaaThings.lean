/- Plain law of things: pairs, weak pairs and objects on the heap, apart from one another; what making one, and setting a word of one, does to all. No program in sight. -/
import Derived.Test.YtecemlamoiepdaaScs
import Derived.Test.YtecemlamoiepdaaActKit
namespace Go.Proofs.Ytecemlamoiepdaa
open Go.RowKit

/-- what a thing is: its kind is 0: a pair or a weak one; else an object of that type -/
def Th.Is (M : Hp) (s : Sc) : Prop :=
  (s.par = 0 ∧ ∃ kd x y : Nat, kd < 2 ∧ s.l = [x, y] ∧ s.w = s.w / 8 * 8 + (kd + 1) ∧ s.w / 8 % 2 = 0 ∧ M.Lies (s.w / 8) kd [x, y]) ∨ ∃ k m : Nat, s.par = k ∧ 1 ≤ k ∧ M.Has s.w k m s.l

def Th.ext (s : Sc) : Nat := if s.par = 0 then 2 else s.l.length + 1

structure Ths (M : Hp) (G : List Sc) : Prop where
  is : ∀ (i : Nat) (s : Sc), G[i]? = some s → Th.Is M s
  apart : ∀ (i j : Nat) (s t : Sc), i ≠ j → G[i]? = some s → G[j]? = some t → Apart (s.w / 8) (Th.ext s) (t.w / 8) (Th.ext t)
  small : ∀ (i : Nat) (s : Sc), G[i]? = some s → s.l.length ≤ 62 ∧ ∀ x ∈ s.l, x < 18446744073709551616

theorem Th.ext_pos (s : Sc) : 0 < Th.ext s := by unfold Th.ext; split <;> omega

theorem Th.Is.lies {M : Hp} {s : Sc} (h : Th.Is M s) : ∃ kd ws, M.Lies (s.w / 8) kd ws ∧ ws.length = Th.ext s := by
  rcases h with ⟨h0, kd, x, y, h1, h2, h3, h4, h5⟩ | ⟨k, m, h1, h2, h3⟩
  · exact ⟨kd, _, h5, by unfold Th.ext; rw [if_pos h0]; rfl⟩
  · exact ⟨_, _, h3.lies, by unfold Th.ext; rw [if_neg (by omega)]; simp⟩

theorem Th.Is.lt {M : Hp} (o : M.Ok) {s : Sc} (h : Th.Is M s) : s.w < 524288 := by
  obtain ⟨kd, ws, h1, _⟩ := h.lies
  have := h1.lt o
  omega

theorem Ths.ne {M : Hp} {G : List Sc} (h : Ths M G) {i j : Nat} {s t : Sc} (hi : G[i]? = some s) (hj : G[j]? = some t) (he : s.w = t.w) : i = j := by
  by_cases e : i = j
  · exact e
  · exfalso
    have ha := h.apart i j s t e hi hj
    unfold Apart at ha
    have := Th.ext_pos s
    have := Th.ext_pos t
    omega

theorem Th.Is.grown {M M' : Hp} {s : Sc} (h : Th.Is M s) (g : M.Grown M') : Th.Is M' s := by
  rcases h with ⟨h0, kd, x, y, h1, h2, h3, h4, h5⟩ | ⟨k, m, h1, h2, h3⟩
  · exact .inl ⟨h0, kd, x, y, h1, h2, h3, h4, h5.grown g⟩
  · exact .inr ⟨k, m, h1, h2, h3.grown g⟩

theorem Th.Is.wr_other {M : Hp} {s : Sc} {c v : Nat} (h : Th.Is M s) (hd : c < s.w / 8 ∨ s.w / 8 + Th.ext s ≤ c) (o' : (M.wr c v).Ok) : Th.Is (M.wr c v) s := by
  rcases h with ⟨h0, kd, x, y, h1, h2, h3, h4, h5⟩ | ⟨k, m, h1, h2, h3⟩
  · refine .inl ⟨h0, kd, x, y, h1, h2, h3, h4, h5.wr_other ?_⟩
    unfold Th.ext at hd
    rw [if_pos h0] at hd
    exact hd
  · refine .inr ⟨k, m, h1, h2, h3.wr_other ?_ o'⟩
    unfold Th.ext at hd
    rw [if_neg (by omega)] at hd
    exact hd

/-- one more -/
theorem Ths.snoc {M M' : Hp} {G : List Sc} (h : Ths M G) (g : M.Grown M') (t : Sc) (ht : Th.Is M' t) (hl : t.l.length ≤ 62) (hx : ∀ x ∈ t.l, x < 18446744073709551616)
    (ha : ∀ (b kd : Nat) (us : List Nat), 0 < us.length → M.Lies b kd us → Apart b us.length (t.w / 8) (Th.ext t)) : Ths M' (G ++ [t]) ∧ ∀ (i : Nat) (s : Sc), G[i]? = some s → s.w ≠ t.w := by
  have hget : ∀ (j : Nat) (u : Sc), (G ++ [t])[j]? = some u → G[j]? = some u ∨ (j = G.length ∧ u = t) := by
    intro j u hu
    rcases Nat.lt_or_ge j G.length with hj | hj
    · rw [List.getElem?_append_left hj] at hu; exact .inl hu
    · rw [List.getElem?_append_right hj] at hu
      rcases Nat.eq_zero_or_pos (j - G.length) with e | e
      · rw [e] at hu; cases hu; exact .inr ⟨by omega, rfl⟩
      · rw [List.getElem?_eq_none (by simp; omega)] at hu; cases hu
  have hnew : ∀ (j : Nat) (u : Sc), G[j]? = some u → Apart (u.w / 8) (Th.ext u) (t.w / 8) (Th.ext t) := by
    intro j u hu
    obtain ⟨kd, ws, h1, h2⟩ := (h.is j u hu).lies
    rw [← h2]
    exact ha _ _ _ (by rw [h2]; exact Th.ext_pos u) h1
  refine ⟨⟨?_, ?_, ?_⟩, ?_⟩
  · intro j u hu
    rcases hget j u hu with h1 | ⟨rfl, rfl⟩
    · exact (h.is j u h1).grown g
    · exact ht
  · intro a b u y hab hu hy
    rcases hget a u hu with h1 | ⟨rfl, rfl⟩
    · rcases hget b y hy with h2 | ⟨rfl, rfl⟩
      · exact h.apart a b u y hab h1 h2
      · exact hnew a u h1
    · rcases hget b y hy with h2 | ⟨rfl, rfl⟩
      · exact (hnew b y h2).symm
      · exact absurd rfl hab
  · intro j u hu
    rcases hget j u hu with h1 | ⟨rfl, rfl⟩
    · exact h.small j u h1
    · exact ⟨hl, hx⟩
  · intro i s hi e
    have h1 := hnew i s hi
    unfold Apart at h1
    have := Th.ext_pos s
    have := Th.ext_pos t
    omega

/-- Cons (0), Weak (1) -/
theorem Ths.two {M M' : Hp} {G : List Sc} (o : M.Ok) (o' : M'.Ok) (h : Ths M G) {kd x y v : Nat} (hk : kd < 2) (hx : x < 18446744073709551616) (hy : y < 18446744073709551616) (ht : M.two kd x y = (v, 0, M')) :
    Ths M' (G ++ [⟨v, 0, [x, y]⟩]) ∧ (∀ (i : Nat) (s : Sc), G[i]? = some s → s.w ≠ v) ∧ v < 524288 ∧ M.Grown M' := by
  unfold Hp.two at ht
  cases hc : M.cons kd x y with
  | none => rw [hc] at ht; cases ht
  | some p =>
    rw [hc] at ht
    cases ht
    unfold Hp.cons at hc
    cases hp : M.putAt kd [x, y] with
    | none => rw [hp] at hc; cases hc
    | some q =>
      rw [hp] at hc
      obtain ⟨a, M2⟩ := q
      cases hc
      obtain ⟨g, hL, hn, hA⟩ := Hp.putAt_lies o o' (by simp) hp
      have hlt := hL.lt o'
      have hev : a % 2 = 0 := by
        obtain ⟨pre, post, h1, h2⟩ := hL
        have he := o'.even _ _ h1 hk
        obtain ⟨_, ⟨pre', hs', hl', _⟩, _, _⟩ := Hp.putAt_grown o (by simp) hp
        rw [h1] at hs'
        simp only [Option.some.injEq, Sg.mk.injEq, true_and] at hs'
        have hlen := congrArg List.length hs'
        simp at he hlen
        omega
      have hd : (a * 8 + (kd + 1)) / 8 = a := by omega
      have key := h.snoc (M' := M2) g ⟨a * 8 + (kd + 1), 0, [x, y]⟩ (.inl ⟨rfl, kd, x, y, hk, rfl, by simp only [hd], by simp only [hd]; exact hev, by simp only [hd]; exact hL⟩) (by simp) (by simp; omega)
        (fun b kd' us hu hb => by have := hA b kd' us hu hb; simp only [hd]; unfold Th.ext; rw [if_pos rfl]; exact this)
      exact ⟨key.1, key.2, by show a * 8 + (kd + 1) < 524288; omega, g⟩

/-- Make -/
theorem Ths.make {M M' : Hp} {G : List Sc} (o : M.Ok) (o' : M'.Ok) (h : Ths M G) {k m v : Nat} {ws : List Nat} (h1 : 1 ≤ k) (h2 : k ≤ 13) (h4 : m < 281474976710656) (hw : ∀ x ∈ ws, x < 18446744073709551616) (ht : M.mk' k m ws = (v, 0, M')) :
    Ths M' (G ++ [⟨v, k, ws⟩]) ∧ (∀ (i : Nat) (s : Sc), G[i]? = some s → s.w ≠ v) ∧ v < 524288 ∧ M.Grown M' := by
  obtain ⟨g, hH, hn, hA⟩ := Hp.mk_lies o o' h1 h2 h4 ht
  obtain ⟨e, _, _, hl, _⟩ := hH.as
  have key := h.snoc (M' := M') g ⟨v, k, ws⟩ (.inr ⟨k, m, rfl, h1, hH⟩) hl hw (fun b kd us hu hb => by
    have := hA b kd us hu hb
    unfold Th.ext
    rw [if_neg (by simp only; omega)]
    exact this)
  exact ⟨key.1, key.2, hH.lt.1, g⟩

/-! ### what is told of a thing -/
theorem Th.pair_lies {M : Hp} {a kd x y : Nat} (o : M.Ok) (hk : kd < 2) (he : a % 2 = 0) (h : M.Lies a kd [x, y]) : M.pairOf (a * 8 + (kd + 1)) = some a := by
  have hlt := h.lt o
  obtain ⟨pre, post, h1, h2⟩ := h
  have hin : a % 64 < (pre ++ [x, y] ++ post).length := by simp; omega
  unfold Hp.pairOf
  obtain rfl | rfl : kd = 0 ∨ kd = 1 := by omega
  · rw [Hp.atOf_eq (t := 1) (by omega) hlt, h1]
    simp only
    rw [if_pos ⟨trivial, hin⟩]
    simp [he]
  · have h0 : M.atOf (a * 8 + (1 + 1)) 1 0 = none := by
      unfold Hp.atOf
      rw [if_neg (by rintro ⟨_, e⟩; unfold tagOf at e; omega)]
    rw [h0]
    simp only
    rw [Hp.atOf_eq (t := 2) (by omega) hlt, h1]
    simp only
    rw [if_pos ⟨trivial, hin⟩]
    simp [he]

theorem Th.pair_obj {M : Hp} {a kd : Nat} (hk : kd < 2) : M.objOf (a * 8 + (kd + 1)) = none := by
  have h1 : ∀ k, M.objIn (a * 8 + (kd + 1)) k = none := by
    intro k
    have h0 : M.atOf (a * 8 + (kd + 1)) 3 k = none := by
      unfold Hp.atOf
      rw [if_neg (by rintro ⟨_, e⟩; unfold tagOf at e; omega)]
    unfold Hp.objIn
    rw [h0]
  unfold Hp.objOf
  rw [h1, h1]

theorem Th.obj_pair {M : Hp} {x k m : Nat} {ws : List Nat} (h : M.Has x k m ws) : M.pairOf x = none := by
  have ht : x % 8 = 3 := h.lt.2
  have h1 : ∀ t k, t = 1 ∨ t = 2 → M.atOf x t k = none := by
    intro t k ht'
    unfold Hp.atOf
    rw [if_neg (by rintro ⟨_, e⟩; unfold tagOf at e; omega)]
  unfold Hp.pairOf
  rw [h1 1 0 (by omega), h1 2 1 (by omega)]

theorem Th.set_same (t : Sc) (c : Prop) [Decidable c] (I v : Nat) : (if c then { t with l := t.l.set I v } else t : Sc).w = t.w ∧ Th.ext (if c then { t with l := t.l.set I v } else t) = Th.ext t := by
  split
  · exact ⟨rfl, by unfold Th.ext; simp⟩
  · exact ⟨rfl, rfl⟩

/-- a word of a thing turns -/
theorem Ths.wr {M : Hp} {G : List Sc} (h : Ths M G) (k I v : Nat) (t : Sc) (c : Nat) (ht : G[k]? = some t) (hI : I < t.l.length) (hv : v < 18446744073709551616) (o' : (M.wr c v).Ok)
    (hc : t.w / 8 ≤ c ∧ c < t.w / 8 + Th.ext t) (hit : Th.Is (M.wr c v) { t with l := t.l.set I v }) : Ths (M.wr c v) (Scs.setL G k I v) := by
  refine ⟨?_, ?_, ?_⟩
  · intro j u hu
    rw [setL_get] at hu
    cases hj : G[j]? with
    | none => rw [hj] at hu; cases hu
    | some u0 =>
      rw [hj] at hu
      simp only [Option.map_some, Option.some.injEq] at hu
      subst hu
      by_cases e : j = k
      · subst e
        rw [ht] at hj; cases hj
        rw [if_pos rfl]
        exact hit
      · rw [if_neg e]
        refine (h.is j u0 hj).wr_other ?_ o'
        have ha := h.apart j k u0 t e hj ht
        unfold Apart at ha
        omega
  · intro a b u x hab hu hx
    rw [setL_get] at hu hx
    cases ha : G[a]? with
    | none => rw [ha] at hu; cases hu
    | some u0 =>
      cases hb : G[b]? with
      | none => rw [hb] at hx; cases hx
      | some x0 =>
        rw [ha] at hu; rw [hb] at hx
        simp only [Option.map_some, Option.some.injEq] at hu hx
        subst hu hx
        have := h.apart a b u0 x0 hab ha hb
        rw [(Th.set_same u0 (a = k) I v).1, (Th.set_same u0 (a = k) I v).2, (Th.set_same x0 (b = k) I v).1, (Th.set_same x0 (b = k) I v).2]
        exact this
  · intro j u hu
    rw [setL_get] at hu
    cases hj : G[j]? with
    | none => rw [hj] at hu; cases hu
    | some u0 =>
      rw [hj] at hu
      simp only [Option.map_some, Option.some.injEq] at hu
      subst hu
      obtain ⟨s1, s2⟩ := h.small j u0 hj
      split
      · refine ⟨by simpa using s1, fun x hx => ?_⟩
        rcases List.mem_or_eq_of_mem_set hx with hm | hm
        · exact s2 x hm
        · rw [hm]; exact hv
      · exact ⟨s1, s2⟩

/-- SetCar (0), SetCdr (1) of a thing -/
theorem Ths.setH {M : Hp} {G : List Sc} (o : M.Ok) (h : Ths M G) (k I v : Nat) (t : Sc) (ht : G[k]? = some t) (hI : I < 2) (hv : v < 18446744073709551616) :
    (t.par = 0 ∧ t.l.length = 2 ∧ ∃ M', M.setH t.w I v = (0, M') ∧ (M'.Ok → Ths M' (Scs.setL G k I v)) ∧ M'.limit = M.limit) ∨ (t.par ≠ 0 ∧ M.setH t.w I v = (3, M)) := by
  rcases h.is k t ht with ⟨h0, kd, x, y, h1, h2, h3, h4, h5⟩ | ⟨k', m, h1, h2, h3⟩
  · left
    have hp : M.pairOf t.w = some (t.w / 8) := by
      rw [h3, show (t.w / 8 * 8 + (kd + 1)) / 8 = t.w / 8 by omega]
      exact Th.pair_lies o h1 h4 h5
    refine ⟨h0, by rw [h2]; rfl, M.wr (t.w / 8 + I) v, ?_, fun o' => ?_, (Hp.wr_len M _ _).2.1⟩
    · unfold Hp.setH Hp.setHalf
      rw [hp]
      rfl
    · refine h.wr k I v t _ ht (by rw [h2]; simpa using hI) hv o' (by unfold Th.ext; rw [if_pos h0]; omega) ?_
      have hl := h5.wr o I v (by simpa using hI)
      obtain rfl | rfl : I = 0 ∨ I = 1 := by omega
      · exact .inl ⟨h0, kd, v, y, h1, by simp [h2], h3, h4, hl⟩
      · exact .inl ⟨h0, kd, x, v, h1, by simp [h2], h3, h4, hl⟩
  · right
    refine ⟨by omega, ?_⟩
    unfold Hp.setH Hp.setHalf
    rw [Th.obj_pair h3]
    rfl

/-- Set of a thing's word -/
theorem Ths.setR {M : Hp} {G : List Sc} (o : M.Ok) (h : Ths M G) (k : Nat) (K I : Int) (v : Nat) (t : Sc) (ht : G[k]? = some t) (hv : v < 18446744073709551616) :
    (t.par = K ∧ t.par ≠ 0 ∧ 0 ≤ I ∧ I < t.l.length ∧ ∃ M', M.setR t.w K I v = (0, M') ∧ (M'.Ok → Ths M' (Scs.setL G k I.toNat v)) ∧ M'.limit = M.limit) ∨ ∃ e, e ≠ 0 ∧ M.setR t.w K I v = (e, M) := by
  rcases h.is k t ht with ⟨h0, kd, x, y, h1, h2, h3, h4, h5⟩ | ⟨k', m, h1, h2, h3⟩
  · right
    refine ⟨3, by omega, ?_⟩
    have hno : M.isnt t.w K := .inl (by rw [h3]; exact Th.pair_obj h1)
    unfold Hp.setR
    rw [if_pos hno]
  · by_cases hK : t.par = K
    · by_cases hin : 0 ≤ I ∧ I < t.l.length
      · left
        obtain ⟨hi0, hi1⟩ := hin
        refine ⟨hK, by omega, hi0, hi1, M.wr (t.w / 8 + 1 + I.toNat) v, h3.setR o K I (by omega) v hi0 (by omega), fun o' => ?_, (Hp.wr_len M _ _).2.1⟩
        refine h.wr k I.toNat v t _ ht (by omega) hv o' (by unfold Th.ext; rw [if_neg (by omega)]; omega) ?_
        exact .inr ⟨k', m, h1, h2, h3.wr o I.toNat v (by omega) o'⟩
      · right
        refine ⟨4, by omega, ?_⟩
        have hno : ¬ M.isnt t.w K := by
          unfold Hp.isnt
          rw [h3.obj, h3.typ]
          rintro (e | e)
          · cases e
          · exact e (by omega)
        unfold Hp.setR
        rw [if_neg hno, if_pos (by rw [h3.len]; omega)]
    · right
      refine ⟨3, by omega, ?_⟩
      have hno : M.isnt t.w K := .inr (by rw [h3.typ]; omega)
      unfold Hp.setR
      rw [if_pos hno]

/-- Size -/
def Hp.sizeOf' (M : Hp) (x : Nat) : Nat := if (M.pairOf x).isSome then 2 else match M.objOf x with | some (_, _, n, _) => n + 1 | none => 0

theorem Th.pair_tells {M : Hp} (o : M.Ok) {s : Sc} (h : Th.Is M s) (h0 : s.par = 0) : ∃ x y, s.l = [x, y] ∧ M.half s.w 0 = some x ∧ M.half s.w 1 = some y ∧ M.sizeOf' s.w = 2 := by
  rcases h with ⟨_, kd, x, y, h1, h2, h3, h4, h5⟩ | ⟨k', m, h1, h2, h3⟩
  · have hp : M.pairOf s.w = some (s.w / 8) := by
      rw [h3, show (s.w / 8 * 8 + (kd + 1)) / 8 = s.w / 8 by omega]
      exact Th.pair_lies o h1 h4 h5
    refine ⟨x, y, h2, ?_, ?_, ?_⟩
    · unfold Hp.half
      rw [hp]
      exact h5.rd o 0 (by simp)
    · unfold Hp.half
      rw [hp]
      exact h5.rd o 1 (by simp)
    · unfold Hp.sizeOf'
      rw [hp]
      rfl
  · omega

theorem Th.obj_tells {M : Hp} (o : M.Ok) {s : Sc} (h : Th.Is M s) (h0 : s.par ≠ 0) : ((M.typ s.w : Nat) : Int) = s.par ∧ M.len s.w = s.l.length ∧ M.sizeOf' s.w = s.l.length + 1 ∧ ∀ (i x : Nat), s.l[i]? = some x → M.getR s.w s.par i = (x, 0) := by
  rcases h with ⟨h1, _⟩ | ⟨k', m, h1, h2, h3⟩
  · exact absurd h1 h0
  · refine ⟨by rw [h3.typ, h1], h3.len, ?_, fun i x hx => h3.getR o _ _ h1 (by omega) (by rw [Int.toNat_natCast]; exact hx)⟩
    unfold Hp.sizeOf'
    rw [Th.obj_pair h3, h3.obj]
    rfl

theorem Ths.nil (M : Hp) : Ths M [] := ⟨by intro i s h; simp at h, by intro i j s t _ h; simp at h, by intro i s h; simp at h⟩
end Go.Proofs.Ytecemlamoiepdaa
