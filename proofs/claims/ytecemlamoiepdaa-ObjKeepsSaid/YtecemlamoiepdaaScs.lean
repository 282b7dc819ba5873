/- Plain law of environments: rows of values on the heap, each with its parent; what Get and Put of a value do. No program in sight. -/
import Derived.Test.YtecemlamoiepdaaLies
namespace Go.Proofs.Ytecemlamoiepdaa
open Go.RowKit

/-- an environment: its word, its parent's place (below 0: none), its values -/
structure Sc where
  w : Nat
  par : Int
  l : List Nat

def parW (G : List Sc) (p : Int) : Nat := if p < 0 then 20 else ((G[p.toNat]?).map (·.w)).getD 20

structure Scs (M : Hp) (G : List Sc) : Prop where
  has : ∀ (i : Nat) (s : Sc), G[i]? = some s → M.Has s.w 7 0 (parW G s.par :: s.l)
  par : ∀ (i : Nat) (s : Sc), G[i]? = some s → -1 ≤ s.par ∧ s.par < i
  apart : ∀ (i j : Nat) (s t : Sc), i ≠ j → G[i]? = some s → G[j]? = some t → Apart (s.w / 8) (s.l.length + 2) (t.w / 8) (t.l.length + 2)
  small : ∀ (i : Nat) (s : Sc), G[i]? = some s → s.l.length ≤ 50 ∧ ∀ x ∈ s.l, x < 18446744073709551616

/-- so many up -/
def anc (G : List Sc) : Nat → Int → Int
  | 0, k => k
  | n + 1, k => if k < 0 then k else anc G n (((G[k.toNat]?).map (·.par)).getD (-1))

theorem anc_neg {G : List Sc} {k : Int} (h : k < 0) : ∀ n, anc G n k = k := by
  intro n; cases n with
  | zero => rfl
  | succ n => unfold anc; rw [if_pos h]

theorem anc_succ {G : List Sc} {k : Int} {s : Sc} (h0 : 0 ≤ k) (h : G[k.toNat]? = some s) (n : Nat) : anc G (n + 1) k = anc G n s.par := by
  rw [anc, if_neg (by omega), h]; rfl

theorem anc_add {G : List Sc} : ∀ (n m : Nat) (k : Int), anc G (n + m) k = anc G m (anc G n k) := by
  intro n
  induction n with
  | zero => intro m k; rw [Nat.zero_add]; rfl
  | succ n ih =>
    intro m k
    by_cases h : k < 0
    · rw [anc_neg h, anc_neg h, anc_neg h]
    · rw [show n + 1 + m = (n + m) + 1 by omega]
      simp only [anc]
      rw [if_neg h, if_neg h]
      exact ih m _

theorem Scs.lt {M : Hp} {G : List Sc} (h : Scs M G) {i : Nat} {s : Sc} (hi : G[i]? = some s) : s.w < 18446744073709551616 := by
  have := (h.has i s hi).lt; omega

theorem anc_le {M : Hp} {G : List Sc} (h : Scs M G) : ∀ (n : Nat) (k : Int), k < G.length → anc G n k ≤ max (-1) (k - n) ∨ (k < 0 ∧ anc G n k = k) := by
  intro n
  induction n with
  | zero => intro k hk; simp [anc]; omega
  | succ n ih =>
    intro k hk
    by_cases h0 : k < 0
    · exact .inr ⟨h0, anc_neg h0 _⟩
    · obtain ⟨s, hs⟩ : ∃ s, G[k.toNat]? = some s := ⟨_, List.getElem?_eq_getElem (by omega)⟩
      rw [anc_succ (by omega) hs]
      obtain ⟨p1, p2⟩ := h.par _ _ hs
      left
      rcases ih s.par (by omega) with h1 | ⟨h1, h2⟩
      · omega
      · omega

theorem anc_lt {M : Hp} {G : List Sc} (h : Scs M G) (n : Nat) (k : Int) (hk : k < G.length) : anc G n k < G.length := by
  rcases anc_le h n k hk with h1 | ⟨h1, h2⟩ <;> omega

theorem anc_ge {M : Hp} {G : List Sc} (h : Scs M G) : ∀ (n : Nat) (k : Int), k < G.length → -1 ≤ k → -1 ≤ anc G n k := by
  intro n
  induction n with
  | zero => intro k _ hk; exact hk
  | succ n ih =>
    intro k hk h1
    by_cases h0 : k < 0
    · rw [anc_neg h0]; exact h1
    · obtain ⟨s, hs⟩ : ∃ s, G[k.toNat]? = some s := ⟨_, List.getElem?_eq_getElem (by omega)⟩
      rw [anc_succ (by omega) hs]
      obtain ⟨p1, p2⟩ := h.par _ _ hs
      exact ih _ (by omega) p1

/-- a chain of more than there are ends -/
theorem anc_deep {M : Hp} {G : List Sc} (h : Scs M G) (n : Nat) (k : Int) (hk : k < G.length) (h1 : -1 ≤ k) (hn : G.length ≤ n) : anc G n k = -1 := by
  have h2 := anc_ge h n k hk h1
  rcases anc_le h n k hk with h3 | ⟨h3, h4⟩ <;> omega

theorem nil_obj {M : Hp} : M.objOf 20 = none := by
  have h1 : ∀ k, M.objIn 20 k = none := by
    intro k
    unfold Hp.objIn Hp.atOf
    rw [if_neg (by unfold tagOf; simp)]
  unfold Hp.objOf; rw [h1, h1]

theorem nil_getR {M : Hp} (K I : Int) : M.getR 20 K I = (0, 3) := by
  have h : M.isnt 20 K := .inl nil_obj
  unfold Hp.getR
  rw [if_pos h]

theorem nil_frIs {M : Hp} {k l : Nat} (hk : 0 < k) : M.frIs 20 k l = false := by
  unfold Hp.frIs Hp.typ
  rw [nil_obj]
  simp
  omega

theorem above_nil {M : Hp} : ∀ n, M.above 20 n = none := by
  intro n
  cases n with
  | zero => unfold Hp.above; rw [nil_frIs (by omega)]; rfl
  | succ n => unfold Hp.above; rw [nil_getR]; rfl

theorem Scs.frIs {M : Hp} {G : List Sc} (h : Scs M G) {i : Nat} {s : Sc} (hi : G[i]? = some s) : M.frIs s.w 7 1 = true := by
  have hh := h.has i s hi
  unfold Hp.frIs
  rw [hh.typ, hh.len]
  simp

theorem Scs.count {M : Hp} {G : List Sc} (h : Scs M G) {i : Nat} {s : Sc} (hi : G[i]? = some s) : M.frCount s.w = s.l.length := by
  unfold Hp.frCount
  rw [if_pos (h.frIs hi), (h.has i s hi).len]
  simp

theorem Scs.above {M : Hp} {G : List Sc} (o : M.Ok) (h : Scs M G) : ∀ (n i : Nat) (s : Sc), G[i]? = some s → M.above s.w n = if anc G n i < 0 then none else some (parW G (anc G n i)) := by
  intro n
  induction n with
  | zero =>
    intro i s hi
    unfold Hp.above
    rw [if_pos (h.frIs hi)]
    have e : anc G 0 (i : Int) = i := rfl
    rw [e, if_neg (by omega)]
    unfold parW
    rw [if_neg (by omega), Int.toNat_natCast, hi]
    rfl
  | succ n ih =>
    intro i s hi
    have hg := (h.has i s hi).getR o 7 0 rfl (v := parW G s.par) (by omega) (by simp)
    unfold Hp.above
    rw [hg, if_pos rfl, anc_succ (k := (i : Int)) (by omega) (by rw [Int.toNat_natCast]; exact hi)]
    obtain ⟨p1, p2⟩ := h.par _ _ hi
    by_cases h0 : s.par < 0
    · rw [anc_neg h0, if_pos h0]
      unfold parW
      rw [if_pos h0]
      exact above_nil n
    · have hi2 : i < G.length := (List.getElem?_eq_some_iff.1 hi).1
      obtain ⟨t, ht⟩ : ∃ t, G[s.par.toNat]? = some t := ⟨_, List.getElem?_eq_getElem (by omega)⟩
      have e1 : parW G s.par = t.w := by unfold parW; rw [if_neg h0, ht]; rfl
      have := ih s.par.toNat t ht
      rw [show ((s.par.toNat : Nat) : Int) = s.par by omega] at this
      rw [e1]
      exact this

theorem Scs.aboveR {M : Hp} {G : List Sc} (o : M.Ok) (h : Scs M G) (i : Nat) (s : Sc) (hi : G[i]? = some s) (up : Int) (h0 : 0 ≤ up) (h1 : up ≤ 65536) (k : Nat) (t : Sc) (hk : anc G up.toNat i = k) (ht : G[k]? = some t) : M.aboveR s.w up = (t.w, 0) := by
  unfold Hp.aboveR
  rw [if_neg (by omega), h.above o _ _ _ hi, if_neg (by omega), hk]
  unfold parW
  rw [if_neg (by omega), Int.toNat_natCast, ht]
  rfl

theorem Scs.aboveR_no {M : Hp} {G : List Sc} (o : M.Ok) (h : Scs M G) (i : Nat) (s : Sc) (hi : G[i]? = some s) (up : Int) (h0 : up < 0 ∨ 65536 < up ∨ anc G up.toNat i < 0) : (M.aboveR s.w up).2 ≠ 0 ∧ (0 ≤ up → up ≤ 65536 → M.aboveR s.w up = (0, 3)) := by
  unfold Hp.aboveR
  by_cases h1 : up < 0 ∨ 65536 < up
  · rw [if_pos h1]; exact ⟨by simp, by omega⟩
  · rw [if_neg h1, h.above o _ _ _ hi, if_pos (by omega)]; simp

/-- Get -/
theorem Scs.get {M : Hp} {G : List Sc} (o : M.Ok) (h : Scs M G) (i : Nat) (s : Sc) (hi : G[i]? = some s) (up : Int) (h0 : 0 ≤ up) (h1 : up ≤ 65536) (k : Nat) (t : Sc) (hk : anc G up.toNat i = k) (ht : G[k]? = some t) (n : Nat) :
    M.frGet s.w up n = match t.l[n]? with | some v => (v, 0) | none => (0, 4) := by
  unfold Hp.frGet
  rw [h.aboveR o i s hi up h0 h1 k t hk ht]
  simp only
  rw [h.count ht]
  cases hn : t.l[n]? with
  | none => rw [if_pos (by have := List.getElem?_eq_none_iff.1 hn; omega)]
  | some v =>
    have hl := (List.getElem?_eq_some_iff.1 hn).1
    rw [if_neg (by omega)]
    exact (h.has k t ht).getR o 7 _ rfl (by omega) (by rw [show ((n : Int) + 1).toNat = n + 1 by omega]; simpa using hn)

theorem Scs.get_no {M : Hp} {G : List Sc} (o : M.Ok) (h : Scs M G) (i : Nat) (s : Sc) (hi : G[i]? = some s) (up : Int) (h0 : 0 ≤ up) (h1 : up ≤ 65536) (hk : anc G up.toNat i < 0) (n : Int) : M.frGet s.w up n = (0, 3) := by
  unfold Hp.frGet
  rw [(h.aboveR_no o i s hi up (.inr (.inr hk))).2 h0 h1]
  rfl

/-- Put: is there such a value? -/
theorem Scs.put_no {M : Hp} {G : List Sc} (o : M.Ok) (h : Scs M G) (i : Nat) (s : Sc) (hi : G[i]? = some s) (up I : Int) (v : Nat)
    (hno : up < 0 ∨ 65536 < up ∨ anc G up.toNat i < 0 ∨ I < 0 ∨ ∀ t, G[(anc G up.toNat i).toNat]? = some t → (t.l.length : Int) ≤ I) : ∃ e, e ≠ 0 ∧ M.frPut s.w up I v = (e, M) := by
  unfold Hp.frPut
  by_cases h1 : up < 0 ∨ 65536 < up ∨ anc G up.toNat i < 0
  · have := (h.aboveR_no o i s hi up h1).1
    cases hr : M.aboveR s.w up with
    | mk y e =>
      rw [hr] at this
      cases e with
      | zero => exact absurd rfl this
      | succ e => exact ⟨e + 1, by omega, rfl⟩
  · obtain ⟨k, hk⟩ : ∃ k : Nat, anc G up.toNat i = k := ⟨(anc G up.toNat i).toNat, by omega⟩
    have hlt := anc_lt h up.toNat i (by have := (List.getElem?_eq_some_iff.1 hi).1; omega)
    obtain ⟨t, ht⟩ : ∃ t, G[k]? = some t := ⟨_, List.getElem?_eq_getElem (by omega)⟩
    rw [h.aboveR o i s hi up (by omega) (by omega) k t hk ht]
    simp only
    rw [h.count ht]
    refine ⟨4, by omega, ?_⟩
    rw [if_pos]
    rcases hno with a | a | a | a | a
    · omega
    · omega
    · omega
    · exact .inl a
    · right; exact a t (by rw [hk, Int.toNat_natCast]; exact ht)

def Scs.setL (G : List Sc) (k I v : Nat) : List Sc := G.modify k fun t => { t with l := t.l.set I v }

theorem setL_get {G : List Sc} {k I v : Nat} (j : Nat) : (Scs.setL G k I v)[j]? = (G[j]?).map fun t => if j = k then { t with l := t.l.set I v } else t := by
  unfold Scs.setL
  rw [List.getElem?_modify]
  by_cases h : k = j
  · subst h; simp
  · simp [h, Ne.symm h]

theorem setL_parW {G : List Sc} {k I v : Nat} (p : Int) : parW (Scs.setL G k I v) p = parW G p := by
  unfold parW
  split
  · rfl
  · rw [setL_get, Option.map_map]
    congr 1
    cases G[p.toNat]? with
    | none => rfl
    | some t => simp only [Option.map_some, Function.comp]; split <;> rfl

theorem Scs.put {M : Hp} {G : List Sc} (o : M.Ok) (h : Scs M G) (i : Nat) (s : Sc) (hi : G[i]? = some s) (up I : Int) (v : Nat) (hv : v < 18446744073709551616) (h0 : 0 ≤ up) (h1 : up ≤ 65536) (k : Nat) (t : Sc) (hk : anc G up.toNat i = k) (ht : G[k]? = some t) (hI0 : 0 ≤ I) (hI : I < t.l.length) :
    ∃ M', M.frPut s.w up I v = (0, M') ∧ (M'.Ok → Scs M' (Scs.setL G k I.toNat v)) ∧ M'.segs.length = M.segs.length ∧ M'.limit = M.limit := by
  have hh := h.has k t ht
  refine ⟨M.wr (t.w / 8 + 1 + (I.toNat + 1)) v, ?_, ?_, (Hp.wr_len M _ _).1, (Hp.wr_len M _ _).2.1⟩
  · unfold Hp.frPut
    rw [h.aboveR o i s hi up h0 h1 k t hk ht]
    simp only
    rw [h.count ht, if_neg (by omega), hh.setR o 7 (I + 1) rfl v (by omega) (by simp; omega), show (I + 1).toNat = I.toNat + 1 by omega]
  · intro o'
    refine ⟨?_, ?_, ?_, ?_⟩
    · intro j u hu
      rw [setL_get] at hu
      cases hj : G[j]? with
      | none => rw [hj] at hu; cases hu
      | some u0 =>
        rw [hj] at hu
        simp only [Option.map_some, Option.some.injEq] at hu
        subst hu
        by_cases e : j = k
        · subst e
          rw [ht] at hj; cases hj
          rw [if_pos rfl, setL_parW]
          have := hh.wr o (I.toNat + 1) v (by simp; omega) o'
          simpa using this
        · rw [if_neg e, setL_parW]
          refine (h.has j u0 hj).wr_other ?_ o'
          have ha := h.apart j k u0 t e hj ht
          unfold Apart at ha
          simp
          omega
    · intro j u hu
      rw [setL_get] at hu
      cases hj : G[j]? with
      | none => rw [hj] at hu; cases hu
      | some u0 =>
        rw [hj] at hu
        simp only [Option.map_some, Option.some.injEq] at hu
        subst hu
        have := h.par j u0 hj
        split <;> exact this
    · intro a b u x hab hu hx
      rw [setL_get] at hu hx
      cases ha : G[a]? with
      | none => rw [ha] at hu; cases hu
      | some u0 =>
        cases hb : G[b]? with
        | none => rw [hb] at hx; cases hx
        | some x0 =>
          rw [ha] at hu; rw [hb] at hx
          simp only [Option.map_some, Option.some.injEq] at hu hx
          subst hu hx
          have := h.apart a b u0 x0 hab ha hb
          split <;> split <;> simpa using this
    · intro j u hu
      rw [setL_get] at hu
      cases hj : G[j]? with
      | none => rw [hj] at hu; cases hu
      | some u0 =>
        rw [hj] at hu
        simp only [Option.map_some, Option.some.injEq] at hu
        subst hu
        obtain ⟨s1, s2⟩ := h.small j u0 hj
        split
        · refine ⟨by simpa using s1, fun x hx => ?_⟩
          rcases List.mem_or_eq_of_mem_set hx with hm | hm
          · exact s2 x hm
          · rw [hm]; exact hv
        · exact ⟨s1, s2⟩

theorem parW_snoc {G : List Sc} {t : Sc} {p : Int} (hp : p < G.length) : parW (G ++ [t]) p = parW G p := by
  unfold parW
  split
  · rfl
  · rw [List.getElem?_append_left (by omega)]

/-- Extend: one more -/
theorem Scs.extend {M : Hp} {G : List Sc} (o : M.Ok) (h : Scs M G) (p : Int) (hp1 : -1 ≤ p) (hp2 : p < G.length) (l : List Nat) (hl : l.length ≤ 50) (hx : ∀ x ∈ l, x < 18446744073709551616) (hs : M.segs.length < M.limit) :
    ∃ x M', M.extend (parW G p) l = (x, 0, M') ∧ (M'.Ok → Scs M' (G ++ [⟨x, p, l⟩])) ∧ M'.segs.length ≤ M.segs.length + 1 ∧ M'.limit = M.limit ∧ x < 18446744073709551616 := by
  obtain ⟨x, M', hm⟩ := Hp.mk_some (M := M) (k := 7) (m := 0) (ws := parW G p :: l) (by simp; omega) hs
  obtain ⟨g, hh, hn⟩ := Hp.mk_has o (by omega) (by omega) (by simp; omega) (by omega) hm
  refine ⟨x, M', ?_, ?_, hn, g.1, by have := hh.lt; omega⟩
  · unfold Hp.extend
    rw [if_neg]
    · exact hm
    · intro hc
      by_cases h0 : p < 0
      · apply hc.1; unfold parW; rw [if_pos h0]
      · obtain ⟨s, hs'⟩ : ∃ s, G[p.toNat]? = some s := ⟨_, List.getElem?_eq_getElem (by omega)⟩
        apply hc.2
        unfold parW
        rw [if_neg h0, hs']
        exact (h.has _ _ hs').typ
  · intro o'
    obtain ⟨_, _, _, hA⟩ := Hp.mk_lies o o' (by omega) (by omega) (by omega) hm
    have hget : ∀ (j : Nat) (u : Sc), (G ++ [(⟨x, p, l⟩ : Sc)])[j]? = some u → G[j]? = some u ∨ (j = G.length ∧ u = ⟨x, p, l⟩) := by
      intro j u hu
      rcases Nat.lt_or_ge j G.length with hj | hj
      · rw [List.getElem?_append_left hj] at hu; exact .inl hu
      · rw [List.getElem?_append_right hj] at hu
        rcases Nat.eq_zero_or_pos (j - G.length) with e | e
        · rw [e] at hu; cases hu; exact .inr ⟨by omega, rfl⟩
        · rw [List.getElem?_eq_none (by simp; omega)] at hu; cases hu
    have hnew : ∀ (j : Nat) (u : Sc), G[j]? = some u → Apart (u.w / 8) (u.l.length + 2) (x / 8) (l.length + 2) := by
      intro j u hu
      have := hA _ _ _ (by simp) (h.has j u hu).lies
      simpa using this
    refine ⟨?_, ?_, ?_, ?_⟩
    · intro j u hu
      rcases hget j u hu with h1 | ⟨rfl, rfl⟩
      · have hj := (List.getElem?_eq_some_iff.1 h1).1
        rw [parW_snoc (by have := (h.par j u h1).2; omega)]
        exact (h.has j u h1).grown g
      · rw [parW_snoc hp2]; exact hh
    · intro j u hu
      rcases hget j u hu with h1 | ⟨rfl, rfl⟩
      · exact h.par j u h1
      · exact ⟨hp1, hp2⟩
    · intro a b u y hab hu hy
      rcases hget a u hu with h1 | ⟨rfl, rfl⟩
      · rcases hget b y hy with h2 | ⟨rfl, rfl⟩
        · exact h.apart a b u y hab h1 h2
        · exact hnew a u h1
      · rcases hget b y hy with h2 | ⟨rfl, rfl⟩
        · exact (hnew b y h2).symm
        · exact absurd rfl hab
    · intro j u hu
      rcases hget j u hu with h1 | ⟨rfl, rfl⟩
      · exact h.small j u h1
      · exact ⟨hl, hx⟩

theorem Scs.nil (M : Hp) : Scs M [] := ⟨by intro i s h; simp at h, by intro i s h; simp at h, by intro i j s t _ h; simp at h, by intro i s h; simp at h⟩
end Go.Proofs.Ytecemlamoiepdaa
