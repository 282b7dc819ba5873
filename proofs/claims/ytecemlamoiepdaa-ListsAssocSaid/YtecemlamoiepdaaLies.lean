/- Plain law of the heap: which words lie where; a store turns one of them, and leaves what lies apart. No program in sight. -/
import Derived.Test.YtecemlamoiepdaaHas
namespace Go.Proofs.Ytecemlamoiepdaa
open Go.RowKit

/-- words that lie on the heap from an address on, in a segment of a kind -/
def Hp.Lies (M : Hp) (a kd : Nat) (ws : List Nat) : Prop :=
  ∃ pre post, M.segs[a / 64]? = some ⟨kd, pre ++ ws ++ post⟩ ∧ pre.length = a % 64

/-- two ranges of addresses share none -/
def Apart (a n b m : Nat) : Prop := a + n ≤ b ∨ b + m ≤ a

theorem Apart.symm {a n b m : Nat} (h : Apart a n b m) : Apart b m a n := by
  unfold Apart at *; omega

theorem Hp.Lies.grown {M M' : Hp} {a kd : Nat} {ws : List Nat} (h : M.Lies a kd ws) (g : M.Grown M') : M'.Lies a kd ws := by
  obtain ⟨pre, post, h1, h2⟩ := h
  obtain ⟨t, ht⟩ := g.2 _ _ h1
  exact ⟨pre, post ++ t, by rw [ht]; simp [List.append_assoc], h2⟩

theorem Hp.Lies.fits {M : Hp} (o : M.Ok) {a kd : Nat} {ws : List Nat} (h : M.Lies a kd ws) : a % 64 + ws.length ≤ 64 := by
  obtain ⟨pre, post, h1, h2⟩ := h
  have := o.room _ _ h1
  simp at this
  omega

theorem Hp.Lies.lt {M : Hp} (o : M.Ok) {a kd : Nat} {ws : List Nat} (h : M.Lies a kd ws) : a < 65536 := by
  obtain ⟨pre, post, h1, h2⟩ := h
  have := (List.getElem?_eq_some_iff.1 h1).1
  have := o.len
  have := o.lim
  omega

theorem Hp.Lies.rd {M : Hp} (o : M.Ok) {a kd : Nat} {ws : List Nat} (h : M.Lies a kd ws) (i : Nat) (hi : i < ws.length) : M.rd (a + i) = ws[i]? := by
  have hf := h.fits o
  obtain ⟨pre, post, h1, h2⟩ := h
  unfold Hp.rd
  rw [show (a + i) / 64 = a / 64 by omega, h1, show (a + i) % 64 = pre.length + i by omega]
  simp only [Option.bind_some]
  rw [List.append_assoc, List.getElem?_append_right (by omega), Nat.add_sub_cancel_left, List.getElem?_append_left hi]

theorem Hp.Lies.wr {M : Hp} (o : M.Ok) {a kd : Nat} {ws : List Nat} (h : M.Lies a kd ws) (i v : Nat) (hi : i < ws.length) : (M.wr (a + i) v).Lies a kd (ws.set i v) := by
  have hf := h.fits o
  obtain ⟨pre, post, h1, h2⟩ := h
  refine ⟨pre, post, ?_, h2⟩
  unfold Hp.wr
  rw [show (a + i) / 64 = a / 64 by omega, h1]
  have hl := (List.getElem?_eq_some_iff.1 h1).1
  unfold Hp.upd
  simp only
  rw [List.getElem?_set_self hl, show (a + i) % 64 = pre.length + i by omega, List.append_assoc, List.set_append, if_neg (by omega), Nat.add_sub_cancel_left, List.set_append, if_pos hi, List.append_assoc]

theorem Hp.Lies.wr_other {M : Hp} {b kd c v : Nat} {ws : List Nat} (h : M.Lies b kd ws) (hd : c < b ∨ b + ws.length ≤ c) : (M.wr c v).Lies b kd ws := by
  obtain ⟨pre, post, h1, h2⟩ := h
  have hl := (List.getElem?_eq_some_iff.1 h1).1
  unfold Hp.wr
  by_cases e : c / 64 = b / 64
  · rw [e, h1]
    unfold Hp.upd
    rcases hd with hd | hd
    · refine ⟨pre.set (c % 64) v, post, ?_, by simpa using h2⟩
      simp only
      rw [List.getElem?_set_self hl, List.append_assoc, List.set_append, if_pos (by omega), List.append_assoc]
    · refine ⟨pre, post.set (c % 64 - (pre.length + ws.length)) v, ?_, h2⟩
      simp only
      rw [List.getElem?_set_self hl, List.set_append, if_neg (by simp; omega), List.length_append]
  · cases hc : M.segs[c / 64]? with
    | none => exact ⟨pre, post, h1, h2⟩
    | some s =>
      unfold Hp.upd
      refine ⟨pre, post, ?_, h2⟩
      simp only
      rw [List.getElem?_set_ne (by omega)]
      exact h1

theorem Hp.wr_len (M : Hp) (c v : Nat) : (M.wr c v).segs.length = M.segs.length ∧ (M.wr c v).limit = M.limit ∧ (M.wr c v).cur = M.cur := by
  unfold Hp.wr
  split
  · exact ⟨rfl, rfl, rfl⟩
  · unfold Hp.upd; simp

/-- what is put lies there, apart from all that lay there -/
theorem Hp.putAt_lies {M M' : Hp} (o : M.Ok) (o' : M'.Ok) {kind : Nat} {ws : List Nat} {a : Nat} (hn : 0 < ws.length) (h : M.putAt kind ws = some (a, M')) :
    M.Grown M' ∧ M'.Lies a kind ws ∧ M'.segs.length ≤ M.segs.length + 1 ∧ ∀ (b kd : Nat) (us : List Nat), 0 < us.length → M.Lies b kd us → Apart b us.length a ws.length := by
  obtain ⟨g, ⟨pre, hs, hl, hp⟩, hn1, hn2⟩ := Hp.putAt_grown o hn h
  have hL : M'.Lies a kind ws := ⟨pre, [], by simpa using hs, hl⟩
  refine ⟨g, hL, hn1, fun b kd us hu hb => ?_⟩
  have f1 := hb.fits o
  have f2 := hL.fits o'
  obtain ⟨p, q, hb1, hb2⟩ := hb
  unfold Apart
  by_cases e : b / 64 = a / 64
  · have := hp _ (by rw [← e]; exact hb1)
    have h3 : pre.length = p.length + us.length + q.length := by rw [this]; simp; omega
    omega
  · omega

theorem Hp.Has.lies {M : Hp} {x k m : Nat} {ws : List Nat} (h : M.Has x k m ws) : M.Lies (x / 8) (rawK k) (headerOf k ws.length m :: ws) := by
  obtain ⟨a, pre, post, rfl, h2, h3, h4, h5⟩ := h
  rw [show (a * 8 + 3) / 8 = a by omega]
  exact ⟨pre, post, h3, h4⟩

/-- an object, by what lies there -/
theorem Hp.Has.mk {M : Hp} (o : M.Ok) {a k m : Nat} {ws : List Nat} (h : M.Lies a (rawK k) (headerOf k ws.length m :: ws)) (h1 : 1 ≤ k) (h2 : k ≤ 13) (h3 : ws.length ≤ 62) (h4 : m < 281474976710656) : M.Has (a * 8 + 3) k m ws := by
  have hl := h.lt o
  obtain ⟨pre, post, h5, h6⟩ := h
  exact ⟨a, pre, post, rfl, hl, h5, h6, h1, h2, h3, h4⟩

theorem Hp.Has.as {M : Hp} {x k m : Nat} {ws : List Nat} (h : M.Has x k m ws) : x = x / 8 * 8 + 3 ∧ 1 ≤ k ∧ k ≤ 13 ∧ ws.length ≤ 62 ∧ m < 281474976710656 := by
  obtain ⟨a, pre, post, rfl, h2, h3, h4, h5, h6, h7, h8⟩ := h
  exact ⟨by omega, h5, h6, h7, h8⟩

theorem Hp.Has.fld {M : Hp} {x k m : Nat} {ws : List Nat} (h : M.Has x k m ws) (i : Nat) (hi : i < ws.length) : M.fld x k i = some (x / 8 + 1 + i) := by
  unfold Hp.fld
  rw [h.obj]
  simp [hi]

/-- Set of an object's word: that word turns -/
theorem Hp.Has.setR {M : Hp} (o : M.Ok) {x k m : Nat} {ws : List Nat} (h : M.Has x k m ws) (K I : Int) (hK : K = k) (v : Nat) (h0 : 0 ≤ I) (hI : I.toNat < ws.length) :
    M.setR x K I v = (0, M.wr (x / 8 + 1 + I.toNat) v) := by
  unfold Hp.setR
  have h1 : ¬ M.isnt x K := by
    unfold Hp.isnt
    rw [h.obj, h.typ]
    intro e
    rcases e with e | e
    · cases e
    · exact e hK.symm
  rw [if_neg h1, if_neg (by rw [h.len]; omega)]
  unfold Hp.setF
  subst hK
  rw [Int.toNat_natCast, h.fld _ hI]
  rfl

theorem Hp.Has.wr {M : Hp} (o : M.Ok) {x k m : Nat} {ws : List Nat} (h : M.Has x k m ws) (i v : Nat) (hi : i < ws.length) (o' : (M.wr (x / 8 + 1 + i) v).Ok) : (M.wr (x / 8 + 1 + i) v).Has x k m (ws.set i v) := by
  obtain ⟨e, h1, h2, h3, h4⟩ := h.as
  have hl := h.lies.wr o (i + 1) v (by simp; omega)
  rw [show x / 8 + (i + 1) = x / 8 + 1 + i by omega] at hl
  rw [e, show (x / 8 * 8 + 3) / 8 = x / 8 by omega]
  refine Hp.Has.mk o' ?_ h1 h2 (by simpa using h3) h4
  simpa using hl

theorem Hp.Has.wr_other {M : Hp} {x k m c v : Nat} {ws : List Nat} (h : M.Has x k m ws) (hd : c < x / 8 ∨ x / 8 + (ws.length + 1) ≤ c) (o' : (M.wr c v).Ok) : (M.wr c v).Has x k m ws := by
  obtain ⟨e, h1, h2, h3, h4⟩ := h.as
  have hl := h.lies.wr_other (c := c) (v := v) (by simpa using hd)
  rw [e]
  exact Hp.Has.mk o' hl h1 h2 h3 h4

/-- what is made is there, apart from all that lay there -/
theorem Hp.mk_lies {M M' : Hp} (o : M.Ok) (o' : M'.Ok) {k m : Nat} {ws : List Nat} {x : Nat} (h1 : 1 ≤ k) (h2 : k ≤ 13) (h4 : m < 281474976710656) (h : M.mk' k m ws = (x, 0, M')) :
    M.Grown M' ∧ M'.Has x k m ws ∧ M'.segs.length ≤ M.segs.length + 1 ∧ ∀ (b kd : Nat) (us : List Nat), 0 < us.length → M.Lies b kd us → Apart b us.length (x / 8) (ws.length + 1) := by
  unfold Hp.mk' at h
  split at h
  · cases h
  · rename_i h3
    cases hc : M.make k m ws with
    | none => rw [hc] at h; cases h
    | some p =>
      rw [hc] at h; cases h
      unfold Hp.make at hc
      cases hp : M.putAt (rawK k) (headerOf k ws.length m :: ws) with
      | none => rw [hp] at hc; cases hc
      | some q =>
        rw [hp] at hc
        obtain ⟨a, M2⟩ := q
        cases hc
        obtain ⟨g, hL, hn, hA⟩ := Hp.putAt_lies o o' (by simp) hp
        refine ⟨g, Hp.Has.mk o' hL h1 h2 (by omega) h4, hn, fun b kd us hu hb => ?_⟩
        rw [show (a * 8 + 3) / 8 = a by omega]
        simpa using hA b kd us hu hb
end Go.Proofs.Ytecemlamoiepdaa
