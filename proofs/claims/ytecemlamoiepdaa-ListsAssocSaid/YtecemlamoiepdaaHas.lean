/- Plain law of the heap: what was made stays what it is while the heap grows, and reads as it was made. No program in sight. -/
import Derived.Test.YtecemlamoiepdaaFrame3
namespace Go.Proofs.Ytecemlamoiepdaa
open Go.RowKit

/-- a heap that has grown: the segments that there were have their words, and more behind them -/
def Hp.Grown (M M' : Hp) : Prop := M'.limit = M.limit ∧ ∀ (j : Nat) (s : Sg), M.segs[j]? = some s → ∃ t, M'.segs[j]? = some ⟨s.kind, s.words ++ t⟩

theorem Hp.Grown.refl (M : Hp) : M.Grown M := ⟨rfl, fun j s h => ⟨[], by rw [List.append_nil]; exact h⟩⟩
theorem Hp.Grown.trans {A B C : Hp} (h : A.Grown B) (k : B.Grown C) : A.Grown C := by
  refine ⟨k.1.trans h.1, fun j s hs => ?_⟩
  obtain ⟨t, ht⟩ := h.2 j s hs
  obtain ⟨u, hu⟩ := k.2 j _ ht
  exact ⟨t ++ u, by rw [← List.append_assoc]; exact hu⟩

theorem Hp.putAt_grown {M M' : Hp} (o : M.Ok) {kind : Nat} {ws : List Nat} {a : Nat} (hn : 0 < ws.length) (h : M.putAt kind ws = some (a, M')) :
    M.Grown M' ∧ (∃ pre, M'.segs[a / 64]? = some ⟨kind, pre ++ ws⟩ ∧ pre.length = a % 64 ∧ (∀ s, M.segs[a / 64]? = some s → pre = s.words)) ∧ M'.segs.length ≤ M.segs.length + 1 ∧ M.segs.length ≤ M'.segs.length := by
  unfold Hp.putAt at h
  cases hr : M.room kind ws.length with
  | some p =>
    obtain ⟨j, s⟩ := p
    rw [hr] at h
    cases h
    obtain ⟨h1, h2, h3, h4⟩ := Hp.room_some hr
    have hk : s.kind = kind := o.here kind j s (by omega) h3
    have hj : j < M.segs.length := (List.getElem?_eq_some_iff.1 h3).1
    have e1 : (j * 64 + s.words.length) / 64 = j := by omega
    have e2 : (j * 64 + s.words.length) % 64 = s.words.length := by omega
    refine ⟨⟨rfl, fun i t ht => ?_⟩, ⟨s.words, ?_, ?_, ?_⟩, ?_, ?_⟩
    · by_cases hi : i = j
      · subst hi
        rw [h3] at ht; cases ht
        exact ⟨ws, by unfold Hp.upd; simp [hj]⟩
      · exact ⟨[], by unfold Hp.upd; simp only [List.append_nil]; rw [List.getElem?_set_ne (by omega)]; exact ht⟩
    · rw [e1]; unfold Hp.upd; simp [hj, hk]
    · rw [e2]
    · intro s' hs'; rw [e1, h3] at hs'; cases hs'; rfl
    · unfold Hp.upd; simp
    · unfold Hp.upd; simp
  | none =>
    rw [hr] at h
    simp only at h
    split at h
    · cases h
      have e1 : (M.segs.length * 64) / 64 = M.segs.length := by omega
      have e2 : (M.segs.length * 64) % 64 = 0 := by omega
      refine ⟨⟨rfl, fun i t ht => ?_⟩, ⟨[], ?_, ?_, ?_⟩, ?_, ?_⟩
      · have hi : i < M.segs.length := (List.getElem?_eq_some_iff.1 ht).1
        refine ⟨[], ?_⟩
        unfold Hp.upd Hp.fresh Hp.setCur Hp.more
        simp only [List.append_nil]
        rw [List.getElem?_set_ne (by omega), List.getElem?_append_left hi]
        exact ht
      · rw [e1]
        unfold Hp.upd Hp.fresh Hp.setCur Hp.more
        simp
      · rw [e2]; rfl
      · intro s hs; rw [e1] at hs; simp at hs
      · unfold Hp.upd Hp.fresh Hp.setCur Hp.more; simp
      · unfold Hp.upd Hp.fresh Hp.setCur Hp.more; simp
    · cases h

theorem Hp.putAt_some {M : Hp} {kind : Nat} {ws : List Nat} (h : M.segs.length < M.limit) : ∃ a M', M.putAt kind ws = some (a, M') := by
  unfold Hp.putAt
  cases M.room kind ws.length with
  | some p => exact ⟨_, _, rfl⟩
  | none => simp only [if_pos h]; exact ⟨_, _, rfl⟩

/-- an object: the word x leads to one of the type k, with the words ws -/
def Hp.Has (M : Hp) (x k m : Nat) (ws : List Nat) : Prop :=
  ∃ a pre post, x = a * 8 + 3 ∧ a < 65536 ∧ M.segs[a / 64]? = some ⟨rawK k, pre ++ (headerOf k ws.length m :: ws) ++ post⟩ ∧ pre.length = a % 64 ∧ 1 ≤ k ∧ k ≤ 13 ∧ ws.length ≤ 62 ∧ m < 281474976710656

theorem Hp.Has.grown {M M' : Hp} {x k m : Nat} {ws : List Nat} (h : M.Has x k m ws) (g : M.Grown M') : M'.Has x k m ws := by
  obtain ⟨a, pre, post, h1, h2, h3, h4, h5⟩ := h
  obtain ⟨t, ht⟩ := g.2 _ _ h3
  exact ⟨a, pre, post ++ t, h1, h2, by rw [ht]; simp [List.append_assoc], h4, h5⟩

theorem Hp.Has.lt {M : Hp} {x k m : Nat} {ws : List Nat} (h : M.Has x k m ws) : x < 524288 ∧ x % 8 = 3 := by
  obtain ⟨a, pre, post, h1, h2, _⟩ := h
  omega

theorem header_parts {k n m : Nat} (h1 : 1 ≤ k) (h2 : k ≤ 13) (h3 : n ≤ 62) (h4 : m < 281474976710656) : headOk (headerOf k n m) = true ∧ lowOf (headerOf k n m) = k ∧ nextOf (headerOf k n m) = n ∧ highOf (headerOf k n m) = m := by
  have a1 : lowOf (headerOf k n m) = k := by unfold lowOf headerOf; omega
  have a2 : nextOf (headerOf k n m) = n := by unfold nextOf headerOf; omega
  have a3 : highOf (headerOf k n m) = m := by unfold highOf headerOf; omega
  refine ⟨headOk_iff.2 ⟨by unfold tagOf headerOf; omega, ?_, ?_, ?_⟩, a1, a2, a3⟩ <;> omega

theorem rawK_lt (k : Nat) : rawK k = 2 ∨ rawK k = 3 := by unfold rawK; split <;> simp

theorem Hp.atOf_eq {M : Hp} {a t k : Nat} (ht : t = 1 ∨ t = 2 ∨ t = 3) (ha : a < 65536) : M.atOf (a * 8 + t) t k = match M.segs[a / 64]? with
    | some s => if s.kind = k ∧ a % 64 < s.words.length then some a else none
    | none => none := by
  have e1 : tagOf (a * 8 + t) = t := by unfold tagOf; omega
  have e2 : (a * 8 + t) / 8 = a := by omega
  have e3 : addrOk (a * 8 + t) = true := by
    unfold addrOk
    rw [mayA (by omega), e1, e2]
    unfold placeOf
    simp
    omega
  unfold Hp.atOf
  rw [if_pos ⟨e3, e1⟩, e2]
  cases M.segs[a / 64]? <;> rfl

theorem Hp.Has.obj {M : Hp} {x k m : Nat} {ws : List Nat} (h : M.Has x k m ws) : M.objOf x = some (x / 8, k, ws.length, m) := by
  obtain ⟨a, pre, post, rfl, h2, h3, h4, h5, h6, h7, h8⟩ := h
  have e2 : (a * 8 + 3) / 8 = a := by omega
  obtain ⟨p1, p2, p3, p4⟩ := header_parts h5 h6 h7 h8
  have key : ∀ kk, M.objIn (a * 8 + 3) kk = if rawK k = kk then some (a, k, ws.length, m) else none := by
    intro kk
    unfold Hp.objIn
    rw [Hp.atOf_eq (by omega) h2, h3]
    simp only
    by_cases hk : rawK k = kk
    · rw [if_pos ⟨hk, by simp [← h4]⟩, if_pos hk]
      simp only [h3]
      have hw : (pre ++ (headerOf k ws.length m :: ws) ++ post)[a % 64]? = some (headerOf k ws.length m) := by
        rw [← h4, List.append_assoc, List.getElem?_append_right (Nat.le_refl _), Nat.sub_self]; rfl
      rw [hw]
      simp only [p1, p2, p3, p4]
      rw [if_pos ⟨trivial, hk, by rw [← h4]; simp; omega⟩]
    · rw [if_neg (by intro e; exact hk e.1), if_neg hk]
  rw [e2]
  unfold Hp.objOf
  rw [key 2, key 3]
  rcases rawK_lt k with hr | hr <;> simp [hr]

theorem Hp.Has.typ {M : Hp} {x k m : Nat} {ws : List Nat} (h : M.Has x k m ws) : M.typ x = k := by unfold Hp.typ; rw [h.obj]
theorem Hp.Has.len {M : Hp} {x k m : Nat} {ws : List Nat} (h : M.Has x k m ws) : M.len x = ws.length := by unfold Hp.len; rw [h.obj]
theorem Hp.Has.mor {M : Hp} {x k m : Nat} {ws : List Nat} (h : M.Has x k m ws) : M.mor x = m := by unfold Hp.mor; rw [h.obj]

theorem Hp.Has.rd {M : Hp} (o : M.Ok) {x k m : Nat} {ws : List Nat} (h : M.Has x k m ws) (i : Nat) (hi : i < ws.length) : M.rd (x / 8 + 1 + i) = ws[i]? := by
  obtain ⟨a, pre, post, rfl, h2, h3, h4, h5, h6, h7, h8⟩ := h
  have e2 : (a * 8 + 3) / 8 = a := by omega
  have hr := o.room _ _ h3
  simp at hr
  rw [e2]
  unfold Hp.rd
  rw [show (a + 1 + i) / 64 = a / 64 by omega, h3, show (a + 1 + i) % 64 = pre.length + (1 + i) by omega]
  simp only [Option.bind_some]
  rw [List.append_assoc, List.getElem?_append_right (by omega), Nat.add_sub_cancel_left, Nat.add_comm 1 i]
  simp only [List.cons_append, List.getElem?_cons_succ]
  rw [List.getElem?_append_left hi]

theorem Hp.Has.getR {M : Hp} (o : M.Ok) {x k m : Nat} {ws : List Nat} (h : M.Has x k m ws) (K I : Int) (hK : K = k) {v : Nat} (h0 : 0 ≤ I) (hv : ws[I.toNat]? = some v) : M.getR x K I = (v, 0) := by
  have hi : I.toNat < ws.length := (List.getElem?_eq_some_iff.1 hv).1
  unfold Hp.getR
  have h1 : ¬ M.isnt x K := by
    unfold Hp.isnt
    rw [h.obj, h.typ]
    intro e
    rcases e with e | e
    · cases e
    · exact e hK.symm
  rw [if_neg h1, if_neg (by rw [h.len]; omega)]
  unfold Hp.get Hp.fld
  rw [h.obj]
  simp only
  rw [if_pos ⟨by omega, hi⟩]
  simp only [Option.bind_some]
  rw [h.rd o _ hi, hv]
  rfl

theorem Hp.Has.getR_no {M : Hp} {x k m : Nat} {ws : List Nat} (h : M.Has x k m ws) (K I : Int) (hK : K = k) (h0 : I < 0 ∨ (ws.length : Int) ≤ I) : M.getR x K I = (0, 4) := by
  unfold Hp.getR
  have h1 : ¬ M.isnt x K := by
    unfold Hp.isnt
    rw [h.obj, h.typ]
    intro e
    rcases e with e | e
    · cases e
    · exact e hK.symm
  rw [if_neg h1, if_pos (by rw [h.len]; exact h0)]

theorem Hp.Has.getR_type {M : Hp} {x k m : Nat} {ws : List Nat} (h : M.Has x k m ws) (K I : Int) (hK : K ≠ k) : M.getR x K I = (0, 3) := by
  unfold Hp.getR
  rw [if_pos]
  unfold Hp.isnt
  rw [h.typ]
  exact .inr (fun e => hK e.symm)

/-- what is made is there, what was there stays -/
theorem Hp.mk_has {M M' : Hp} (o : M.Ok) {k m : Nat} {ws : List Nat} {x : Nat} (h1 : 1 ≤ k) (h2 : k ≤ 13) (h3 : ws.length ≤ 62) (h4 : m < 281474976710656) (h : M.mk' k m ws = (x, 0, M')) :
    M.Grown M' ∧ M'.Has x k m ws ∧ M'.segs.length ≤ M.segs.length + 1 := by
  unfold Hp.mk' at h
  rw [if_neg (by omega)] at h
  cases hc : M.make k m ws with
  | none => rw [hc] at h; cases h
  | some p =>
    rw [hc] at h; cases h
    unfold Hp.make at hc
    cases hp : M.putAt (rawK k) (headerOf k ws.length m :: ws) with
    | none => rw [hp] at hc; cases hc
    | some q =>
      rw [hp] at hc
      obtain ⟨a, M2⟩ := q
      cases hc
      obtain ⟨g, ⟨pre, hs, hl, _⟩, hn, hn2⟩ := Hp.putAt_grown o (by simp) hp
      refine ⟨g, ⟨a, pre, [], rfl, ?_, by simpa using hs, hl, h1, h2, h3, h4⟩, hn⟩
      have h9 := (List.getElem?_eq_some_iff.1 hs).1
      have h10 := o.lim
      have : M2.segs.length ≤ 1024 := by
        have hlen := o.len
        unfold Hp.putAt at hp
        cases hr : M.room (rawK k) (headerOf k ws.length m :: ws).length with
        | some q => rw [hr] at hp; cases hp; unfold Hp.upd; simp; omega
        | none =>
          rw [hr] at hp
          simp only at hp
          split at hp
          · cases hp; unfold Hp.upd Hp.fresh Hp.setCur Hp.more; simp; omega
          · cases hp
      omega

theorem Hp.mk_some {M : Hp} {k m : Nat} {ws : List Nat} (h3 : ws.length ≤ 62) (h : M.segs.length < M.limit) : ∃ x M', M.mk' k m ws = (x, 0, M') := by
  obtain ⟨a, M', hp⟩ := Hp.putAt_some (kind := rawK k) (ws := headerOf k ws.length m :: ws) h
  refine ⟨a * 8 + 3, M', ?_⟩
  unfold Hp.mk' Hp.make
  rw [if_neg (by omega), hp]
  rfl
end Go.Proofs.Ytecemlamoiepdaa
