/- The heap of the program as plain data (segments, their words), how it lies in memory, and what stays of it. No conditions. -/
import Derived.Test.YtecemlamoiepdaaWord2
namespace Go.Proofs.Ytecemlamoiepdaa
open Go.RowKit

/-- a segment that is taken: its kind, its words -/
structure Sg where
  kind : Nat
  words : List Nat

/-- a heap: how many segments it may take; those that it took; of each kind one above the segment that is filled now (0: none); what lies beside them -/
structure Hp where
  limit : Nat
  segs : List Sg
  cur : Nat → Nat
  sy : Value
  en : Value
  ep : Nat

structure Hp.Ok (M : Hp) : Prop where
  pos : 0 < M.limit
  lim : M.limit ≤ 1024
  len : M.segs.length ≤ M.limit
  kind : ∀ (k : Nat) (s : Sg), M.segs[k]? = some s → s.kind < 4
  room : ∀ (k : Nat) (s : Sg), M.segs[k]? = some s → s.words.length ≤ 64
  word : ∀ (k : Nat) (s : Sg), M.segs[k]? = some s → ∀ x ∈ s.words, x < 18446744073709551616
  even : ∀ (k : Nat) (s : Sg), M.segs[k]? = some s → s.kind < 2 → s.words.length % 2 = 0
  cur : ∀ k, M.cur k ≤ M.segs.length
  here : ∀ (k j : Nat) (s : Sg), M.cur k = j + 1 → M.segs[j]? = some s → s.kind = k

/-- the j-th cell of the k-th segment, if it is taken -/
def Sg.cell (s : Sg) (k j : Nat) : Value :=
  if j = 0 then .int .i64 0
  else if j = 1 then .int .i64 s.kind
  else if j = 2 then .int .i64 s.words.length
  else if j < 7 then .int .i64 5
  else if j = 7 then .int .i64 ((k : Nat) + 1)
  else .int .u64 ((s.words.getD (j - 8) 0 : Nat) : Int)

/-- the i-th cell of the memory of segments -/
def Hp.cell (M : Hp) (i : Nat) : Value :=
  match M.segs[i / 72]? with
  | none => if i % 72 < 8 then .int .i64 0 else .int .u64 0
  | some s => s.cell (i / 72) (i % 72)

def Hp.curCell (M : Hp) (i : Nat) : Value := .int .i64 ((if i < 4 then M.cur i else 0 : Nat) : Int)

/-- the blocks in which a heap lies -/
structure HB where
  h : Nat
  c : Nat
  s : Nat
  m : Nat
  g : Nat

def HB.has (hb : HB) (k : Nat) : Prop := k = hb.h ∨ k = hb.c ∨ k = hb.s ∨ k = hb.m ∨ k = hb.g

structure Rep (hb : HB) (M : Hp) (w : World) : Prop where
  bh : w.heap[hb.h]? = some (.cells #[.pointer (some ⟨hb.c, 0, none⟩), M.sy, M.en, .int .u64 M.ep] 60 (0, 0))
  bc : w.heap[hb.c]? = some (.cells #[.pointer (some ⟨hb.s, 0, none⟩)] 121 (0, 0))
  bs : ∃ cs : Array Value, w.heap[hb.s]? = some (.cells cs 140 (0, 0)) ∧ cs.size = 21 ∧ cs[0]? = some (.pointer (some ⟨hb.m, 0, none⟩)) ∧ ∀ i, i < 20 → cs[i + 1]? = some (M.curCell i)
  bm : w.heap[hb.m]? = some (.cells #[.slice (some ⟨hb.g, 0, none⟩) M.limit M.limit, .int .i64 M.segs.length, .int .i64 (M.limit - M.segs.length : Nat)] 216 (0, 0))
  bg : ∃ cs : Array Value, w.heap[hb.g]? = some (.cells cs 213 (0, 0)) ∧ cs.size = M.limit * 72 ∧ ∀ i, i < M.limit * 72 → cs[i]? = some (M.cell i)
  apart : hb.h ≠ hb.c ∧ hb.h ≠ hb.s ∧ hb.h ≠ hb.m ∧ hb.h ≠ hb.g ∧ hb.c ≠ hb.s ∧ hb.c ≠ hb.m ∧ hb.c ≠ hb.g ∧ hb.s ≠ hb.m ∧ hb.s ≠ hb.g ∧ hb.m ≠ hb.g
  ok : M.Ok

/-- of what was there nothing but a heap's own blocks has turned -/
structure Moves (hb : HB) (w w' : World) : Prop where
  os : w'.os = w.os
  tape : w'.tape = w.tape
  output : w'.output = w.output
  size : w.heap.size ≤ w'.heap.size
  block : ∀ k, k < w.heap.size → ¬ hb.has k → w'.heap[k]? = w.heap[k]?

theorem Moves.refl (hb : HB) (w : World) : Moves hb w w := ⟨rfl, rfl, rfl, Nat.le_refl _, fun _ _ _ => rfl⟩
theorem Moves.trans {hb : HB} {a b c : World} (h : Moves hb a b) (k : Moves hb b c) : Moves hb a c :=
  ⟨k.os.trans h.os, k.tape.trans h.tape, k.output.trans h.output, Nat.le_trans h.size k.size, fun i hi hn => (k.block i (Nat.lt_of_lt_of_le hi h.size) hn).trans (h.block i hi hn)⟩
/-- a step that leaves all that lay there when it all began -/
theorem Moves.trans' {hb : HB} {a w w' : World} (h : Moves hb a w) (e : w'.os = w.os ∧ w'.tape = w.tape ∧ w'.output = w.output ∧ w.heap.size ≤ w'.heap.size) (hk : ∀ k, k < a.heap.size → ¬ hb.has k → w'.heap[k]? = w.heap[k]?) : Moves hb a w' :=
  ⟨e.1.trans h.os, e.2.1.trans h.tape, e.2.2.1.trans h.output, Nat.le_trans h.size e.2.2.2, fun k h1 h2 => (hk k h1 h2).trans (h.block k h1 h2)⟩
theorem Moves.of_below {hb : HB} {w w' : World} (h : Below w.heap.size w w') : Moves hb w w' := ⟨h.os, h.tape, h.output, h.size, fun k hk _ => h.block k hk⟩
theorem Moves.to_below {hb : HB} {B : Nat} {w w' : World} (h : Moves hb w w') (hB : B ≤ w.heap.size) (h1 : B ≤ hb.h) (h2 : B ≤ hb.c) (h3 : B ≤ hb.s) (h4 : B ≤ hb.m) (h5 : B ≤ hb.g) : Below B w w' :=
  ⟨h.os, h.tape, h.output, h.size, fun k hk => h.block k (by omega) (by unfold HB.has; omega)⟩
theorem Moves.setCell {hb : HB} {a w : World} (h : Moves hb a w) {p : Addr} (hp : hb.has p.block) (u : Value) : Moves hb a (w.setCell p u) :=
  h.trans ⟨rfl, rfl, rfl, by simp [World.setCell], fun k _ hn => Below.heap_setCell _ _ _ _ (fun e => hn (e ▸ hp))⟩
theorem Moves.drew {hb : HB} {a w : World} (h : Moves hb a w) : Moves hb a w.drew := ⟨h.os, h.tape, h.output, h.size, h.block⟩
theorem Moves.drewN {hb : HB} {a w : World} (n : Nat) (h : Moves hb a w) : Moves hb a (w.drewN n) := ⟨h.os, h.tape, h.output, h.size, h.block⟩
theorem Moves.alloc {hb : HB} {a w : World} (h : Moves hb a w) (o : Obj) : Moves hb a (w.alloc o) := h.trans (.of_below ((Below.refl _ _).alloc (Nat.le_refl _) _))
theorem Moves.cell {hb : HB} {w w' : World} (h : Moves hb w w') {p : Addr} (hp : p.block < w.heap.size) (hn : ¬ hb.has p.block) : w'.cell? p = w.cell? p := World.cell?_of_block (w := w) (h.block p.block hp hn)
theorem Moves.frozen {hb : HB} {w w' : World} (h : Moves hb w w') {p : Addr} (hp : p.block < w.heap.size) (hn : ¬ hb.has p.block) : w'.frozen? p = w.frozen? p := World.frozen?_of_block (w := w) (h.block p.block hp hn)

namespace Rep
variable {hb : HB} {M : Hp} {w : World}

theorem of_blocks {w' : World} (r : Rep hb M w) (h : ∀ k, hb.has k → w'.heap[k]? = w.heap[k]?) : Rep hb M w' := by
  refine ⟨?_, ?_, ?_, ?_, ?_, r.apart, r.ok⟩
  · rw [h _ (.inl rfl)]; exact r.bh
  · rw [h _ (.inr (.inl rfl))]; exact r.bc
  · rw [h _ (.inr (.inr (.inl rfl)))]; exact r.bs
  · rw [h _ (.inr (.inr (.inr (.inl rfl))))]; exact r.bm
  · rw [h _ (.inr (.inr (.inr (.inr rfl))))]; exact r.bg

theorem lt (r : Rep hb M w) (k : Nat) (h : hb.has k) : k < w.heap.size := by
  obtain ⟨cs, h3, _⟩ := r.bs
  obtain ⟨ds, h5, _⟩ := r.bg
  rcases h with rfl | rfl | rfl | rfl | rfl
  · exact lt_of_block r.bh
  · exact lt_of_block r.bc
  · exact lt_of_block h3
  · exact lt_of_block r.bm
  · exact lt_of_block h5

theorem below {w' : World} (r : Rep hb M w) (h : Below w.heap.size w w') : Rep hb M w' := r.of_blocks fun k hk => h.block k (r.lt k hk)
theorem drew (r : Rep hb M w) : Rep hb M w.drew := r.of_blocks fun _ _ => rfl
theorem drewN (r : Rep hb M w) (n : Nat) : Rep hb M (w.drewN n) := r.of_blocks fun _ _ => rfl
theorem alloc (r : Rep hb M w) (o : Obj) : Rep hb M (w.alloc o) := r.below ((Below.refl _ _).alloc (Nat.le_refl _) _)
/-- a store elsewhere -/
theorem other (r : Rep hb M w) {p : Addr} (hp : ¬ hb.has p.block) (u : Value) : Rep hb M (w.setCell p u) :=
  r.of_blocks fun _ hk => Below.heap_setCell _ _ _ _ (fun e => hp (e ▸ hk))

theorem h0 (r : Rep hb M w) : w.cell? ⟨hb.h, 0, none⟩ = some (.pointer (some ⟨hb.c, 0, none⟩)) := by simp [World.cell?, r.bh]
theorem h1 (r : Rep hb M w) : w.cell? ⟨hb.h, 1, none⟩ = some M.sy := by simp [World.cell?, r.bh]
theorem h2 (r : Rep hb M w) : w.cell? ⟨hb.h, 2, none⟩ = some M.en := by simp [World.cell?, r.bh]
theorem h3 (r : Rep hb M w) : w.cell? ⟨hb.h, 3, none⟩ = some (.int .u64 M.ep) := by simp [World.cell?, r.bh]
theorem c0 (r : Rep hb M w) : w.cell? ⟨hb.c, 0, none⟩ = some (.pointer (some ⟨hb.s, 0, none⟩)) := by simp [World.cell?, r.bc]
theorem s0 (r : Rep hb M w) : w.cell? ⟨hb.s, 0, none⟩ = some (.pointer (some ⟨hb.m, 0, none⟩)) := by
  obtain ⟨cs, h, _, h1, _⟩ := r.bs
  simp [World.cell?, h, h1]
theorem m0 (r : Rep hb M w) : w.cell? ⟨hb.m, 0, none⟩ = some (.slice (some ⟨hb.g, 0, none⟩) M.limit M.limit) := by simp [World.cell?, r.bm]
theorem m1 (r : Rep hb M w) : w.cell? ⟨hb.m, 1, none⟩ = some (.int .i64 M.segs.length) := by simp [World.cell?, r.bm]
theorem m2 (r : Rep hb M w) : w.cell? ⟨hb.m, 2, none⟩ = some (.int .i64 (M.limit - M.segs.length : Nat)) := by simp [World.cell?, r.bm]
theorem cu (r : Rep hb M w) (k : Nat) (hk : k < 20) : w.cell? ⟨hb.s, k + 1, none⟩ = some (M.curCell k) := by
  obtain ⟨cs, h, _, _, h2⟩ := r.bs
  simp [World.cell?, h, h2 k hk]
theorem gc (r : Rep hb M w) (i : Nat) (hi : i < M.limit * 72) : w.cell? ⟨hb.g, i, none⟩ = some (M.cell i) := by
  obtain ⟨cs, h, _, h2⟩ := r.bg
  simp [World.cell?, h, h2 i hi]
theorem fh (r : Rep hb M w) (i : Nat) : w.frozen? ⟨hb.h, i, none⟩ = false := by simp [World.frozen?, r.bh]
theorem fs (r : Rep hb M w) (i : Nat) : w.frozen? ⟨hb.s, i, none⟩ = false := by
  obtain ⟨cs, h, _⟩ := r.bs
  simp [World.frozen?, h]
theorem fm (r : Rep hb M w) (i : Nat) : w.frozen? ⟨hb.m, i, none⟩ = false := by simp [World.frozen?, r.bm]
theorem fg (r : Rep hb M w) (i : Nat) : w.frozen? ⟨hb.g, i, none⟩ = false := by
  obtain ⟨cs, h, _⟩ := r.bg
  simp [World.frozen?, h]

/-! ### the cells of a segment -/
theorem seg_lt (_ : Rep hb M w) {k : Nat} {s : Sg} (h : M.segs[k]? = some s) : k < M.segs.length := by
  rcases Nat.lt_or_ge k M.segs.length with h1 | h1
  · exact h1
  · rw [List.getElem?_eq_none h1] at h; cases h
theorem idx (r : Rep hb M w) {k j : Nat} {s : Sg} (h : M.segs[k]? = some s) (hj : j < 72) : k * 72 + j < M.limit * 72 := by
  have := r.seg_lt h
  have := r.ok.len
  omega
theorem g_at (r : Rep hb M w) {k j : Nat} {s : Sg} (h : M.segs[k]? = some s) (hj : j < 72) : w.cell? ⟨hb.g, k * 72 + j, none⟩ = some (s.cell k j) := by
  rw [r.gc _ (r.idx h hj)]
  have e1 : (k * 72 + j) / 72 = k := by omega
  have e2 : (k * 72 + j) % 72 = j := by omega
  unfold Hp.cell
  rw [e1, e2, h]
theorem g0 (r : Rep hb M w) {k : Nat} {s : Sg} (h : M.segs[k]? = some s) : w.cell? ⟨hb.g, k * 72, none⟩ = some (.int .i64 0) := by simpa [Sg.cell] using r.g_at (j := 0) h (by omega)
theorem g1 (r : Rep hb M w) {k : Nat} {s : Sg} (h : M.segs[k]? = some s) : w.cell? ⟨hb.g, k * 72 + 1, none⟩ = some (.int .i64 s.kind) := by simpa [Sg.cell] using r.g_at (j := 1) h (by omega)
theorem g2 (r : Rep hb M w) {k : Nat} {s : Sg} (h : M.segs[k]? = some s) : w.cell? ⟨hb.g, k * 72 + 2, none⟩ = some (.int .i64 s.words.length) := by simpa [Sg.cell] using r.g_at (j := 2) h (by omega)
theorem g7 (r : Rep hb M w) {k : Nat} {s : Sg} (h : M.segs[k]? = some s) : w.cell? ⟨hb.g, k * 72 + 7, none⟩ = some (.int .i64 ((k : Nat) + 1)) := by simpa [Sg.cell] using r.g_at (j := 7) h (by omega)
theorem gk (r : Rep hb M w) {k : Nat} {s : Sg} (h : M.segs[k]? = some s) (j : Nat) (h3 : 3 ≤ j) (h7 : j < 7) : w.cell? ⟨hb.g, k * 72 + j, none⟩ = some (.int .i64 5) := by
  rw [r.g_at h (by omega)]
  unfold Sg.cell
  rw [if_neg (by omega), if_neg (by omega), if_neg (by omega), if_pos h7]
theorem gw (r : Rep hb M w) {k : Nat} {s : Sg} (h : M.segs[k]? = some s) (j : Nat) (hj : j < 64) : w.cell? ⟨hb.g, k * 72 + 8 + j, none⟩ = some (.int .u64 ((s.words.getD j 0 : Nat) : Int)) := by
  rw [Nat.add_assoc, r.g_at h (by omega)]
  unfold Sg.cell
  rw [if_neg (by omega), if_neg (by omega), if_neg (by omega), if_neg (by omega), if_neg (by omega), show 8 + j - 8 = j by omega]
theorem gfree (r : Rep hb M w) {k : Nat} (h : M.segs.length ≤ k) (hl : k < M.limit) : w.cell? ⟨hb.g, k * 72 + 7, none⟩ = some (.int .i64 0) := by
  rw [r.gc _ (by omega)]
  unfold Hp.cell
  rw [show (k * 72 + 7) / 72 = k by omega, List.getElem?_eq_none h, if_pos (by omega)]
end Rep

/-! ### what calls make of a heap -/
def Hp.rd (M : Hp) (a : Nat) : Option Nat := (M.segs[a / 64]?).bind (·.words[a % 64]?)
def Hp.upd (M : Hp) (k : Nat) (s : Sg) : Hp := { M with segs := M.segs.set k s }
def Hp.more (M : Hp) (kind : Nat) : Hp := { M with segs := M.segs ++ [⟨kind, []⟩] }

theorem Hp.Ok.upd {M : Hp} (o : M.Ok) {k : Nat} {s s' : Sg} (h : M.segs[k]? = some s) (hk : s'.kind = s.kind) (hl : s'.words.length ≤ 64) (hw : ∀ x ∈ s'.words, x < 18446744073709551616) (he : s.kind < 2 → s'.words.length % 2 = 0) : (M.upd k s').Ok := by
  have hx : ∀ (i : Nat) (t : Sg), (M.segs.set k s')[i]? = some t → (i = k ∧ t = s') ∨ M.segs[i]? = some t := by
    intro i t ht
    rw [List.getElem?_set] at ht
    split at ht
    · split at ht
      · rename_i e _; cases ht; exact .inl ⟨e.symm, rfl⟩
      · cases ht
    · exact .inr ht
  refine ⟨o.pos, o.lim, by simpa [Hp.upd] using o.len, ?_, ?_, ?_, ?_, by simpa [Hp.upd] using o.cur, ?_⟩
  · intro i t ht
    rcases hx i t ht with ⟨_, rfl⟩ | h'
    · rw [hk]; exact o.kind _ _ h
    · exact o.kind _ _ h'
  · intro i t ht
    rcases hx i t ht with ⟨_, rfl⟩ | h'
    · exact hl
    · exact o.room _ _ h'
  · intro i t ht
    rcases hx i t ht with ⟨_, rfl⟩ | h'
    · exact hw
    · exact o.word _ _ h'
  · intro i t ht hk2
    rcases hx i t ht with ⟨_, rfl⟩ | h'
    · exact he (hk ▸ hk2)
    · exact o.even _ _ h' hk2
  · intro q j t hq ht
    rcases hx j t ht with ⟨e, rfl⟩ | h'
    · rw [hk]; exact o.here q j s hq (e ▸ h)
    · exact o.here q j t hq h'

theorem Hp.Ok.more {M : Hp} (o : M.Ok) {kind : Nat} (hk : kind < 4) (hl : M.segs.length < M.limit) : (M.more kind).Ok := by
  have hx : ∀ (i : Nat) (t : Sg), (M.segs ++ [(⟨kind, []⟩ : Sg)])[i]? = some t → (i = M.segs.length ∧ t = ⟨kind, []⟩) ∨ M.segs[i]? = some t := by
    intro i t ht
    rcases Nat.lt_or_ge i M.segs.length with h | h
    · rw [List.getElem?_append_left h] at ht; exact .inr ht
    · rw [List.getElem?_append_right h] at ht
      rcases Nat.eq_zero_or_pos (i - M.segs.length) with e | e
      · rw [e] at ht; cases ht; exact .inl ⟨by omega, rfl⟩
      · rw [List.getElem?_eq_none (by simp; omega)] at ht; cases ht
  refine ⟨o.pos, o.lim, by simp [Hp.more]; omega, ?_, ?_, ?_, ?_, fun k => by have := o.cur k; simp [Hp.more]; omega, ?_⟩
  · intro i t ht
    rcases hx i t ht with ⟨_, rfl⟩ | h'
    · exact hk
    · exact o.kind _ _ h'
  · intro i t ht
    rcases hx i t ht with ⟨_, rfl⟩ | h'
    · exact Nat.zero_le _
    · exact o.room _ _ h'
  · intro i t ht
    rcases hx i t ht with ⟨_, rfl⟩ | h'
    · intro x hx; cases hx
    · exact o.word _ _ h'
  · intro i t ht hk2
    rcases hx i t ht with ⟨_, rfl⟩ | h'
    · rfl
    · exact o.even _ _ h' hk2
  · intro q j t hq ht
    rcases hx j t ht with ⟨e, rfl⟩ | h'
    · have := o.cur q; simp only [Hp.more] at hq; omega
    · exact o.here q j t hq h'

/-- a store into one cell of a segment that is taken -/
theorem Rep.store {hb : HB} {M : Hp} {w : World} (r : Rep hb M w) {k j : Nat} {s : Sg} (h : M.segs[k]? = some s) (hj : j < 72) (s' : Sg) (v : Value)
    (hk : s'.kind = s.kind) (hl : s'.words.length ≤ 64) (hw : ∀ x ∈ s'.words, x < 18446744073709551616) (he : s.kind < 2 → s'.words.length % 2 = 0) (hc : ∀ i, i < 72 → s'.cell k i = if i = j then v else s.cell k i) :
    Rep hb (M.upd k s') (w.setCell ⟨hb.g, k * 72 + j, none⟩ v) := by
  obtain ⟨a1, a2, a3, a4, a5, a6, a7, a8, a9, a10⟩ := r.apart
  have hne : ∀ q, q ≠ hb.g → (w.setCell ⟨hb.g, k * 72 + j, none⟩ v).heap[q]? = w.heap[q]? := fun q hq => Below.heap_setCell _ _ _ _ hq
  have hlen : (M.segs.set k s').length = M.segs.length := by simp
  refine ⟨?_, ?_, ?_, ?_, ?_, r.apart, r.ok.upd h hk hl hw he⟩
  · rw [hne _ a4]; exact r.bh
  · rw [hne _ a7]; exact r.bc
  · rw [hne _ a9]; exact r.bs
  · rw [hne _ a10]; simp only [Hp.upd, hlen]; exact r.bm
  · obtain ⟨cs, hb1, hs, hb2⟩ := r.bg
    refine ⟨cs.setIfInBounds (k * 72 + j) v, ?_, by simpa [Hp.upd] using hs, ?_⟩
    · simp [World.setCell, Array.getElem?_modify, hb1]
    · intro i hi
      have hi' : i < M.limit * 72 := hi
      rw [Array.getElem?_setIfInBounds, hb2 i hi']
      have hkl := r.seg_lt h
      by_cases e : k * 72 + j = i
      · rw [if_pos e, if_pos (by omega)]
        subst e
        unfold Hp.cell Hp.upd
        rw [show (k * 72 + j) / 72 = k by omega, show (k * 72 + j) % 72 = j by omega, List.getElem?_set_self hkl]
        simp [hc j hj]
      · rw [if_neg e]
        unfold Hp.cell Hp.upd
        by_cases e2 : i / 72 = k
        · rw [e2, List.getElem?_set_self hkl, h]
          simp only
          rw [hc _ (by omega), if_neg (by omega)]
        · rw [List.getElem?_set_ne (by omega)]
end Go.Proofs.Ytecemlamoiepdaa
