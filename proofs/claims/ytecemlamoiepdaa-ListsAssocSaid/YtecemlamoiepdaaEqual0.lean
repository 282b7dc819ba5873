/- What stands while judge.equal goes on. -/
import Derived.Test.YtecemlamoiepdaaJudge
namespace Go.Proofs.Ytecemlamoiepdaa
open Go.RowKit

/-- how often a judge has judged -/
def cntOf (J : Nat) (W : World) : Nat := match W.cell? ⟨J, 1, none⟩ with | some (.int _ v) => v.toNat | _ => 0
theorem Jd.cnt {hb : HB} {W : World} {J c : Nat} (h : Jd hb W J c) : cntOf J W = c := by unfold cntOf; rw [h.cells.2.1]; simp

/-- what stands while equal goes on -/
structure EqAt (hb : HB) (M : Hp) (w : World) (J B T : Nat) (cnt : Nat) (t : List (Nat × Nat)) (W : World) : Prop where
  rep : Rep hb M W
  jd : Jd hb W J cnt
  left : Left B W T t.reverse
  os : W.os = w.os
  tape : W.tape = w.tape
  output : W.output = w.output
  size : w.heap.size ≤ W.heap.size
  block : ∀ k, k < w.heap.size → k ≠ J → W.heap[k]? = w.heap[k]?

theorem EqAt.below {hb : HB} {M : Hp} {w W W' : World} {J B T cnt : Nat} {t : List (Nat × Nat)} (h : EqAt hb M w J B T cnt t W) (b : Below W.heap.size W W') : EqAt hb M w J B T cnt t W' := by
  refine ⟨h.rep.below b, h.jd.below b, ?_, b.os.trans h.os, b.tape.trans h.tape, b.output.trans h.output, Nat.le_trans h.size b.size, fun k h1 h2 => (b.block k (Nat.lt_of_lt_of_le h1 h.size)).trans (h.block k h1 h2)⟩
  obtain ⟨u, h1, h2, h3⟩ := h.left.ex
  exact ⟨u, (b.block _ (lt_of_block h1)).trans h1, own_block' h2 fun k hk => b.block k (h2.lt k hk).2, h3⟩

theorem two_set {w : World} {B : Nat} {x y : Value} {t : TypeId} (h : w.heap[B]? = some (.cells #[x, y] t (0, 0))) (z : Value) : (w.setCell ⟨B, 1, none⟩ z).heap[B]? = some (.cells #[x, z] t (0, 0)) := by
  simp only [World.setCell, Array.getElem?_modify, h]; simp

theorem two_box {w : World} {B : Nat} {x : Value} {t : TypeId} (h : w.heap[B]? = some (.cells #[x] t (0, 0))) : w.cell? ⟨B, 0, none⟩ = some x ∧ w.frozen? ⟨B, 0, none⟩ = false := by
  simp [World.cell?, World.frozen?, h]

/-- the last pair of words of an own row -/
theorem two_top {w : World} {e : TypeId} {L : Nat} {v : Value} {xs : List Value} {x y : Nat} (h : w.ownsRow 0 e 2 v (L + 1) (xs ++ [wv x, wv y])) (hx : xs.length = L * 2) :
    ∃ g cap, v = .slice (some ⟨g, 0, none⟩) (L + 1) cap ∧ g < w.heap.size ∧ L + 1 ≤ cap ∧ w.cell? ⟨g, L * 2, none⟩ = some (.int .u64 (x : Nat)) ∧ w.cell? ⟨g, L * 2 + 1, none⟩ = some (.int .u64 (y : Nat)) := by
  rcases h.2 with ⟨_, h0⟩ | ⟨g, cap, cur, rfl, _, hg, hcap, _⟩
  · omega
  · refine ⟨g, cap, rfl, lt_of_block hg, hcap, ?_, ?_⟩
    · have := h.cells (g := g) rfl (L * 2) (wv x) (by rw [List.getElem?_append_right (by omega)]; simp [hx])
      rw [Addr.add_mid, Nat.zero_add] at this
      exact this
    · have := h.cells (g := g) rfl (L * 2 + 1) (wv y) (by rw [List.getElem?_append_right (by omega)]; simp [hx])
      rw [Addr.add_mid, Nat.zero_add] at this
      exact this

/-- the last pair off, one judgement more -/
theorem eq_pop {hb : HB} {M : Hp} {w wr : World} {J cnt L g cap a1 b1 : Nat} {t' : List (Nat × Nat)} (h : EqAt hb M w J w.heap.size (w.heap.size + 1) cnt ((a1, b1) :: t') wr) (hlt : ∀ k, hb.has k → k < w.heap.size) (hJl : J < w.heap.size) (hTs : w.heap.size + 1 < wr.heap.size)
    (hp : wr.ownsRow 0 204 2 (.slice (some ⟨g, 0, none⟩) L cap) L (cells2 t'.reverse)) (hL : L = t'.length) (hg : w.heap.size ≤ g ∧ g ≠ w.heap.size + 1) (hT : ∃ u, wr.heap[w.heap.size + 1]? = some (.cells #[u] 205 (0, 0))) :
    ∀ W, W = ((wr.setCell ⟨w.heap.size + 1, 0, none⟩ (.slice (some ⟨g, 0, none⟩) L cap)).setCell ⟨J, 1, none⟩ (.int .i64 ((cnt : Int) + 1))).alloc (.cells #[.int .u64 (a1 : Nat), .int .u64 (b1 : Nat)] 204) →
    EqAt hb M w J w.heap.size (w.heap.size + 1) (cnt + 1) t' W ∧ LeftN w.heap.size W (w.heap.size + 1) t'.reverse wr.heap.size ∧ W.heap[wr.heap.size]? = some (.cells #[.int .u64 (a1 : Nat), .int .u64 (b1 : Nat)] 204 (0, 0)) := by
  rintro W rfl
  obtain ⟨W2, hW2⟩ : ∃ W2, W2 = (wr.setCell ⟨w.heap.size + 1, 0, none⟩ (.slice (some ⟨g, 0, none⟩) L cap)).setCell ⟨J, 1, none⟩ (.int .i64 ((cnt : Int) + 1)) := ⟨_, rfl⟩
  rw [← hW2]
  have ho : ∀ k, k ≠ w.heap.size + 1 → k ≠ J → W2.heap[k]? = wr.heap[k]? := fun k h1 h2 => by rw [hW2]; exact (Below.heap_setCell _ _ _ _ h2).trans (Below.heap_setCell _ _ _ _ h1)
  have hz : W2.heap.size = wr.heap.size := by rw [hW2]; simp [World.setCell]
  have hold : ∀ k, k < wr.heap.size → (W2.alloc (.cells #[.int .u64 (a1 : Nat), .int .u64 (b1 : Nat)] 204)).heap[k]? = W2.heap[k]? := fun k hk => heap_alloc_old _ _ (by rw [hz]; exact hk)
  obtain ⟨u, hu⟩ := hT
  have hos : W2.os = wr.os ∧ W2.tape = wr.tape ∧ W2.output = wr.output := by rw [hW2]; exact ⟨rfl, rfl, rfl⟩
  have hgl : g < wr.heap.size := (hp.lt g rfl).2
  have hN : LeftN w.heap.size (W2.alloc (.cells #[.int .u64 (a1 : Nat), .int .u64 (b1 : Nat)] 204)) (w.heap.size + 1) t'.reverse wr.heap.size := by
    refine ⟨.slice (some ⟨g, 0, none⟩) L cap, ?_, ?_, ?_⟩
    · exact (hold _ hTs).trans (by rw [hW2]; exact (Below.heap_setCell _ _ _ _ (show w.heap.size + 1 ≠ J by omega)).trans (box_set hu _))
    · rw [List.length_reverse, ← hL]
      exact (own_block' hp fun k hk => by cases hk; exact ho g hg.2 (by omega)).alloc _
    · intro k hk; cases hk; exact ⟨hg.1, hg.2, Nat.ne_of_lt hgl⟩
  refine ⟨⟨(h.rep.of_blocks fun k hk => ho k (by have := hlt k hk; omega) (fun e => h.jd.out (e ▸ hk))).alloc _, ⟨?_, h.jd.out⟩, hN.left, hos.1.trans h.os, hos.2.1.trans h.tape, hos.2.2.trans h.output, by simp; rw [hz]; have := h.size; omega, fun k h1 h2 => ?_⟩, hN, ?_⟩
  · refine (hold J (by omega)).trans ?_
    rw [hW2]
    have h9 := (Below.heap_setCell wr ⟨w.heap.size + 1, 0, none⟩ (.slice (some ⟨g, 0, none⟩) L cap) J (by show J ≠ w.heap.size + 1; omega)).trans h.jd.at'
    exact two_set h9 _
  · exact (hold k (by have := h.size; omega)).trans ((ho k (by omega) h2).trans (h.block k h1 h2))
  · have := World.alloc_heap_new W2 (.cells #[.int .u64 (a1 : Nat), .int .u64 (b1 : Nat)] 204)
    rw [hz] at this
    exact this

/-- a pair of words pushed: what stood stands -/
theorem eq_push {hb : HB} {M : Hp} {w W W' : World} {J cnt N x y : Nat} {t : List (Nat × Nat)} (h : EqAt hb M w J w.heap.size (w.heap.size + 1) cnt t W) (hlt : ∀ k, hb.has k → k < w.heap.size) (hJl : J < w.heap.size)
    (hl : LeftN w.heap.size W' (w.heap.size + 1) (t.reverse ++ [(x, y)]) N) (h1 : W'.os = W.os) (h2 : W'.tape = W.tape) (h3 : W'.output = W.output) (h4 : W.heap.size ≤ W'.heap.size) (h5 : ∀ k, k < W.heap.size → k < w.heap.size ∨ k = N → k ≠ w.heap.size + 1 → W'.heap[k]? = W.heap[k]?) :
    EqAt hb M w J w.heap.size (w.heap.size + 1) cnt ((x, y) :: t) W' := by
  have hsz := h.size
  have ho : ∀ k, k < w.heap.size → W'.heap[k]? = W.heap[k]? := fun k hk => h5 k (by omega) (.inl hk) (by omega)
  refine ⟨h.rep.of_blocks fun k hk => ho k (hlt k hk), ⟨(ho J hJl).trans h.jd.at', h.jd.out⟩, ?_, h1.trans h.os, h2.trans h.tape, h3.trans h.output, by omega, fun k a b => (ho k a).trans (h.block k a b)⟩
  rw [List.reverse_cons]
  exact hl.left

end Go.Proofs.Ytecemlamoiepdaa
