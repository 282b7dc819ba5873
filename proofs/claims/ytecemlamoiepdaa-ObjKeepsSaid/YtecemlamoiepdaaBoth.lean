/- The things in memory and, beside them, the row of the words that were made. -/
import Derived.Test.YtecemlamoiepdaaSize
namespace Go.Proofs.Ytecemlamoiepdaa
open Go.ChangeShapes Go.WideShapes Go.ChangeAt Go.RowKit

theorem EnvT.keep2 {T : TypeId} {hb : HB} {lo : Nat} {w w' : World} {u : Value} {G : List Sc} {vs : List Value} (h : EnvT T hb lo w u G vs)
    (hk : ∀ k, k < w.heap.size → (u.ownBlock = some k ∨ ∃ (i : Nat) (v : Value), vs[i]? = some v ∧ v.ownBlock = some k) → w'.heap[k]? = w.heap[k]?) : EnvT T hb lo w' u G vs :=
  ⟨h.len, thRow_block h.all (fun k e => hk k (h.all.lt k e).2 (.inl e)), h.ah,
    fun i s v h1 h2 => thRow_block (h.own i s v h1 h2) (fun k e => hk k ((h.own i s v h1 h2).lt k e).2 (.inr ⟨i, v, h2, e⟩)), h.vh, h.ne⟩

theorem EnvT.lt {T : TypeId} {hb : HB} {lo : Nat} {w : World} {u : Value} {G : List Sc} {vs : List Value} (h : EnvT T hb lo w u G vs) {i k : Nat} {v : Value} (hv : vs[i]? = some v) (hk : v.ownBlock = some k) : k < w.heap.size := by
  obtain ⟨s, hs⟩ : ∃ s, G[i]? = some s := ⟨_, List.getElem?_eq_getElem (by rw [← h.len]; exact (List.getElem?_eq_some_iff.1 hv).1)⟩
  exact ((h.own i s v hs hv).lt k hk).2

structure Both (T : TypeId) (hb : HB) (lo : Nat) (w : World) (u mv : Value) (G : List Sc) (vs : List Value) : Prop where
  env : EnvT T hb lo w u G vs
  row : OwnW w mv (G.map Sc.w)
  mh : ∀ k, mv.ownBlock = some k → ¬ hb.has k ∧ lo ≤ k ∧ u.ownBlock ≠ some k ∧ ∀ (i : Nat) (v : Value), vs[i]? = some v → v.ownBlock ≠ some k

theorem Both.nil (T : TypeId) (hb : HB) (lo : Nat) (w : World) : Both T hb lo w (.slice none 0 0) (.slice none 0 0) [] [] :=
  ⟨EnvT.nil _ _ _ _, OwnW.nil' _, by intro k h; simp [Value.ownBlock] at h⟩

theorem Both.keep {T : TypeId} {hb : HB} {lo : Nat} {w w' : World} {u mv : Value} {G : List Sc} {vs : List Value} (h : Both T hb lo w u mv G vs) (hk : ∀ k, k < w.heap.size → ¬ hb.has k → lo ≤ k → w'.heap[k]? = w.heap[k]?) : Both T hb lo w' u mv G vs :=
  ⟨h.env.keep hk, ownW_block h.row fun k e => hk k (h.row.lt k e).2 (h.mh k e).1 (h.mh k e).2.1, h.mh⟩
theorem Both.moves {T : TypeId} {hb : HB} {lo : Nat} {w w' : World} {u mv : Value} {G : List Sc} {vs : List Value} (h : Both T hb lo w u mv G vs) (m : Moves hb w w') : Both T hb lo w' u mv G vs := h.keep fun k h1 h2 _ => m.block k h1 h2
theorem Both.below {T : TypeId} {hb : HB} {lo : Nat} {w w' : World} {u mv : Value} {G : List Sc} {vs : List Value} (h : Both T hb lo w u mv G vs) (m : Below w.heap.size w w') : Both T hb lo w' u mv G vs := h.keep fun k h1 _ _ => m.block k h1

/-- a block of its own: none of ours -/
structure Free (hb : HB) (lo B : Nat) (w : World) (u mv : Value) (vs : List Value) : Prop where
  lt : B < w.heap.size
  lo' : lo ≤ B
  hb' : ¬ hb.has B
  u' : u.ownBlock ≠ some B
  mv' : mv.ownBlock ≠ some B
  vs' : ∀ (i : Nat) (v : Value), vs[i]? = some v → v.ownBlock ≠ some B

/-- a block that came later -/
theorem Both.free {T : TypeId} {hb : HB} {lo B : Nat} {w w' : World} {u mv : Value} {G : List Sc} {vs : List Value} {M : Hp} (h : Both T hb lo w u mv G vs) (r : Rep hb M w) (hB : w.heap.size ≤ B) (hB' : B < w'.heap.size) (hlo : lo ≤ w.heap.size) : Free hb lo B w' u mv vs := by
  refine ⟨hB', by omega, fun hc => ?_, fun e => ?_, fun e => ?_, fun i v hv e => ?_⟩
  · have := r.lt B hc; omega
  · have := (h.env.all.lt B e).2; omega
  · have := (h.row.lt B e).2; omega
  · have := h.env.lt hv e; omega

theorem Free.size {hb : HB} {lo B : Nat} {w w' : World} {u mv : Value} {vs : List Value} (f : Free hb lo B w u mv vs) (h : w.heap.size ≤ w'.heap.size) : Free hb lo B w' u mv vs := ⟨Nat.lt_of_lt_of_le f.lt h, f.lo', f.hb', f.u', f.mv', f.vs'⟩

/-- a store into such a block -/
theorem Both.box {T : TypeId} {hb : HB} {lo B j : Nat} {w : World} {u mv : Value} {G : List Sc} {vs : List Value} (h : Both T hb lo w u mv G vs) (f : Free hb lo B w u mv vs) (x : Value) : Both T hb lo (w.setCell ⟨B, j, none⟩ x) u mv G vs := by
  have hk : ∀ q, q ≠ B → (w.setCell ⟨B, j, none⟩ x).heap[q]? = w.heap[q]? := fun q hq => Below.heap_setCell _ _ _ _ hq
  refine ⟨h.env.keep2 fun k _ h1 => hk k fun e => ?_, ownW_block h.row fun k e => hk k fun e2 => ?_, h.mh⟩
  · subst e
    rcases h1 with h1 | ⟨i, v, h1, h2⟩
    · exact f.u' h1
    · exact f.vs' i v h1 h2
  · subst e2; exact f.mv' e

/-- a thing's word set -/
theorem Both.put {T : TypeId} {hb : HB} {lo : Nat} {w : World} {u mv : Value} {G : List Sc} {vs : List Value} (h : Both T hb lo w u mv G vs) (k I v : Nat) (t : Sc) (a : Option Addr) (cp : Nat) (ht : G[k]? = some t) (hv : vs[k]? = some (.slice a t.l.length cp)) (hI : I < t.l.length) :
    ∃ g, a = some ⟨g, 0, none⟩ ∧ g < w.heap.size ∧ ¬ hb.has g ∧ lo ≤ g ∧ (∃ x, w.cell? ⟨g, I, none⟩ = some (.int .u64 x)) ∧ w.frozen? ⟨g, I, none⟩ = false ∧
      Both T hb lo (w.setCell ⟨g, I, none⟩ (.int .u64 v)) u mv (Scs.setL G k I v) vs := by
  obtain ⟨g, rfl, h1, h2, h3, h4, h5, h6⟩ := h.env.put k I v t a cp ht hv hI
  refine ⟨g, rfl, h1, h2, h3, h4, h5, h6, ?_, h.mh⟩
  have e : (Scs.setL G k I v).map Sc.w = G.map Sc.w := by
    apply List.ext_getElem?
    intro i
    rw [List.getElem?_map, List.getElem?_map, setL_get]
    cases G[i]? with
    | none => rfl
    | some s => simp only [Option.map_some]; split <;> rfl
  rw [e]
  exact ownW_block h.row fun q hq => Below.heap_setCell _ _ _ _ fun e2 => (h.mh q hq).2.2.2 k _ hv (by rw [e2]; rfl)

/-- the thing is made: its words copied to a row of their own, its record laid -/
theorem both_tail {T : TypeId} {hb : HB} {lo B n : Nat} {W w8 w10 : World} {u mv v : Value} {G : List Sc} {vs ws cs0 : List Value} {M : Hp} {cs : Array Value} {e1 e2 e3 : TypeId}
    (h : Both T hb lo w8 u mv G vs) (r8 : Rep hb M w8) (h8 : Below lo W w8) (hlo : lo ≤ w8.heap.size) (f : Free hb lo B w8 u mv vs)
    (hg : (w8.alloc (.cells cs0.toArray e1)).grownBy w10 (some w8.heap.size)) (hown : w10.ownsRow 0 e2 1 v n ws) (hat : v.ownBlock = some w8.heap.size ∨ v.ownBlock = some (w8.heap.size + 1)) :
    Both T hb lo ((w10.setCell ⟨B, 2, none⟩ v).alloc (.cells cs e3)) u mv G vs ∧ Rep hb M ((w10.setCell ⟨B, 2, none⟩ v).alloc (.cells cs e3)) ∧ ((w10.setCell ⟨B, 2, none⟩ v).alloc (.cells cs e3)).ownsRow 0 e2 1 v n ws ∧
      (∀ k, v.ownBlock = some k → ¬ hb.has k ∧ lo ≤ k ∧ u.ownBlock ≠ some k ∧ ∀ (i : Nat) (v' : Value), vs[i]? = some v' → v'.ownBlock ≠ some k) ∧ (∀ k, v.ownBlock = some k → mv.ownBlock ≠ some k) ∧ Below lo W ((w10.setCell ⟨B, 2, none⟩ v).alloc (.cells cs e3)) ∧ lo ≤ ((w10.setCell ⟨B, 2, none⟩ v).alloc (.cells cs e3)).heap.size := by
  have hza : (w8.alloc (.cells cs0.toArray e1)).heap.size = w8.heap.size + 1 := by simp
  have hz10 := hg.size
  rw [hza] at hz10
  have hz11 : (w10.setCell ⟨B, 2, none⟩ v).heap.size = w10.heap.size := by simp [World.setCell]
  have hfl := f.lt
  have hfo := f.lo'
  have key : ∀ q, q < w8.heap.size → q ≠ B → ((w10.setCell ⟨B, 2, none⟩ v).alloc (.cells cs e3)).heap[q]? = w8.heap[q]? := by
    intro q hq hqB
    refine (heap_alloc_old _ _ (by rw [hz11]; omega)).trans ((Below.heap_setCell _ _ _ _ hqB).trans ?_)
    refine (hg.block q (by rw [hza]; omega) (fun e => by cases e; omega)).trans ?_
    exact heap_alloc_old _ _ hq
  have hvk : ∀ k, v.ownBlock = some k → w8.heap.size ≤ k := by
    intro k hk
    rcases hat with h | h
    · rw [h] at hk; cases hk; exact Nat.le_refl _
    · rw [h] at hk; cases hk; omega
  have hE : EnvT T hb lo ((w10.setCell ⟨B, 2, none⟩ v).alloc (.cells cs e3)) u G vs := h.env.keep2 fun k h1 h2 => key k h1 fun e => by
    subst e
    rcases h2 with h2 | ⟨i, x, h2, h3⟩
    · exact f.u' h2
    · exact f.vs' i x h2 h3
  have hR : OwnW ((w10.setCell ⟨B, 2, none⟩ v).alloc (.cells cs e3)) mv (G.map Sc.w) := ownW_block h.row fun k e => key k (h.row.lt k e).2 fun e2 => f.mv' (e2 ▸ e)
  refine ⟨⟨hE, hR, h.mh⟩, r8.of_blocks fun k hk => key k (r8.lt k hk) (fun e => f.hb' (e ▸ hk)), ?_, ?_, ?_, ?_, ?_⟩
  · refine thRow_block hown fun k hk => ?_
    have h1 := hvk k hk
    have h2 := (hown.lt k hk).2
    exact (heap_alloc_old _ _ (by rw [hz11]; exact h2)).trans (Below.heap_setCell _ _ _ _ (show k ≠ B by omega))
  · intro k hk
    have h1 := hvk k hk
    refine ⟨fun hc => by have := r8.lt k hc; omega, by omega, fun e => ?_, fun i v' hv' e => ?_⟩
    · have := (h.env.all.lt k e).2; omega
    · have := h.env.lt hv' e; omega
  · intro k hk e
    have h1 := hvk k hk
    have := (h.row.lt k e).2
    omega
  · exact ((th_grown (h8.alloc hlo _) (by rw [hza]; omega) hg (fun k e => by cases e; omega)).setCell (p := ⟨B, 2, none⟩) hfo v).alloc (by rw [hz11]; omega) _
  · simp [hz11]; omega

/-- .. and laid behind the others; then its word behind the others' -/
theorem both_end {T : TypeId} {hb : HB} {lo : Nat} {W w12 w13 : World} {u u' mv v : Value} {G : List Sc} {vs : List Value} {M : Hp} {s : Sc} (h : Both T hb lo w12 u mv G vs) (hR : Rep hb M w12) (hv : OwnW w12 v s.l)
    (hvb : ∀ k, v.ownBlock = some k → ¬ hb.has k ∧ lo ≤ k ∧ u.ownBlock ≠ some k ∧ ∀ (i : Nat) (v' : Value), vs[i]? = some v' → v'.ownBlock ≠ some k) (hvm : ∀ k, v.ownBlock = some k → mv.ownBlock ≠ some k) (hB : Below lo W w12) (hlo : lo ≤ w12.heap.size)
    (hown : w13.ownsRow 0 T 3 u' (G.length + 1) (thCells G vs ++ [wv s.w, .int .i64 s.par, v])) (hg : w12.grownBy w13 u.ownBlock) (hat : u'.ownBlock = u.ownBlock ∨ u'.ownBlock = some w12.heap.size) :
    EnvT T hb lo w13 u' (G ++ [s]) (vs ++ [v]) ∧ Rep hb M w13 ∧ Below lo W w13 ∧ OwnW w13 mv (G.map Sc.w) ∧ lo ≤ w13.heap.size ∧
      ∀ k, mv.ownBlock = some k → ¬ hb.has k ∧ lo ≤ k ∧ u'.ownBlock ≠ some k ∧ ∀ (i : Nat) (v' : Value), (vs ++ [v])[i]? = some v' → v'.ownBlock ≠ some k := by
  obtain ⟨k1, k2, k3⟩ := th_end (s := s) h.env hR hv hvb hB hlo hown hg hat
  refine ⟨k1, k2, k3, ownW_block h.row fun k e => hg.block k (h.row.lt k e).2 fun e2 => (h.mh k e).2.2.1 e2.symm, Nat.le_trans hlo hg.size, fun k e => ?_⟩
  obtain ⟨m1, m2, m3, m4⟩ := h.mh k e
  refine ⟨m1, m2, ?_, fun i v' hi e2 => ?_⟩
  · rcases hat with h2 | h2
    · rw [h2]; exact m3
    · rw [h2]; intro e3; cases e3; exact Nat.lt_irrefl _ (h.row.lt _ e).2
  · rcases Nat.lt_or_ge i vs.length with hj | hj
    · rw [List.getElem?_append_left hj] at hi; exact m4 i v' hi e2
    · rw [List.getElem?_append_right hj] at hi
      rcases Nat.eq_zero_or_pos (i - vs.length) with e3 | e3
      · rw [e3] at hi; cases hi; exact hvm k e2 e
      · rw [List.getElem?_eq_none (by simp; omega)] at hi; cases hi

theorem both_made {T : TypeId} {hb : HB} {lo x : Nat} {W w13 w15 : World} {u mv mv' : Value} {G : List Sc} {vs : List Value} {M : Hp} {xs : List Nat} {cs : Array Value} {e : TypeId} (hE : EnvT T hb lo w13 u G vs) (hR : Rep hb M w13) (hB : Below lo W w13) (hlo : lo ≤ w13.heap.size)
    (hxs : xs ++ [x] = G.map Sc.w) (hm : ∀ k, mv.ownBlock = some k → ¬ hb.has k ∧ lo ≤ k ∧ u.ownBlock ≠ some k ∧ ∀ (i : Nat) (v' : Value), vs[i]? = some v' → v'.ownBlock ≠ some k)
    (hown : w15.ownsRow 0 29 1 mv' (xs.length + 1) (xs.map wv ++ [wv x])) (hg : (w13.alloc (.cells cs e)).grownBy w15 mv.ownBlock) (hat : mv'.ownBlock = mv.ownBlock ∨ mv'.ownBlock = some (w13.heap.size + 1)) :
    Both T hb lo w15 u mv' G vs ∧ Rep hb M w15 ∧ Below lo W w15 := by
  have hza : (w13.alloc (.cells cs e)).heap.size = w13.heap.size + 1 := by simp
  have key : ∀ q, q < w13.heap.size → mv.ownBlock ≠ some q → w15.heap[q]? = w13.heap[q]? := by
    intro q hq hne
    exact (hg.block q (by rw [hza]; omega) (fun e => hne e.symm)).trans (heap_alloc_old _ _ hq)
  refine ⟨⟨hE.keep2 fun k h1 h2 => key k h1 fun e => ?_, ?_, fun k e => ?_⟩, hR.of_blocks fun k hk => key k (hR.lt k hk) fun e => (hm k e).1 hk, th_grown (hB.alloc hlo _) (by rw [hza]; omega) hg (fun k e => (hm k e).2.1)⟩
  · rcases h2 with h2 | ⟨i, v, h2, h3⟩
    · exact (hm k e).2.2.1 h2
    · exact (hm k e).2.2.2 i v h2 h3
  · unfold OwnW
    rw [← hxs, List.length_append, List.map_append]
    exact hown
  · rcases hat with h2 | h2
    · rw [h2] at e; exact hm k e
    · rw [h2] at e; cases e
      refine ⟨fun hc => by have := hR.lt _ hc; omega, by omega, fun e => ?_, fun i v' hv' e => ?_⟩
      · have := (hE.all.lt _ e).2; omega
      · have := hE.lt hv' e; omega
end Go.Proofs.Ytecemlamoiepdaa
