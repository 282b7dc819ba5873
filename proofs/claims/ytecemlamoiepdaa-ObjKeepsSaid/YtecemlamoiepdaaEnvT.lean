/- How things lie in memory: a slice of records (a word, a kind, a row), and each one's own row of words. -/
import Derived.Test.YtecemlamoiepdaaScs
import Derived.Test.YtecemlamoiepdaaStr
import Derived.Test.YtecemlamoiepdaaArgs
namespace Go.Proofs.Ytecemlamoiepdaa
open Go.ChangeShapes Go.WideShapes Go.ChangeAt Go.RowKit

def thCells (G : List Sc) (vs : List Value) : List Value := (List.zipWith (fun (s : Sc) v => [wv s.w, Value.int .i64 s.par, v]) G vs).flatten

theorem thCells_len (G : List Sc) : ∀ (vs : List Value), vs.length = G.length → (thCells G vs).length = G.length * 3 := by
  induction G with
  | nil => intro vs h; simp [thCells]
  | cons s G ih =>
    intro vs h
    cases vs with
    | nil => simp at h
    | cons v vs =>
      have := ih vs (by simpa using h)
      unfold thCells at *
      simp only [List.zipWith_cons_cons, List.flatten_cons, List.length_append, List.length_cons, List.length_nil, this]
      omega

theorem thCells_at (G : List Sc) : ∀ (vs : List Value) (i : Nat) (s : Sc) (v : Value), G[i]? = some s → vs[i]? = some v →
    (thCells G vs)[i * 3]? = some (wv s.w) ∧ (thCells G vs)[i * 3 + 1]? = some (.int .i64 s.par) ∧ (thCells G vs)[i * 3 + 2]? = some v := by
  induction G with
  | nil => intro vs i s v h; simp at h
  | cons t G ih =>
    intro vs i s v h1 h2
    cases vs with
    | nil => simp at h2
    | cons u vs =>
      have e : thCells (t :: G) (u :: vs) = [wv t.w, Value.int .i64 t.par, u] ++ thCells G vs := rfl
      rw [e]
      cases i with
      | zero => cases h1; cases h2; exact ⟨rfl, rfl, rfl⟩
      | succ i =>
        obtain ⟨a, b, c⟩ := ih vs i s v (by simpa using h1) (by simpa using h2)
        refine ⟨?_, ?_, ?_⟩
        · rw [List.getElem?_append_right (by simp; omega), ← a]; congr 1; simp; omega
        · rw [List.getElem?_append_right (by simp; omega), ← b]; congr 1; simp; omega
        · rw [List.getElem?_append_right (by simp; omega), ← c]; congr 1; simp; omega

theorem thCells_snoc (G : List Sc) (vs : List Value) (h : vs.length = G.length) (s : Sc) (v : Value) : thCells (G ++ [s]) (vs ++ [v]) = thCells G vs ++ [wv s.w, .int .i64 s.par, v] := by
  unfold thCells
  rw [List.zipWith_append (by omega)]
  simp

structure EnvT (T : TypeId) (hb : HB) (lo : Nat) (w : World) (u : Value) (G : List Sc) (vs : List Value) : Prop where
  len : vs.length = G.length
  all : w.ownsRow 0 T 3 u G.length (thCells G vs)
  ah : ∀ k, u.ownBlock = some k → ¬ hb.has k ∧ lo ≤ k
  own : ∀ (i : Nat) (s : Sc) (v : Value), G[i]? = some s → vs[i]? = some v → OwnW w v s.l
  vh : ∀ (i k : Nat) (v : Value), vs[i]? = some v → v.ownBlock = some k → ¬ hb.has k ∧ lo ≤ k ∧ u.ownBlock ≠ some k
  ne : ∀ (i j : Nat) (v v' : Value), i ≠ j → vs[i]? = some v → vs[j]? = some v' → v.ownBlock = none ∨ v.ownBlock ≠ v'.ownBlock

/-- a row whose block lies as it lay -/
theorem thRow_block {w w' : World} {base : Nat} {e : TypeId} {size n : Nat} {v : Value} {xs : List Value} (h : w.ownsRow base e size v n xs) (hb : ∀ k, v.ownBlock = some k → w'.heap[k]? = w.heap[k]?) : w'.ownsRow base e size v n xs := by
  refine ⟨h.1, ?_⟩
  rcases h.2 with hn | ⟨g, cap, cur, rfl, hb0, hgg, rest⟩
  · exact .inl hn
  · exact .inr ⟨g, cap, cur, rfl, hb0, by rw [hb g rfl]; exact hgg, rest⟩

theorem EnvT.nil (T : TypeId) (hb : HB) (lo : Nat) (w : World) : EnvT T hb lo w (.slice none 0 0) [] [] :=
  ⟨rfl, ⟨by simp [thCells], .inl ⟨rfl, rfl⟩⟩, by intro k h; simp [Value.ownBlock] at h, by intro i s v h; simp at h, by intro i k v h; simp at h, by intro i j v v' _ h; simp at h⟩

theorem EnvT.keep {T : TypeId} {hb : HB} {lo : Nat} {w w' : World} {u : Value} {G : List Sc} {vs : List Value} (h : EnvT T hb lo w u G vs) (hk : ∀ k, k < w.heap.size → ¬ hb.has k → lo ≤ k → w'.heap[k]? = w.heap[k]?) : EnvT T hb lo w' u G vs :=
  ⟨h.len, thRow_block h.all (fun k e => hk k (h.all.lt k e).2 (h.ah k e).1 (h.ah k e).2), h.ah,
    fun i s v h1 h2 => thRow_block (h.own i s v h1 h2) (fun k e => hk k ((h.own i s v h1 h2).lt k e).2 (h.vh i k v h2 e).1 (h.vh i k v h2 e).2.1), h.vh, h.ne⟩

theorem EnvT.moves {T : TypeId} {hb : HB} {lo : Nat} {w w' : World} {u : Value} {G : List Sc} {vs : List Value} (h : EnvT T hb lo w u G vs) (m : Moves hb w w') : EnvT T hb lo w' u G vs := h.keep fun k h1 h2 _ => m.block k h1 h2
theorem EnvT.below {T : TypeId} {hb : HB} {lo : Nat} {w w' : World} {u : Value} {G : List Sc} {vs : List Value} (h : EnvT T hb lo w u G vs) (m : Below w.heap.size w w') : EnvT T hb lo w' u G vs := h.keep fun k h1 _ _ => m.block k h1

theorem EnvT.form {T : TypeId} {hb : HB} {lo : Nat} {w : World} {u : Value} {G : List Sc} {vs : List Value} (h : EnvT T hb lo w u G vs) (hn : 0 < G.length) : ∃ g cap, u = .slice (some ⟨g, 0, none⟩) G.length cap ∧ g < w.heap.size ∧
    ∀ (i : Nat) (s : Sc), G[i]? = some s → ∃ a cp, w.cell? ⟨g, i * 3, none⟩ = some (.int .u64 (s.w : Nat)) ∧ w.cell? ⟨g, i * 3 + 1, none⟩ = some (.int .i64 s.par) ∧ w.cell? ⟨g, i * 3 + 2, none⟩ = some (.slice a s.l.length cp) ∧ vs[i]? = some (.slice a s.l.length cp) := by
  obtain ⟨g, cap, rfl, _, hg⟩ := World.ownsRow.form h.all hn
  refine ⟨g, cap, rfl, hg, fun i s hs => ?_⟩
  have hi : i < G.length := (List.getElem?_eq_some_iff.1 hs).1
  obtain ⟨v, hv⟩ : ∃ v, vs[i]? = some v := ⟨_, List.getElem?_eq_getElem (by rw [h.len]; exact hi)⟩
  obtain ⟨a, b, c⟩ := thCells_at G vs i s v hs hv
  obtain ⟨va, vc, rfl⟩ := OwnW.slice' (h.own i s v hs hv)
  have hc := h.all.cells (g := g) rfl
  refine ⟨va, vc, ?_, ?_, ?_, hv⟩
  · have := hc _ _ a; rw [Addr.add_mid, Nat.zero_add] at this; exact this
  · have := hc _ _ b; rw [Addr.add_mid, Nat.zero_add] at this; exact this
  · have := hc _ _ c; rw [Addr.add_mid, Nat.zero_add] at this; exact this

theorem EnvT.slice {T : TypeId} {hb : HB} {lo : Nat} {w : World} {u : Value} {G : List Sc} {vs : List Value} (h : EnvT T hb lo w u G vs) : ∃ a cap, u = .slice a G.length cap := by
  rcases h.all.2 with ⟨rfl, h0⟩ | ⟨g, cap, cur, rfl, _⟩
  · rw [h0]; exact ⟨none, 0, rfl⟩
  · exact ⟨_, cap, rfl⟩

/-- one more, behind an append -/
theorem EnvT.snoc {T : TypeId} {hb : HB} {lo : Nat} {w w' : World} {u u' : Value} {G : List Sc} {vs : List Value} (h : EnvT T hb lo w u G vs) (s : Sc) (v : Value) (hv : OwnW w v s.l)
    (hvb : ∀ k, v.ownBlock = some k → ¬ hb.has k ∧ lo ≤ k ∧ u.ownBlock ≠ some k ∧ ∀ (i : Nat) (v' : Value), vs[i]? = some v' → v'.ownBlock ≠ some k)
    (hown : w'.ownsRow 0 T 3 u' (G.length + 1) (thCells G vs ++ [wv s.w, .int .i64 s.par, v])) (hg : w.grownBy w' u.ownBlock)
    (hat : u'.ownBlock = u.ownBlock ∨ u'.ownBlock = some w.heap.size) (hlo : lo ≤ w.heap.size) (hhb : ∀ k, hb.has k → k < w.heap.size) : EnvT T hb lo w' u' (G ++ [s]) (vs ++ [v]) := by
  have hget : ∀ (i : Nat) (x : Value), (vs ++ [v])[i]? = some x → vs[i]? = some x ∨ (i = G.length ∧ x = v) := by
    intro i x hx
    rcases Nat.lt_or_ge i vs.length with hj | hj
    · rw [List.getElem?_append_left hj] at hx; exact .inl hx
    · rw [List.getElem?_append_right hj] at hx
      rcases Nat.eq_zero_or_pos (i - vs.length) with e | e
      · rw [e] at hx; cases hx; exact .inr ⟨by rw [← h.len]; omega, rfl⟩
      · rw [List.getElem?_eq_none (by simp; omega)] at hx; cases hx
  have hlt : ∀ (i k : Nat) (x : Value), vs[i]? = some x → x.ownBlock = some k → k < w.heap.size := by
    intro i k x hx hk
    obtain ⟨t, ht⟩ : ∃ t, G[i]? = some t := ⟨_, List.getElem?_eq_getElem (by rw [← h.len]; exact (List.getElem?_eq_some_iff.1 hx).1)⟩
    exact ((h.own i t x ht hx).lt k hk).2
  have hb1 : ∀ (i k : Nat) (x : Value), vs[i]? = some x → x.ownBlock = some k → u'.ownBlock ≠ some k := by
    intro i k x hx hk
    rcases hat with e | e
    · rw [e]; exact (h.vh i k x hx hk).2.2
    · rw [e]; intro e2; cases e2; exact Nat.lt_irrefl _ (hlt i _ x hx hk)
  refine ⟨by simp [h.len], ?_, ?_, ?_, ?_, ?_⟩
  · rw [thCells_snoc G vs h.len, List.length_append]; exact hown
  · intro k hk
    rcases hat with e | e
    · rw [e] at hk; exact h.ah k hk
    · rw [e] at hk; cases hk; exact ⟨fun hc => Nat.lt_irrefl _ (hhb _ hc), hlo⟩
  · intro i t x ht hx
    rcases hget i x hx with h1 | ⟨rfl, rfl⟩
    · have hi : i < G.length := by rw [← h.len]; exact (List.getElem?_eq_some_iff.1 h1).1
      rw [List.getElem?_append_left hi] at ht
      refine thRow_block (h.own i t x ht h1) fun k hk => hg.block k (hlt i k x h1 hk) fun e => (h.vh i k x h1 hk).2.2 e.symm
    · rw [List.getElem?_append_right (Nat.le_refl _), Nat.sub_self] at ht
      cases ht
      exact thRow_block hv fun k hk => hg.block k (hv.lt k hk).2 fun e => (hvb k hk).2.2.1 e.symm
  · intro i k x hx hk
    rcases hget i x hx with h1 | ⟨rfl, rfl⟩
    · exact ⟨(h.vh i k x h1 hk).1, (h.vh i k x h1 hk).2.1, hb1 i k x h1 hk⟩
    · refine ⟨(hvb k hk).1, (hvb k hk).2.1, ?_⟩
      rcases hat with e | e
      · rw [e]; exact (hvb k hk).2.2.1
      · rw [e]; intro e2; cases e2; exact Nat.lt_irrefl _ (hv.lt _ hk).2
  · intro i j x y hij hx hy
    rcases hget i x hx with h1 | ⟨rfl, rfl⟩
    · rcases hget j y hy with h2 | ⟨rfl, rfl⟩
      · exact h.ne i j x y hij h1 h2
      · cases hk : x.ownBlock with
        | none => exact .inl rfl
        | some k =>
          right
          intro e
          exact (hvb k e.symm).2.2.2 i x h1 hk
    · rcases hget j y hy with h2 | ⟨rfl, rfl⟩
      · cases hk : x.ownBlock with
        | none => exact .inl rfl
        | some k => right; intro e; exact (hvb k hk).2.2.2 j y h2 e.symm
      · exact absurd rfl hij

theorem th_set (l : List Nat) (I v : Nat) : (l.map wv).set I (wv v) = (l.set I v).map wv := by rw [List.map_set]

/-- a value put -/
theorem EnvT.put {T : TypeId} {hb : HB} {lo : Nat} {w : World} {u : Value} {G : List Sc} {vs : List Value} (h : EnvT T hb lo w u G vs) (k I v : Nat) (t : Sc) (a : Option Addr) (cp : Nat) (ht : G[k]? = some t) (hv : vs[k]? = some (.slice a t.l.length cp)) (hI : I < t.l.length) :
    ∃ g, a = some ⟨g, 0, none⟩ ∧ g < w.heap.size ∧ ¬ hb.has g ∧ lo ≤ g ∧ (∃ x, w.cell? ⟨g, I, none⟩ = some (.int .u64 x)) ∧ w.frozen? ⟨g, I, none⟩ = false ∧
      EnvT T hb lo (w.setCell ⟨g, I, none⟩ (.int .u64 v)) u (Scs.setL G k I v) vs := by
  have ho := h.own k t _ ht hv
  obtain ⟨g, cap, e, _, hg⟩ := World.ownsRow.form ho (by omega)
  obtain ⟨rfl, -, rfl⟩ := (by simpa using e : a = some ⟨g, 0, none⟩ ∧ True ∧ cp = cap)
  have hgb : (Value.slice (some ⟨g, 0, none⟩) t.l.length cp).ownBlock = some g := rfl
  obtain ⟨v1, v2, v3⟩ := h.vh k g _ hv hgb
  have hblk : ∀ q, q ≠ g → (w.setCell ⟨g, I, none⟩ (.int .u64 v)).heap[q]? = w.heap[q]? := fun q hq => Below.heap_setCell _ _ _ _ hq
  refine ⟨g, rfl, hg, v1, v2, ?_, World.ownsRow.frozenAt ho I, ?_⟩
  · refine ⟨(t.l[I] : Nat), ?_⟩
    have := ho.cells (g := g) rfl I (wv t.l[I]) (by rw [List.getElem?_map, List.getElem?_eq_getElem hI]; rfl)
    rw [Addr.add_mid, Nat.zero_add] at this
    exact this
  · have hG : (Scs.setL G k I v).length = G.length := by unfold Scs.setL; simp
    have hcells : thCells (Scs.setL G k I v) vs = thCells G vs := by
      unfold thCells
      congr 1
      apply List.ext_getElem?
      intro i
      rw [List.getElem?_zipWith, List.getElem?_zipWith, setL_get]
      cases G[i]? with
      | none => rfl
      | some s => simp only [Option.map_some]; cases vs[i]? with
        | none => rfl
        | some x => simp only; split <;> rfl
    refine ⟨by rw [hG]; exact h.len, ?_, h.ah, ?_, h.vh, h.ne⟩
    · rw [hG, hcells]
      exact thRow_block h.all fun q hq => hblk q (fun e => v3 (e ▸ hq))
    · intro i s x hs hx
      rw [setL_get] at hs
      cases hi : G[i]? with
      | none => rw [hi] at hs; cases hs
      | some s0 =>
        rw [hi] at hs
        simp only [Option.map_some, Option.some.injEq] at hs
        subst hs
        by_cases e2 : i = k
        · subst e2
          rw [ht] at hi; cases hi
          rw [hv] at hx; cases hx
          rw [if_pos rfl]
          have hst := World.ownsRow.stored ho I (wv v)
          unfold OwnW
          simp only [List.length_set]
          rw [← th_set]
          exact hst.1
        · rw [if_neg e2]
          refine thRow_block (h.own i s0 x hi hx) fun q hq => hblk q ?_
          intro e3
          rcases h.ne i k x _ e2 hx hv with e4 | e4
          · rw [e4] at hq; cases hq
          · exact e4 (by rw [hq, hgb, e3])

theorem th_grown {lo : Nat} {W w w' : World} {row : Option Nat} (h : Below lo W w) (hW : lo ≤ w.heap.size) (hg : w.grownBy w' row) (hr : ∀ k, row = some k → lo ≤ k) : Below lo W w' :=
  ⟨hg.os.trans h.os, hg.tape.trans h.tape, hg.output.trans h.output, Nat.le_trans h.size hg.size, fun q hq => (hg.block q (by omega) (fun e => by have := hr q e.symm; omega)).trans (h.block q hq)⟩

/-- an environment is made: its values copied to a row of their own, its record laid -/
theorem th_tail {T : TypeId} {hb : HB} {lo B n : Nat} {W wx wr w8 w10 : World} {u v x0 : Value} {G : List Sc} {vs ws cs0 : List Value} {M : Hp} {cs : Array Value} {e1 e2 e3 : TypeId}
    (EX : EnvT T hb lo wx u G vs) (hBx : wx.heap.size ≤ B) (hbB : ∀ k, hb.has k → k < wx.heap.size) (BL : Below B wx wr) (hsl : B < wr.heap.size) (m8 : Moves hb wr w8) (r8 : Rep hb M w8) (h8 : Below lo W w8) (hlo : lo ≤ wx.heap.size)
    (hg : ((w8.setCell ⟨B, 0, none⟩ x0).alloc (.cells cs0.toArray e1)).grownBy w10 (some w8.heap.size)) (hown : w10.ownsRow 0 e2 1 v n ws) (hat : v.ownBlock = some w8.heap.size ∨ v.ownBlock = some (w8.heap.size + 1)) :
    EnvT T hb lo ((w10.setCell ⟨B, 2, none⟩ v).alloc (.cells cs e3)) u G vs ∧ Rep hb M ((w10.setCell ⟨B, 2, none⟩ v).alloc (.cells cs e3)) ∧ ((w10.setCell ⟨B, 2, none⟩ v).alloc (.cells cs e3)).ownsRow 0 e2 1 v n ws ∧
      (∀ k, v.ownBlock = some k → ¬ hb.has k ∧ lo ≤ k ∧ u.ownBlock ≠ some k ∧ ∀ (i : Nat) (v' : Value), vs[i]? = some v' → v'.ownBlock ≠ some k) ∧ Below lo W ((w10.setCell ⟨B, 2, none⟩ v).alloc (.cells cs e3)) ∧ lo ≤ ((w10.setCell ⟨B, 2, none⟩ v).alloc (.cells cs e3)).heap.size := by
  have hs8 : B < w8.heap.size := Nat.lt_of_lt_of_le hsl m8.size
  have hz9 : (w8.setCell ⟨B, 0, none⟩ x0).heap.size = w8.heap.size := by simp [World.setCell]
  have hza : ((w8.setCell ⟨B, 0, none⟩ x0).alloc (.cells cs0.toArray e1)).heap.size = w8.heap.size + 1 := by simp [hz9]
  have hz10 := hg.size
  rw [hza] at hz10
  have hz11 : (w10.setCell ⟨B, 2, none⟩ v).heap.size = w10.heap.size := by simp [World.setCell]
  -- blocks below B, the box of the record apart
  have key : ∀ q, q < B → ((w10.setCell ⟨B, 2, none⟩ v).alloc (.cells cs e3)).heap[q]? = w8.heap[q]? := by
    intro q hq
    refine (heap_alloc_old _ _ (by rw [hz11]; omega)).trans ((Below.heap_setCell _ _ _ _ (Nat.ne_of_lt hq)).trans ?_)
    refine (hg.block q (by rw [hza]; omega) (fun e => by cases e; omega)).trans ?_
    exact (heap_alloc_old _ _ (by rw [hz9]; omega)).trans (Below.heap_setCell _ _ _ _ (Nat.ne_of_lt hq))
  have hvk : ∀ k, v.ownBlock = some k → w8.heap.size ≤ k := by
    intro k hk
    rcases hat with h | h
    · rw [h] at hk; cases hk; exact Nat.le_refl _
    · rw [h] at hk; cases hk; omega
  have hE := EX.keep (w' := (w10.setCell ⟨B, 2, none⟩ v).alloc (.cells cs e3)) fun k h1 h2 _ => by
    rw [key k (by omega), m8.block k (by omega) h2, BL.block k (by omega)]
  have ha : Below lo W ((w8.setCell ⟨B, 0, none⟩ x0).alloc (.cells cs0.toArray e1)) := (h8.setCell (p := ⟨B, 0, none⟩) (show lo ≤ B by omega) x0).alloc (by rw [hz9]; omega) _
  refine ⟨hE, r8.of_blocks fun k hk => key k (by have := hbB k hk; omega), ?_, ?_, ?_, ?_⟩
  · refine thRow_block hown fun k hk => ?_
    have h1 := hvk k hk
    have h2 := (hown.lt k hk).2
    exact (heap_alloc_old _ _ (by rw [hz11]; exact h2)).trans (Below.heap_setCell _ _ _ _ (show k ≠ B by omega))
  · intro k hk
    have h1 := hvk k hk
    refine ⟨fun hc => by have := hbB k hc; omega, by omega, fun e => ?_, fun i v' hv' e => ?_⟩
    · have := (EX.all.lt k e).2; omega
    · obtain ⟨s, hs⟩ : ∃ s, G[i]? = some s := ⟨_, List.getElem?_eq_getElem (by rw [← EX.len]; exact (List.getElem?_eq_some_iff.1 hv').1)⟩
      have := ((EX.own i s v' hs hv').lt k e).2
      omega
  · exact ((th_grown ha (by rw [hza]; omega) hg (fun k e => by cases e; omega)).setCell (p := ⟨B, 2, none⟩) (show lo ≤ B by omega) v).alloc (by rw [hz11]; omega) _
  · simp [hz11]; omega

theorem th_end {T : TypeId} {hb : HB} {lo : Nat} {W w12 w13 : World} {u u' v : Value} {G : List Sc} {vs : List Value} {M : Hp} {s : Sc} (hE : EnvT T hb lo w12 u G vs) (hR : Rep hb M w12) (hv : OwnW w12 v s.l)
    (hvb : ∀ k, v.ownBlock = some k → ¬ hb.has k ∧ lo ≤ k ∧ u.ownBlock ≠ some k ∧ ∀ (i : Nat) (v' : Value), vs[i]? = some v' → v'.ownBlock ≠ some k) (hB : Below lo W w12) (hlo : lo ≤ w12.heap.size)
    (hown : w13.ownsRow 0 T 3 u' (G.length + 1) (thCells G vs ++ [wv s.w, .int .i64 s.par, v])) (hg : w12.grownBy w13 u.ownBlock) (hat : u'.ownBlock = u.ownBlock ∨ u'.ownBlock = some w12.heap.size) :
    EnvT T hb lo w13 u' (G ++ [s]) (vs ++ [v]) ∧ Rep hb M w13 ∧ Below lo W w13 :=
  ⟨hE.snoc s v hv hvb hown hg hat hlo (fun k hk => hR.lt k hk), hR.grown hg (fun k e => (hE.ah k e).1), th_grown hB hlo hg (fun k e => (hE.ah k e).2)⟩
theorem th_slice {w : World} {e : TypeId} {size n : Nat} {v : Value} {xs : List Value} (h : w.ownsRow 0 e size v n xs) : ∃ a c, v = .slice a n c := by
  rcases h.2 with ⟨rfl, rfl⟩ | ⟨g, cap, cur, rfl, _⟩
  · exact ⟨none, 0, rfl⟩
  · exact ⟨_, cap, rfl⟩

/-- the record's cells behind an append elsewhere, and behind the store of the row into it -/
theorem th_cells {w9 w10 : World} {B r : Nat} {x0 x1 x2 : Value} {t : TypeId} (hb : w9.heap[B]? = some (.cells #[x0, x1, x2] t (0, 0))) (hg : w9.grownBy w10 (some r)) (hr : B ≠ r) :
    w10.cell? ⟨B, 2, none⟩ = some x2 ∧ w10.frozen? ⟨B, 2, none⟩ = false ∧ ∀ v, (w10.setCell ⟨B, 2, none⟩ v).cell? ⟨B, 0, none⟩ = some x0 ∧ (w10.setCell ⟨B, 2, none⟩ v).cell? ⟨B, 1, none⟩ = some x1 ∧ (w10.setCell ⟨B, 2, none⟩ v).cell? ⟨B, 2, none⟩ = some v := by
  have h10 : w10.heap[B]? = some (.cells #[x0, x1, x2] t (0, 0)) := (hg.block B (Array.getElem?_eq_some_iff.1 hb).1 (fun e => hr (by cases e; rfl))).trans hb
  refine ⟨by simp [World.cell?, h10], by simp [World.frozen?, h10], fun v => ?_⟩
  have h11 : (w10.setCell ⟨B, 2, none⟩ v).heap[B]? = some (.cells #[x0, x1, v] t (0, 0)) := by simp only [World.setCell, Array.getElem?_modify, h10]; simp
  exact ⟨by simp [World.cell?, h11], by simp [World.cell?, h11], by simp [World.cell?, h11]⟩
theorem th_row (w : World) (l : List Value) (e : TypeId) (H : Nat) (hH : w.heap.size = H) : SlCells (w.alloc (.cells l.toArray e)) (.slice (some ⟨H, 0, none⟩) 1 1) 1 l :=
  .inr ⟨H, 0, 1, rfl, by simp; omega, fun i y hy => by
    subst hH
    rw [Nat.zero_add]
    exact (World.cell?_alloc_new _ _ _ i).trans (by simpa using hy)⟩
end Go.Proofs.Ytecemlamoiepdaa
