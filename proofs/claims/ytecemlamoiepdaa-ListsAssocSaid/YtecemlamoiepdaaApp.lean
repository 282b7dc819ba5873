/- append onto a slice of the call's own, whatever is appended (nil and empty slices too): where the new slice lies. No program in sight. -/
import Derived.Test.YtecemlamoiepdaaPut
import Derived.Deep.AppendLies
import Derived.Laws.AppendOwnNone
namespace Go.Proofs.Ytecemlamoiepdaa
open Go.RowKit

/-- a slice's type: its elements, how many cells and bytes they take -/
structure Elem (P : Program) (t e : TypeId) (size bytes : Nat) : Prop where
  ht : P.underlying t = some (.slice e)
  pos : 0 < size
  ex : ∃ (i : TypeInfo) (z : Value), P.info? e = some i ∧ i.zero = some z ∧ i.size = size ∧ i.bytes = bytes ∧ z.cells.size = size

theorem Elem.of {P : Program} {t e : TypeId} {z : Value} {size bytes : Nat} (ht : P.underlying t = some (.slice e)) (h : (P.info? e).map (fun i => (i.zero, i.size, i.bytes)) = some (some z, size, bytes)) (hz : z.cells.size = size) (hp : 0 < size) : Elem P t e size bytes := by
  obtain ⟨i, h1, h2, h3, h4⟩ := info_parts h
  exact ⟨ht, hp, i, z, h1, h2, h3, h4, hz⟩

/-- a slice whose elements' cells are known: nil, or cells that lie in a block -/
def SlCells (w : World) (v : Value) (m : Nat) (cells : List Value) : Prop :=
  (v = .slice none 0 0 ∧ m = 0 ∧ cells = []) ∨ ∃ b o cap, v = .slice (some ⟨b, o, none⟩) m cap ∧ b < w.heap.size ∧ ∀ (j : Nat) (u : Value), cells[j]? = some u → w.cell? ⟨b, o + j, none⟩ = some u

theorem run_app {P : Program} (w : World) {t e : TypeId} {size bytes : Nat} (E : Elem P t e size bytes) (ty : TypeId) (v : Value) (n : Nat) (xs : List Value) (hown : w.ownsRow 0 e size v n xs)
    (xv : Value) (m : Nat) (news : List Value) (hx : SlCells w xv m news) (hl : news.length = m * size) (h1 : ∀ u ∈ news, u.oneCell' = true) (h63 : n + m ≤ maxLen) (hbytes : (n + m) * bytes ≤ 140737488355328) :
    ∃ v' w', (Builtin.append_ #[t, t] ty #[v, xv]).run P w = .ok v' w' ∧ w'.ownsRow 0 e size v' (n + m) (xs ++ news) ∧ w.grownBy w' v.ownBlock ∧ (v'.ownBlock = v.ownBlock ∨ v'.ownBlock = some w.heap.size) := by
  obtain ⟨i, z, e1, e2, e3, e4, e5⟩ := E.ex
  rcases hx with ⟨rfl, rfl, rfl⟩ | ⟨b, o, cap, rfl, hb, hc⟩
  · have hn : n + 0 = n := rfl
    refine ⟨v, w, run_append_owned_none (P := P) (w := w) 0 t ty e i size E.ht e1 v n xs hown, by simpa using hown, ⟨rfl, rfl, rfl, Nat.le_refl _, fun _ _ _ => rfl⟩, .inl rfl⟩
  · obtain ⟨v', w', a1, a2, a3, _, a5⟩ := run_append_own_at (P := P) w 0 t ty e i z size bytes E.ht e1 e2 e3 e4 e5 E.pos v n xs hown ⟨b, o, none⟩ m cap news hl (fun j u hu => by rw [Addr.add_mid]; exact hc j u hu) h1 h63 hbytes (Nat.zero_le _)
    exact ⟨v', w', a1, a2, a3, a5⟩

theorem wpList_app {P : Program} {w : World} {ops : Array Oper} {rest : List Oper} {o : Oper} {a : Act} {Q : Exit → Act → World → Prop} {t e : TypeId} {size bytes : Nat} (E : Elem P t e size bytes)
    (hgd : o.guard = none) (s x : Operand) (ho : o.op = .call { callee := .builtin .append, args := #[s, x], argTypes := #[t, t] })
    (v : Value) (n : Nat) (xs : List Value) (hs : a.eval s = v) (hown : w.ownsRow 0 e size v n xs) (xv : Value) (m : Nat) (news : List Value) (hxv : a.eval x = xv) (hx : SlCells w xv m news)
    (hl : news.length = m * size) (h1 : ∀ u ∈ news, u.oneCell' = true) (h63 : n + m ≤ maxLen) (hbytes : (n + m) * bytes ≤ 140737488355328)
    (h : ∀ v' w', w'.ownsRow 0 e size v' (n + m) (xs ++ news) → w.grownBy w' v.ownBlock → (v'.ownBlock = v.ownBlock ∨ v'.ownBlock = some w.heap.size) → wpList P ops Q rest (a.put o.dst v') w') : wpList P ops Q (o :: rest) a w := by
  refine wpList_plain hgd fun K hK => ?_
  obtain ⟨v', w', hr, h2, h3, h5⟩ := run_app (P := P) w E o.type v n xs hown xv m news hx hl h1 h63 hbytes
  unfold Oper.wp execOp
  simp only [ho, resolve, invoke, builtin, Sem.run_bind, Sem.run_pure, Result.andThen_ok, List.map_toArray, List.map_cons, List.map_nil, hs, hxv, hr]
  exact hK _ _ (h v' w' h2 h3 h5)

/-! ### words -/
def wv (x : Nat) : Value := .int .u64 (x : Nat)
def OwnW (w : World) (v : Value) (ws : List Nat) : Prop := w.ownsRow 0 29 1 v ws.length (ws.map wv)

theorem E_word : Elem Try.prog 39 29 1 8 := Elem.of (z := .int .u64 0) Try.underlying39 (by kernel_rfl) rfl (by decide)

theorem SlWords.cells {w : World} {v : Value} {ws : List Nat} (h : SlWords w v ws) : SlCells w v ws.length (ws.map wv) := by
  rcases h with ⟨rfl, rfl⟩ | ⟨b, o, cap, rfl, hb, hw⟩
  · exact .inl ⟨rfl, rfl, rfl⟩
  · refine .inr ⟨b, o, cap, rfl, hb, fun j u hu => ?_⟩
    rw [List.getElem?_map] at hu
    cases hx : ws[j]? with
    | none => rw [hx] at hu; cases hu
    | some x => rw [hx] at hu; cases hu; exact hw j x hx

theorem OwnW.form {w : World} {v : Value} {ws : List Nat} (h : OwnW w v ws) (hn : 0 < ws.length) : ∃ g cap, v = .slice (some ⟨g, 0, none⟩) ws.length cap ∧ v.ownBlock = some g ∧ g < w.heap.size ∧ WordsAt w g 0 ws := by
  obtain ⟨g, cap, rfl, _, hg⟩ := World.ownsRow.form h hn
  refine ⟨g, cap, rfl, rfl, hg, fun i x hx => ?_⟩
  have := h.cells (g := g) rfl i (wv x) (by rw [List.getElem?_map, hx]; rfl)
  rw [Addr.add_mid] at this
  exact this

theorem OwnW.sl {w : World} {v : Value} {ws : List Nat} (h : OwnW w v ws) : SlWords w v ws := by
  rcases Nat.eq_zero_or_pos ws.length with h0 | h0
  · rcases h.2 with ⟨rfl, _⟩ | ⟨g, cap, cur, rfl, _, hg, _⟩
    · exact .inl ⟨rfl, List.eq_nil_of_length_eq_zero h0⟩
    · refine .inr ⟨g, 0, cap, rfl, lt_of_block hg, fun i x hx => ?_⟩
      rw [List.eq_nil_of_length_eq_zero h0] at hx; cases hx
  · obtain ⟨g, cap, rfl, _, hg, hw⟩ := h.form h0
    exact .inr ⟨g, 0, cap, rfl, hg, hw⟩

theorem OwnW.one (w : World) (x : Nat) : OwnW (w.alloc (.cells #[wv x] 29)) (.slice (some ⟨w.heap.size, 0, none⟩) 1 1) [x] :=
  ⟨rfl, .inr ⟨w.heap.size, 1, #[wv x], rfl, Nat.zero_le _, heap_alloc_new w _, Nat.le_refl _, by decide, rfl, rfl⟩⟩

theorem Rep.grown {hb : HB} {M : Hp} {w w' : World} {row : Option Nat} (r : Rep hb M w) (hg : w.grownBy w' row) (h : ∀ k, row = some k → ¬ hb.has k) : Rep hb M w' :=
  r.of_blocks fun k hk => hg.block k (r.lt k hk) (fun e => h k e.symm hk)

theorem Moves.grown {hb : HB} {a w w' : World} {row : Option Nat} (h : Moves hb a w) (hg : w.grownBy w' row) (hr : ∀ k, row = some k → a.heap.size ≤ k) : Moves hb a w' :=
  h.trans' ⟨hg.os, hg.tape, hg.output, hg.size⟩ fun k hk _ => hg.block k (by have := h.size; omega) (fun e => by have := hr k e.symm; omega)
end Go.Proofs.Ytecemlamoiepdaa
