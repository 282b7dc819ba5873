/- Slices of integers that came in: what is known of them; and what stays known while a heap of the call's own turns. No program in sight. -/
import Derived.Test.YtecemlamoiepdaaHas
import Derived.Carry
import Derived.ProofKit
import Derived.WalkKit
namespace Go.Proofs.Ytecemlamoiepdaa
open Go.ChangeShapes Go.WideShapes Go.ChangeAt Go.RowKit

/-- a slice of integers: nil, or numbers that lie somewhere -/
def IntsAt (k : IntKind) (w : World) (v : Value) (zs : List Int) : Prop :=
  (v = .slice none 0 0 ∧ zs = []) ∨ ∃ (ad : Addr) (cap : Nat), v = .slice (some ad) zs.length cap ∧ zs.length ≤ maxLen ∧ ∀ (i : Nat) (x : Int), zs[i]? = some x → w.cell? (ad.add i) = some (.int k x)

theorem cell_lt {w : World} {a : Addr} {v : Value} (h : w.cell? a = some v) : a.block < w.heap.size := by
  rcases Nat.lt_or_ge a.block w.heap.size with h1 | h1
  · exact h1
  · exfalso
    unfold World.cell? at h
    rw [Array.getElem?_eq_none h1] at h
    split at h <;> simp_all

theorem IntsAt.len {k : IntKind} {w : World} {v : Value} {zs : List Int} (h : IntsAt k w v zs) : zs.length ≤ maxLen ∧ ∃ a cap, v = .slice a zs.length cap := by
  rcases h with ⟨rfl, rfl⟩ | ⟨ad, cap, rfl, hm, _⟩
  · exact ⟨Nat.zero_le _, none, 0, rfl⟩
  · exact ⟨hm, _, cap, rfl⟩

theorem IntsAt.form {k : IntKind} {w : World} {v : Value} {zs : List Int} (h : IntsAt k w v zs) (hn : 0 < zs.length) :
    ∃ b o cap, v = .slice (some ⟨b, o, none⟩) zs.length cap ∧ b < w.heap.size ∧ ∀ (i : Nat) (x : Int), zs[i]? = some x → w.cell? ⟨b, o + i, none⟩ = some (.int k x) := by
  rcases h with ⟨rfl, rfl⟩ | ⟨⟨b, o, sp⟩, cap, rfl, hm, hc⟩
  · simp at hn
  · obtain ⟨x, hx⟩ : ∃ x, zs[0]? = some x := ⟨_, List.getElem?_eq_getElem hn⟩
    have h0 := hc 0 x hx
    have hs : sp = none := by simpa [Addr.add] using World.cell?_spot h0
    subst hs
    exact ⟨b, o, cap, rfl, by simpa [Addr.add] using cell_lt h0, fun i x hx => by have := hc i x hx; rw [Addr.add_mid] at this; exact this⟩

/-- blocks that stay -/
theorem IntsAt.stay {k : IntKind} {w w' : World} {v : Value} {zs : List Int} (h : IntsAt k w v zs) (hb : ∀ (b : Nat), b < w.heap.size → w'.heap[b]? = w.heap[b]?) : IntsAt k w' v zs := by
  rcases h with h | ⟨ad, cap, rfl, hm, hc⟩
  · exact .inl h
  · refine .inr ⟨ad, cap, rfl, hm, fun i x hx => ?_⟩
    have h1 := hc i x hx
    rw [World.cell?_of_block (w := w) (hb _ (cell_lt h1))]
    exact h1

theorem IntsAt.below {k : IntKind} {w w' : World} {v : Value} {zs : List Int} (h : IntsAt k w v zs) (hb : Below w.heap.size w w') : IntsAt k w' v zs :=
  h.stay fun b hlt => hb.block b hlt

/-- what stays known while a heap's own blocks turn -/
def Stays (hb : HB) (w : World) (P : World → Prop) : Prop := ∀ w', Moves hb w w' → P w'
theorem Stays.now {hb : HB} {w : World} {P : World → Prop} (h : Stays hb w P) : P w := h w (.refl _ _)
theorem Stays.next {hb : HB} {w w' : World} {P : World → Prop} (h : Stays hb w P) (m : Moves hb w w') : Stays hb w' P := fun w2 m2 => h w2 (m.trans m2)

/-- the heap's blocks are the call's own: what lay ahead of them stays -/
theorem Moves.below_of {hb : HB} {W w w' : World} (h0 : Below W.heap.size W w) (hh : ∀ k, hb.has k → W.heap.size ≤ k) (h : Moves hb w w') : Below W.heap.size W w' :=
  h0.trans (h.to_below h0.size (hh _ (.inl rfl)) (hh _ (.inr (.inl rfl))) (hh _ (.inr (.inr (.inl rfl)))) (hh _ (.inr (.inr (.inr (.inl rfl))))) (hh _ (.inr (.inr (.inr (.inr rfl))))))

theorem IntsAt.stays {k : IntKind} {hb : HB} {W w : World} {v : Value} {zs : List Int} (h : IntsAt k W v zs) (h0 : Below W.heap.size W w) (hh : ∀ k, hb.has k → W.heap.size ≤ k) : Stays hb w (fun w' => IntsAt k w' v zs) :=
  fun _ m => h.below (m.below_of h0 hh)

/-- an argument's reading, opened -/
theorem open_at {H : Type} {enc : TypeId × Value → H} {P : Program} {w : World} {base : Nat} {spare : Nat → Bool} {held : Bool} {t e : TypeId} {k : IntKind} {fuel : Nat} {v : Value} {x : DataW H × List MemPlace}
    (ht : P.underlying t = some (.slice e)) (he : P.underlying e = some (.int k)) (hc : P.cellsOf e = 1) (h : DataW.trod enc P w base spare held fuel t v.cells.toList = some x) (a0 : Option Addr) (l c : Nat) (hv : v = .slice a0 l c) :
    ∃ zs : List Int, IntsAt k w v zs ∧ ∀ n ∈ zs, (Lit.int k n).wf = true := by
  subst hv
  rcases open_ints ht he hc h with ⟨hcs, hx⟩ | ⟨a, len, cap, zs, hcs, _, hl, hm, hz, hx, hcell, hwz⟩
  · refine ⟨[], .inl ⟨by simpa [Value.cells] using hcs, rfl⟩, by simp⟩
  · simp [Value.cells] at hcs
    obtain ⟨rfl, rfl, rfl⟩ := hcs
    have hlz : l ≤ zs.length := by rw [hz]; split <;> omega
    refine ⟨zs.take l, .inr ⟨a, c, ?_, ?_, ?_⟩, ?_⟩
    · rw [List.length_take, Nat.min_eq_left hlz]
    · rw [List.length_take]; omega
    · intro i y hy
      have hi : i < (zs.take l).length := (List.getElem?_eq_some_iff.1 hy).1
      rw [List.length_take] at hi
      rw [hcell i (by omega)]
      rw [List.getElem?_take_of_lt (by omega)] at hy
      rw [List.getD_eq_getElem?_getD, hy]; rfl
    · intro n hn; exact hwz n (List.mem_of_mem_take hn)

/-! ### append of a slice that came in, onto one of the call's own -/
theorem run_at {P : Program} (w : World) {t e : TypeId} {size bytes : Nat} (E : Elem P t e size bytes) (ty : TypeId) (v : Value) (n : Nat) (xs : List Value) (hown : w.ownsRow 0 e size v n xs)
    (k : IntKind) (xv : Value) (zs : List Int) (hx : IntsAt k w xv zs) (hs : size = 1) (h63 : n + zs.length ≤ maxLen) (hbytes : (n + zs.length) * bytes ≤ 140737488355328) :
    ∃ v' w', (Builtin.append_ #[t, t] ty #[v, xv]).run P w = .ok v' w' ∧ w'.ownsRow 0 e size v' (n + zs.length) (xs ++ zs.map (.int k)) ∧ w.grownBy w' v.ownBlock ∧ (v'.ownBlock = v.ownBlock ∨ v'.ownBlock = some w.heap.size) := by
  obtain ⟨i, z, e1, e2, e3, e4, e5⟩ := E.ex
  subst hs
  rcases hx with ⟨rfl, rfl⟩ | ⟨ad, cap, rfl, hm, hc⟩
  · exact ⟨v, w, run_append_owned_none (P := P) (w := w) 0 t ty e i 1 E.ht e1 v n xs hown, by simpa using hown, ⟨rfl, rfl, rfl, Nat.le_refl _, fun _ _ _ => rfl⟩, .inl rfl⟩
  · obtain ⟨v', w', a1, a2, a3, _, a5⟩ := run_append_own_at (P := P) w 0 t ty e i z 1 bytes E.ht e1 e2 e3 e4 e5 E.pos v n xs hown ad zs.length cap (zs.map (.int k)) (by simp) (by
      intro j u hu
      rw [List.getElem?_map] at hu
      cases hz : zs[j]? with
      | none => rw [hz] at hu; cases hu
      | some y => rw [hz] at hu; cases hu; exact hc j y hz) (by intro u hu; obtain ⟨y, _, rfl⟩ := List.mem_map.1 hu; simp [Value.oneCell']) h63 hbytes (Nat.zero_le _)
    exact ⟨v', w', a1, a2, a3, a5⟩

theorem wpList_at {P : Program} {w : World} {ops : Array Oper} {rest : List Oper} {o : Oper} {a : Act} {Q : Exit → Act → World → Prop} {t e : TypeId} {bytes : Nat} (E : Elem P t e 1 bytes)
    (hgd : o.guard = none) (s x : Operand) (ho : o.op = .call { callee := .builtin .append, args := #[s, x], argTypes := #[t, t] })
    (v : Value) (n : Nat) (xs : List Value) (hs : a.eval s = v) (hown : w.ownsRow 0 e 1 v n xs) (k : IntKind) (xv : Value) (zs : List Int) (hxv : a.eval x = xv) (hx : IntsAt k w xv zs)
    (h63 : n + zs.length ≤ maxLen) (hbytes : (n + zs.length) * bytes ≤ 140737488355328)
    (h : ∀ v' w', w'.ownsRow 0 e 1 v' (n + zs.length) (xs ++ zs.map (.int k)) → w.grownBy w' v.ownBlock → (v'.ownBlock = v.ownBlock ∨ v'.ownBlock = some w.heap.size) → wpList P ops Q rest (a.put o.dst v') w') : wpList P ops Q (o :: rest) a w := by
  refine wpList_plain hgd fun K hK => ?_
  obtain ⟨v', w', hr, h2, h3, h5⟩ := run_at (P := P) w E o.type v n xs hown k xv zs hx rfl h63 hbytes
  unfold Oper.wp execOp
  simp only [ho, resolve, invoke, builtin, Sem.run_bind, Sem.run_pure, Result.andThen_ok, List.map_toArray, List.map_cons, List.map_nil, hs, hxv, hr]
  exact hK _ _ (h v' w' h2 h3 h5)

theorem own_ints {k : IntKind} {w : World} {e : TypeId} {v : Value} {n : Nat} {zs : List Int} (h : w.ownsRow 0 e 1 v n (zs.map (.int k))) (hn : n = zs.length) (hm : zs.length ≤ maxLen) : IntsAt k w v zs := by
  subst hn
  rcases Nat.eq_zero_or_pos zs.length with h0 | h0
  · rcases h.2 with ⟨rfl, _⟩ | ⟨g, cap, cur, rfl, _, hg, _⟩
    · exact .inl ⟨rfl, List.eq_nil_of_length_eq_zero h0⟩
    · exact .inr ⟨_, cap, rfl, hm, fun i x hx => by rw [List.eq_nil_of_length_eq_zero h0] at hx; cases hx⟩
  · obtain ⟨g, cap, rfl, _, hg⟩ := World.ownsRow.form h h0
    refine .inr ⟨_, cap, rfl, hm, fun i x hx => ?_⟩
    have := h.cells (g := g) rfl i (.int k x) (by rw [List.getElem?_map, hx]; rfl)
    exact this

theorem grown_below {W w w' : World} {row : Option Nat} (h : Below W.heap.size W w) (hg : w.grownBy w' row) (hr : ∀ k, row = some k → W.heap.size ≤ k) : Below W.heap.size W w' := Below.grownW h hg hr
end Go.Proofs.Ytecemlamoiepdaa
