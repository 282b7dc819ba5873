/- The contracts of Make, Cons and New over every outcome: what they answer, and what the heap is then. -/
import Derived.Test.YtecemlamoiepdaaField
namespace Go.Proofs.Ytecemlamoiepdaa
open Go.RowKit

/-- Make of a type that is one, and a 'more' that may be: the word, the error, the heap -/
def Hp.mk' (M : Hp) (k m : Nat) (ws : List Nat) : Nat × Nat × Hp :=
  if 62 < ws.length then (0, 6, M) else match M.make k m ws with
    | some (x, M') => (x, 0, M')
    | none => (0, 2, M)

def Hp.two (M : Hp) (kind x y : Nat) : Nat × Nat × Hp :=
  match M.cons kind x y with
  | some (v, M') => (v, 0, M')
  | none => (0, 2, M)

theorem make_any {hb : HB} {M M' : Hp} {w : World} (r : Rep hb M w) (K Mo : Int) (k m : Nat) (hK : K = k) (hMo : Mo = m) (h1 : 1 ≤ k) (h2 : k ≤ 13) (h4 : m < 281474976710656) (v : Value) (ws : List Nat) (hv : SlWords w v ws)
    (hx : ∀ x ∈ ws, x < 18446744073709551616) {x e : Nat} (h : M.mk' k m ws = (x, e, M')) :
    Calls Try.prog 33 #[.pointer (some ⟨hb.h, 0, none⟩), .int .i64 K, .int .u64 Mo, v] w fun en w' =>
      en = .returned (.tuple #[.int .u64 x, .int .i64 e]) ∧ Rep hb M' w' ∧ Moves hb w w' := by
  unfold Hp.mk' at h
  split at h
  · rename_i hl
    cases h
    subst hMo
    rcases hv with ⟨rfl, rfl⟩ | ⟨b, o, cap, rfl, _⟩
    · simp at hl
    · exact (make_big _ K k m hK h1 h2 h4 _ _ _ hl w).mono fun e w' ⟨h1, h2⟩ => ⟨h1, h2 ▸ r, h2 ▸ .refl _ _⟩
  · rename_i hl
    cases hc : M.make k m ws with
    | none =>
      rw [hc] at h; cases h
      exact (make_full r (Nat.ne_of_gt r.ok.pos) K Mo k m hK hMo h1 h2 h4 v ws hv (by omega) hc).mono fun e w' ⟨h1, h2⟩ => ⟨h1, r.below h2, .of_below h2⟩
    | some p =>
      rw [hc] at h; cases h
      exact make_ok r K Mo k m hK hMo h1 h2 h4 v ws hv (by omega) hx hc

theorem cons_any {hb : HB} {M M' : Hp} {w : World} (r : Rep hb M w) (x y : Nat) (hx : x < 18446744073709551616) (hy : y < 18446744073709551616) {v e : Nat} (h : M.two 0 x y = (v, e, M')) :
    Calls Try.prog 30 #[.pointer (some ⟨hb.h, 0, none⟩), .int .u64 x, .int .u64 y] w fun en w' =>
      en = .returned (.tuple #[.int .u64 v, .int .i64 e]) ∧ Rep hb M' w' ∧ Moves hb w w' := by
  unfold Hp.two at h
  cases hc : M.cons 0 x y with
  | none =>
    rw [hc] at h; cases h
    exact (cons_none r (Nat.ne_of_gt r.ok.pos) x y hc).mono fun e w' ⟨h1, h2⟩ => ⟨h1, r.below h2, .of_below h2⟩
  | some p =>
    rw [hc] at h; cases h
    exact cons_ok r x y hx hy hc

/-- New: a heap in blocks of its own -/
theorem new_ok (L : Int) (l : Nat) (hL : L = l) (h1 : 8 ≤ l) (h2 : l ≤ 1024) (w : World) :
    Calls Try.prog 14 #[.int .i64 L] w fun e w' => ∃ hb : HB, e = .returned (.tuple #[.pointer (some ⟨hb.h, 0, none⟩), .int .i64 0]) ∧ Rep hb (Hp.empty l) w' ∧ Below w.heap.size w w' ∧ (∀ k, hb.has k → w.heap.size ≤ k) := by
  refine (new_world L l hL h1 h2 w).mono ?_
  rintro e w' ⟨rfl, rfl⟩
  obtain ⟨a, b, _⟩ := new_rep l h1 h2 w
  exact ⟨_, rfl, a, b, by intro k hk; unfold HB.has at hk; simp only at hk; omega⟩
end Go.Proofs.Ytecemlamoiepdaa
