/- What the judge answers of numbers, by kind; lists.Apply over find. -/
import Derived.Test.YtecemlamoiepdaaFind2
import Derived.Test.YtecemlamoiepdaaLists7
namespace Go.Proofs.Ytecemlamoiepdaa
open Go.RowKit

theorem sameOk0 (hb : HB) (M : Hp) (x : Nat) (ks : List Nat) : SameOk hb M 0 x ks := by
  intro W J c y _ r j _
  refine (same0_any x y W).mono ?_
  rintro e w' ⟨rfl, rfl⟩
  exact ⟨rfl, r, ⟨c, j, Nat.le_succ _⟩, rfl, rfl, rfl, Nat.le_refl _, fun _ _ _ => rfl⟩

theorem sameOk1 (hb : HB) (M : Hp) (ht : ∀ x, M.typ x = 0) (x : Nat) (hx : x < 18446744073709551616) (ks : List Nat) (hk : ∀ y ∈ ks, y < 18446744073709551616) : SameOk hb M 1 x ks := by
  intro W J c y hy r j _
  refine (same1_any r ht j x y hx (hk y hy)).mono ?_
  rintro e w' ⟨rfl, b⟩
  exact ⟨rfl, r.below b, ⟨c, j.below b, Nat.le_succ _⟩, b.os, b.tape, b.output, b.size, fun k h _ => b.block k h⟩

variable {hb : HB} {M0 M : Hp} {n0 n : Nat} {w0 w : World}

/-- a step of a law's: one of the primitives over find, by what Apply answers of two words -/
theorem g_two (G : Grew hb M0 n0 w0 M n w) {x y : Nat} {z ec : Int} (N : Int) (hA : ∀ (sv : Value) (w1 : World), Below w.heap.size w w1 → TwoArg w1 sv x y → Calls Try.prog 58 #[.pointer (some ⟨hb.h, 0, none⟩), .int .i64 N, sv] w1 fun e w' => e = .returned (.tuple #[.int .u64 z, .int .i64 ec]) ∧ Below w1.heap.size w1 w') (e : TypeId) :
    Calls Try.prog 58 #[.pointer (some ⟨hb.h, 0, none⟩), .int .i64 N, .slice (some ⟨w.heap.size, 0, none⟩) 2 2] (w.alloc (.cells #[.int .u64 (x : Nat), .int .u64 (y : Nat)] e)) fun e w' => e = .returned (.tuple #[.int .u64 z, .int .i64 ec]) ∧ Grew hb M0 n0 w0 M n w' ∧ Moves hb w w' :=
  (hA _ _ ((Below.refl _ _).alloc (Nat.le_refl _) _) (two_arg w x y e)).mono fun e w' ⟨h1, h2⟩ => ⟨h1, (G.alloc _).below h2, (Moves.of_below ((Below.refl _ _).alloc (Nat.le_refl _) _)).trans (.of_below h2)⟩

/-- assq, assv, assoc -/
theorem g_ass (G : Grew hb M0 n0 w0 M n w) {v x : Nat} {l : List (Nat × Nat)} (hL : Lst M v l) (hl : l.length ≤ 5000) (kd : Int) (h3 : kd = 0 ∨ kd = 1 ∨ kd = 2) (ks : List Nat) (hks : ks.length = l.length) (hcar : ∀ (i y k : Nat), (l.map (·.2))[i]? = some y → ks[i]? = some k → M.half y 0 = some k)
    (hS : SameOk hb M kd x ks) (j : Nat) (hj : j ≤ l.length) (hno : ∀ i, i < j → ∀ k, ks[i]? = some k → x ≠ k) (hyes : j < l.length → ks[j]? = some x) (N : Int) (hN : N = kd + 21) (e : TypeId) :
    Calls Try.prog 58 #[.pointer (some ⟨hb.h, 0, none⟩), .int .i64 N, .slice (some ⟨w.heap.size, 0, none⟩) 2 2] (w.alloc (.cells #[.int .u64 (x : Nat), .int .u64 (v : Nat)] e)) fun e w' => e = .returned (.tuple #[.int .u64 (((l.map (·.2))[j]?).getD 4 : Nat), .int .i64 0]) ∧ Grew hb M0 n0 w0 M n w' ∧ Moves hb w w' := by
  refine g_two G N (fun sv w1 b ht => ?_) e
  have hF : ∀ w2, Below w1.heap.size w1 w2 → _ := fun w2 b2 => find_any ((G.rep.below b).below b2) hL (hL.lt G.rep.ok (by omega)) hl kd true ks (l.map (·.2)) (by intro h; cases h) (fun _ => ⟨hks, rfl, hcar⟩) (hL.words G.rep.ok) hS j hj hno hyes
  rcases h3 with rfl | rfl | rfl
  · subst hN; exact apply21 (G.rep.below b) hF sv ht
  · subst hN; exact apply22 (G.rep.below b) hF sv ht
  · subst hN; exact apply23 (G.rep.below b) hF sv ht

/-- memq, member -/
theorem g_mem (G : Grew hb M0 n0 w0 M n w) {v x : Nat} {l : List (Nat × Nat)} (hL : Lst M v l) (hl : l.length ≤ 5000) (kd : Int) (h3 : kd = 0 ∨ kd = 2)
    (hS : SameOk hb M kd x (l.map (·.2))) (j : Nat) (hj : j ≤ l.length) (hno : ∀ i, i < j → ∀ k, (l.map (·.2))[i]? = some k → x ≠ k) (hyes : j < l.length → (l.map (·.2))[j]? = some x) (N : Int) (hN : N = kd + 18) (e : TypeId) :
    Calls Try.prog 58 #[.pointer (some ⟨hb.h, 0, none⟩), .int .i64 N, .slice (some ⟨w.heap.size, 0, none⟩) 2 2] (w.alloc (.cells #[.int .u64 (x : Nat), .int .u64 (v : Nat)] e)) fun e w' => e = .returned (.tuple #[.int .u64 (((l.map (·.1))[j]?).getD 4 : Nat), .int .i64 0]) ∧ Grew hb M0 n0 w0 M n w' ∧ Moves hb w w' := by
  refine g_two G N (fun sv w1 b ht => ?_) e
  have hF : ∀ w2, Below w1.heap.size w1 w2 → _ := fun w2 b2 => find_any ((G.rep.below b).below b2) hL (hL.lt G.rep.ok (by omega)) hl kd false (l.map (·.2)) (l.map (·.1)) (fun _ => ⟨rfl, rfl⟩) (by intro h; cases h) (hL.words G.rep.ok) hS j hj hno hyes
  rcases h3 with rfl | rfl
  · subst hN; exact apply18 (G.rep.below b) hF sv ht
  · subst hN; exact apply20 (G.rep.below b) hF sv ht
end Go.Proofs.Ytecemlamoiepdaa
