/- The contracts of lists.judge: value, same by the same word and by value, told; what a call of equal pushes. -/
import Derived.Test.YtecemlamoiepdaaApply2
namespace Go.Proofs.Ytecemlamoiepdaa
open Go.RowKit

/-- a judge -/
structure Jd (hb : HB) (W : World) (J : Nat) (c : Int) : Prop where
  at' : W.heap[J]? = some (.cells #[.pointer (some ⟨hb.h, 0, none⟩), .int .i64 c] 166 (0, 0))
  out : ¬ hb.has J

theorem Jd.below {hb : HB} {W W' : World} {J : Nat} {c : Int} (h : Jd hb W J c) (b : Below W.heap.size W W') : Jd hb W' J c := ⟨(b.block J (lt_of_block h.at')).trans h.at', h.out⟩
theorem Jd.cells {hb : HB} {W : World} {J : Nat} {c : Int} (h : Jd hb W J c) : W.cell? ⟨J, 0, none⟩ = some (.pointer (some ⟨hb.h, 0, none⟩)) ∧ W.cell? ⟨J, 1, none⟩ = some (.int .i64 c) ∧ W.frozen? ⟨J, 1, none⟩ = false := by
  have h1 := h.at'
  refine ⟨?_, ?_, ?_⟩ <;> simp [World.cell?, World.frozen?, h1]

set_option maxRecDepth 20000 in
set_option maxHeartbeats 1000000 in
theorem value_any {hb : HB} {M : Hp} {w : World} (r : Rep hb M w) (ht : ∀ x, M.typ x = 0) {J : Nat} {c : Int} (j : Jd hb w J c) (x y : Nat) (hx : x < 18446744073709551616) (hy : y < 18446744073709551616) :
    Calls Try.prog 126 #[.pointer (some ⟨J, 0, none⟩), .int .u64 (x : Nat), .int .u64 (y : Nat)] w fun e w' => e = .returned (.bool (decide (x = y))) ∧ Below w.heap.size w w' := by
  obtain ⟨c0, _, _⟩ := j.cells
  have hT := type_any r x hx
  rw [ht] at hT
  have HX := Lib.hid hx
  have HY := Lib.hid hy
  clear r ht j hx hy
  by_cases hxy : x = y
  · subst hxy
    rw [decide_eq_true rfl]
    have hxx : (((x : Nat) : Int) == ((x : Nat) : Int)) = true := by simp
    go_enter Try.func126, Try.ntmps126
    go_wp2_with fail
    go_ret
    exact ⟨rfl, Below.refl _ _⟩
  · rw [decide_eq_false hxy]
    have hxx : (((x : Nat) : Int) == ((y : Nat) : Int)) = false := by rw [beq_eq_false_iff_ne]; omega
    go_enter Try.func126, Try.ntmps126
    go_wp2_with fail
    refine hT.mono ?_
    rintro e w1 ⟨rfl, b1⟩
    have B1 := Lib.hid b1
    clear b1 c0 hT
    go_wp2_with fail
    go_ret
    exact ⟨rfl, B1.out⟩

set_option maxHeartbeats 400000 in
theorem truth_any (b : Bool) (w : World) : Calls Try.prog 123 #[.bool b] w fun e w' => e = .returned (.int .u64 (if b then 12 else 4 : Nat)) ∧ w' = w := by
  cases b
  all_goals
    go_enter Try.func123, Try.ntmps123
    go_wp2_with fail
    go_ret
    exact ⟨by simp, rfl⟩

set_option maxHeartbeats 400000 in
theorem told_any (b : Bool) (w : World) : Calls Try.prog 99 #[.bool b, .int .i64 0] w fun e w' => e = .returned (.tuple #[.int .u64 (if b then 12 else 4 : Nat), .int .i64 0]) ∧ w' = w := by
  have h := truth_any b w
  generalize (if b = true then 12 else 4 : Nat) = tw at *
  go_enter Try.func99, Try.ntmps99
  go_wp2_with fail
  refine h.mono ?_
  rintro e w1 ⟨rfl, rfl⟩
  go_wp2_with fail
  go_ret2
  exact ⟨by simp, rfl⟩

set_option maxRecDepth 20000 in
set_option maxHeartbeats 1000000 in
theorem same0_any {J : Nat} (x y : Nat) (w : World) :
    Calls Try.prog 100 #[.pointer (some ⟨J, 0, none⟩), .int .i64 0, .int .u64 (x : Nat), .int .u64 (y : Nat)] w fun e w' => e = .returned (.tuple #[.bool (decide (x = y)), .int .i64 0]) ∧ w' = w := by
  have hd : (((x : Nat) : Int) == ((y : Nat) : Int)) = decide (x = y) := by
    by_cases h : x = y
    · subst h; simp
    · rw [decide_eq_false h, beq_eq_false_iff_ne]; omega
  go_enter Try.func100, Try.ntmps100
  go_wp2_with fail
  go_ret2
  exact ⟨by simp, rfl⟩

set_option maxRecDepth 20000 in
set_option maxHeartbeats 1000000 in
theorem same1_any {hb : HB} {M : Hp} {w : World} (r : Rep hb M w) (ht : ∀ x, M.typ x = 0) {J : Nat} {c : Int} (j : Jd hb w J c) (x y : Nat) (hx : x < 18446744073709551616) (hy : y < 18446744073709551616) :
    Calls Try.prog 100 #[.pointer (some ⟨J, 0, none⟩), .int .i64 1, .int .u64 (x : Nat), .int .u64 (y : Nat)] w fun e w' => e = .returned (.tuple #[.bool (decide (x = y)), .int .i64 0]) ∧ Below w.heap.size w w' := by
  have hC := value_any r ht j x y hx hy
  generalize decide (x = y) = bb at *
  clear r ht j hx hy
  go_enter Try.func100, Try.ntmps100
  go_wp2_with fail
  refine hC.mono ?_
  rintro e w1 ⟨rfl, b1⟩
  have B1 := Lib.hid b1
  clear b1 hC
  go_wp2_with fail
  go_ret2
  exact ⟨by simp, B1.out⟩

/-! ### the words that are left to compare -/
def cells2 (s : List (Nat × Nat)) : List Value := (s.map fun p => [wv p.1, wv p.2]).flatten
theorem cells2_len (s : List (Nat × Nat)) : (cells2 s).length = s.length * 2 := by
  induction s with
  | nil => rfl
  | cons p t ih => simp [cells2] at ih ⊢; omega
theorem cells2_snoc (s : List (Nat × Nat)) (x y : Nat) : cells2 (s ++ [(x, y)]) = cells2 s ++ [wv x, wv y] := by simp [cells2]

theorem own_sl {w : World} {base : Nat} {e : TypeId} {size : Nat} {v : Value} {n : Nat} {xs : List Value} (h : w.ownsRow base e size v n xs) : ∃ a c, v = .slice a n c := by
  rcases h.2 with ⟨rfl, rfl⟩ | ⟨g, cap, cur, rfl, _⟩
  · exact ⟨none, 0, rfl⟩
  · exact ⟨_, cap, rfl⟩

theorem own_block' {w w' : World} {base : Nat} {e : TypeId} {size : Nat} {v : Value} {n : Nat} {xs : List Value} (h : w.ownsRow base e size v n xs) (hb : ∀ k, v.ownBlock = some k → w'.heap[k]? = w.heap[k]?) : w'.ownsRow base e size v n xs := by
  refine ⟨h.1, ?_⟩
  rcases h.2 with hn | ⟨g, cap, cur, rfl, hb0, hgg, rest⟩
  · exact .inl hn
  · exact .inr ⟨g, cap, cur, rfl, hb0, by rw [hb g rfl]; exact hgg, rest⟩

/-- the last one off -/
theorem own_pop {w : World} {e : TypeId} {size n g cap : Nat} {xs ys : List Value} (h : w.ownsRow 0 e size (.slice (some ⟨g, 0, none⟩) (n + 1) cap) (n + 1) (xs ++ ys)) (hx : xs.length = n * size) : w.ownsRow 0 e size (.slice (some ⟨g, 0, none⟩) n cap) n xs := by
  refine ⟨hx, .inr ?_⟩
  rcases h.2 with ⟨h1, _⟩ | ⟨g', cap', cur, h1, hb, hg, hn, hc, hs, ht⟩
  · cases h1
  · cases h1
    refine ⟨g, cap, cur, rfl, hb, hg, by omega, hc, hs, ?_⟩
    have h2 := congrArg (List.take (n * size)) ht
    rw [List.take_take, Nat.min_eq_left (by rw [Nat.add_mul]; omega), List.take_left' hx] at h2
    exact h2

theorem E_two : Elem Try.prog 205 204 2 16 := Elem.of (z := .agg #[.int .u64 0, .int .u64 0]) Try.underlying205 (by kernel_rfl) rfl (by decide)

/-- the box of what is left -/
structure Left (B : Nat) (W : World) (T : Nat) (s : List (Nat × Nat)) : Prop where
  ex : ∃ u, W.heap[T]? = some (.cells #[u] 205 (0, 0)) ∧ W.ownsRow 0 204 2 u s.length (cells2 s) ∧ ∀ k, u.ownBlock = some k → B ≤ k ∧ k ≠ T

/-- .. and a block that is not the row's -/
structure LeftN (B : Nat) (W : World) (T : Nat) (s : List (Nat × Nat)) (N : Nat) : Prop where
  ex : ∃ u, W.heap[T]? = some (.cells #[u] 205 (0, 0)) ∧ W.ownsRow 0 204 2 u s.length (cells2 s) ∧ ∀ k, u.ownBlock = some k → B ≤ k ∧ k ≠ T ∧ k ≠ N
theorem LeftN.left {B T N : Nat} {W : World} {s : List (Nat × Nat)} (h : LeftN B W T s N) : Left B W T s := by
  obtain ⟨u, h1, h2, h3⟩ := h.ex
  exact ⟨u, h1, h2, fun k hk => ⟨(h3 k hk).1, (h3 k hk).2.1⟩⟩
theorem LeftN.below {B T N : Nat} {W W' : World} {s : List (Nat × Nat)} (h : LeftN B W T s N) (b : Below W.heap.size W W') : LeftN B W' T s N := by
  obtain ⟨u, h1, h2, h3⟩ := h.ex
  exact ⟨u, (b.block _ (lt_of_block h1)).trans h1, own_block' h2 fun k hk => b.block k (h2.lt k hk).2, h3⟩

set_option maxRecDepth 20000 in
set_option maxHeartbeats 1000000 in
theorem push2_any {B T N : Nat} {s : List (Nat × Nat)} {w : World} (hB : B ≤ w.heap.size) (hN : N < w.heap.size) (l : LeftN B w T s N) (hs : s.length ≤ 100000) (x y : Nat) :
    Calls Try.prog 129 #[.int .u64 (x : Nat), .int .u64 (y : Nat), .pointer (some ⟨T, 0, none⟩)] w fun e w' => (∃ v, e = .returned v) ∧ LeftN B w' T (s ++ [(x, y)]) N ∧ w'.os = w.os ∧ w'.tape = w.tape ∧ w'.output = w.output ∧ w.heap.size ≤ w'.heap.size ∧ ∀ k, k < w.heap.size → k < B ∨ k = N → k ≠ T → w'.heap[k]? = w.heap[k]? := by
  obtain ⟨u, hT, ho, hk⟩ := l.ex
  obtain ⟨n, hn⟩ : ∃ n, n = s.length := ⟨_, rfl⟩
  rw [← hn] at ho hs
  have HT := Lib.hid hT
  have HO := Lib.hid (ho.alloc (.cells #[.int .u64 (x : Nat), .int .u64 (y : Nat)] 204))
  have HN := Lib.hid hn
  have HK := Lib.hid hk
  obtain ⟨c0, f0⟩ : w.cell? ⟨T, 0, none⟩ = some u ∧ w.frozen? ⟨T, 0, none⟩ = false := by simp [World.cell?, World.frozen?, hT]
  have hTl := lt_of_block hT
  have NC : Hid (SlCells (w.alloc (.cells #[.int .u64 (x : Nat), .int .u64 (y : Nat)] 204)) (.slice (some ⟨w.heap.size, 0, none⟩) 1 1) 1 [.int .u64 (x : Nat), .int .u64 (y : Nat)]) := Lib.hid (by
    refine .inr ⟨w.heap.size, 0, 1, rfl, by simp, fun j z hz => ?_⟩
    match j with
    | 0 => cases hz; simp
    | 1 => cases hz; simp
    | j + 2 => cases hz)
  clear l ho hk hn hT
  go_enter Try.func129, Try.ntmps129
  go_wp2_with (at_builtin; refine wpList_app E_two rfl _ _ rfl u n (cells2 s) rfl HO.out (.slice (some ⟨w.heap.size, 0, none⟩) 1 1) 1 [.int .u64 (x : Nat), .int .u64 (y : Nat)] rfl NC.out (by simp) (by simp [Value.oneCell']) (by unfold maxLen; omega) (by omega) ?_; intro v' w6 hown hgrow hat; obtain ⟨va, vc, rfl⟩ := own_sl hown; have g6 : w6.heap[T]? = some (.cells #[u] 205 (0, 0)) := (hgrow.block T (by simp; omega) (fun e => (HK.out _ e.symm).2.1 rfl)).trans ((heap_alloc_old _ _ hTl).trans HT.out); obtain ⟨c6, f6⟩ : w6.cell? ⟨T, 0, none⟩ = some u ∧ w6.frozen? ⟨T, 0, none⟩ = false := by simp [World.cell?, World.frozen?, g6])
  refine bodyPost_end (results_none rfl _ _ _) rfl ?_
  have hs6 : w.heap.size ≤ w6.heap.size := by have := hgrow.size; simp at this; omega
  have hTk : ∀ k, (Value.slice va (n + 1) vc).ownBlock = some k → B ≤ k ∧ k ≠ T ∧ k ≠ N := by
    intro k hk
    rcases hat with h | h
    · rw [h] at hk; exact HK.out k hk
    · rw [h] at hk; cases hk; simp; omega
  have hrest : ∀ k, k ≠ T → (w6.setCell ⟨T, 0, none⟩ (.slice va (n + 1) vc)).heap[k]? = w6.heap[k]? := fun k h => Below.heap_setCell _ _ _ _ h
  refine ⟨⟨_, rfl⟩, ⟨_, box_set g6 _, ?_, hTk⟩, hgrow.os, hgrow.tape, hgrow.output, by simp [World.setCell]; exact hs6, fun k h1 h2 h3 => ?_⟩
  · rw [cells2_snoc, List.length_append, ← HN.out]
    exact own_block' hown fun k hk => hrest k (hTk k hk).2.1
  · exact (hrest k h3).trans ((hgrow.block k (by simp; omega) (fun e => by have := HK.out k e.symm; omega)).trans (heap_alloc_old _ _ h1))

/-! ### what equal answers, on a heap of pairs: the words left, the last first -/
inductive Eqs (M : Hp) : List (Nat × Nat) → Nat → Bool → Prop
  | nil : Eqs M [] 0 true
  | same {a : Nat} {s : List (Nat × Nat)} {n : Nat} {r : Bool} : a < 18446744073709551616 → Eqs M s n r → Eqs M ((a, a) :: s) (n + 1) r
  | pair {a b x y x' y' p p' : Nat} {s : List (Nat × Nat)} {n : Nat} {r : Bool} : a ≠ b → a < 18446744073709551616 → b < 18446744073709551616 → M.pairOf a = some p → M.pairOf b = some p' → M.half a 0 = some x → M.half a 1 = some y → M.half b 0 = some x' → M.half b 1 = some y' →
      Eqs M ((x, x') :: (y, y') :: s) n r → Eqs M ((a, b) :: s) (n + 1) r
  | no {a b : Nat} {s : List (Nat × Nat)} : a ≠ b → a < 18446744073709551616 → b < 18446744073709551616 → (M.pairOf a = none ∨ M.pairOf b = none) → Eqs M ((a, b) :: s) 1 false

end Go.Proofs.Ytecemlamoiepdaa
