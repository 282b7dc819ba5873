/- What the judge answers of numbers by equal. -/
import Derived.Test.YtecemlamoiepdaaEqual
import Derived.Test.YtecemlamoiepdaaSames
namespace Go.Proofs.Ytecemlamoiepdaa
open Go.RowKit

set_option maxRecDepth 20000 in
set_option maxHeartbeats 1000000 in
theorem same2_any {hb : HB} {M : Hp} {w : World} (r : Rep hb M w) (ht : ∀ x, M.typ x = 0) {J c : Nat} (j : Jd hb w J c) (x y : Nat) {n : Nat} {ans : Bool} (he : Eqs M [(x, y)] n ans) (hc : c + n ≤ 20000) :
    Calls Try.prog 100 #[.pointer (some ⟨J, 0, none⟩), .int .i64 2, .int .u64 (x : Nat), .int .u64 (y : Nat)] w fun e w' => e = .returned (.tuple #[.bool ans, .int .i64 0]) ∧ Rep hb M w' ∧ (∃ c1 : Nat, Jd hb w' J c1 ∧ c1 ≤ c + n) ∧ w'.os = w.os ∧ w'.tape = w.tape ∧ w'.output = w.output ∧ w.heap.size ≤ w'.heap.size ∧ ∀ k, k < w.heap.size → k ≠ J → w'.heap[k]? = w.heap[k]? := by
  have hC := equal_any r ht j x y he hc
  clear r ht j he
  go_enter Try.func100, Try.ntmps100
  go_wp2_with fail
  refine hC.mono ?_
  rintro e w1 ⟨rfl, h⟩
  have H := Lib.hid h
  clear h hC
  go_wp2_with fail
  go_ret2
  exact ⟨by simp, H.out⟩

theorem sameOk2 (hb : HB) (M : Hp) (ht : ∀ x, M.typ x = 0) (x : Nat) (hx : x < 18446744073709551616) (hp : M.pairOf x = none) (ks : List Nat) (hk : ∀ y ∈ ks, y < 18446744073709551616) : SameOk hb M 2 x ks := by
  intro W J c y hy r j hc
  have he : Eqs M [(x, y)] 1 (decide (x = y)) := by
    by_cases h : x = y
    · subst h
      rw [decide_eq_true rfl]
      exact .same hx .nil
    · rw [decide_eq_false h]
      exact .no h hx (hk y hy) (.inl hp)
  exact same2_any r ht j x y he (by omega)
end Go.Proofs.Ytecemlamoiepdaa
