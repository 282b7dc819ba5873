/- The contracts of obj's Weak, SetCar, SetCdr. -/
import Derived.Test.YtecemlamoiepdaaTotal
namespace Go.Proofs.Ytecemlamoiepdaa
open Go.RowKit

set_option maxHeartbeats 1000000 in
theorem weak_ok {hb : HB} {M M' : Hp} {w : World} (r : Rep hb M w) (x y : Nat) (hx : x < 18446744073709551616) (hy : y < 18446744073709551616) {v : Nat} (h : M.cons 1 x y = some (v, M')) :
    Calls Try.prog 31 #[.pointer (some ⟨hb.h, 0, none⟩), .int .u64 x, .int .u64 y] w fun e w' =>
      e = .returned (.tuple #[.int .u64 v, .int .i64 0]) ∧ Rep hb M' w' ∧ Moves hb w w' := by
  unfold Hp.cons at h
  cases hp : M.putAt 1 [x, y] with
  | none => rw [hp] at h; cases h
  | some p =>
    rw [hp] at h
    cases h
    have hlt := r.lt
    have hP := put_ok (r.alloc (.cells #[.int .u64 x, .int .u64 y] 29)) 1 2 [x, y] w.heap.size 0 2 (.inl ⟨.inr rfl, rfl⟩) (by omega) (by omega)
      (two_at w x y) (by simp) (fun hc => Nat.lt_irrefl _ (hlt _ hc)) (by intro z hz; simp at hz; omega) hp
    clear r hlt
    go_enter Try.func31, Try.ntmps31
    go_wp2_with fail
    refine hP.mono ?_
    rintro e w1 ⟨rfl, r1, v1⟩
    have R1 := Lib.hid r1
    have V1 := Lib.hid v1
    clear r1 v1
    go_wp2_with fail
    go_ret2
    exact ⟨by simp, R1.out, (Moves.of_below ((Below.refl _ _).alloc (Nat.le_refl _) _)).trans V1.out⟩

set_option maxHeartbeats 1000000 in
theorem weak_none {hb : HB} {M : Hp} {w : World} (r : Rep hb M w) (hlp : M.limit ≠ 0) (x y : Nat) (h : M.cons 1 x y = none) :
    Calls Try.prog 31 #[.pointer (some ⟨hb.h, 0, none⟩), .int .u64 x, .int .u64 y] w fun e w' =>
      e = .returned (.tuple #[.int .u64 0, .int .i64 2]) ∧ Below w.heap.size w w' := by
  unfold Hp.cons at h
  cases hp : M.putAt 1 [x, y] with
  | some p => rw [hp] at h; cases h
  | none =>
    have hP := put_none (r.alloc (.cells #[.int .u64 x, .int .u64 y] 29)) 1 2 [x, y] w.heap.size 0 2 (.inl ⟨.inr rfl, rfl⟩) hlp hp
    clear r h hp
    go_enter Try.func31, Try.ntmps31
    go_wp2_with fail
    refine hP.mono ?_
    rintro e w1 ⟨rfl, rfl⟩
    go_wp2_with fail
    go_ret2
    exact ⟨by simp, (Below.refl _ _).alloc (Nat.le_refl _) _⟩

set_option maxHeartbeats 1000000 in
theorem weak_any {hb : HB} {M M' : Hp} {w : World} (r : Rep hb M w) (x y : Nat) (hx : x < 18446744073709551616) (hy : y < 18446744073709551616) {v e : Nat} (h : M.two 1 x y = (v, e, M')) :
    Calls Try.prog 31 #[.pointer (some ⟨hb.h, 0, none⟩), .int .u64 x, .int .u64 y] w fun en w' =>
      en = .returned (.tuple #[.int .u64 v, .int .i64 e]) ∧ Rep hb M' w' ∧ Moves hb w w' := by
  unfold Hp.two at h
  cases hc : M.cons 1 x y with
  | none =>
    rw [hc] at h; cases h
    exact (weak_none r (Nat.ne_of_gt r.ok.pos) x y hc).mono fun e w' ⟨h1, h2⟩ => ⟨h1, r.below h2, .of_below h2⟩
  | some p =>
    rw [hc] at h; cases h
    exact weak_ok r x y hx hy hc

set_option maxHeartbeats 400000 in
theorem setcar_ok {hb : HB} {M M' : Hp} {w : World} (r : Rep hb M w) (x v : Nat) (hx : x < 18446744073709551616) (hv : v < 18446744073709551616) (h : M.setHalf x 0 v = some M') :
    Calls Try.prog 51 #[.pointer (some ⟨hb.h, 0, none⟩), .int .u64 x, .int .u64 v] w fun e w' => e = .returned (.int .i64 0) ∧ Rep hb M' w' ∧ Moves hb w w' := by
  have hA := hset_ok r x v hx hv 0 0 rfl (by omega) h
  clear r h
  go_enter Try.func51, Try.ntmps51
  go_wp2_with fail
  refine hA.mono ?_
  rintro e w1 ⟨rfl, r1, v1⟩
  have R1 := Lib.hid r1
  have V1 := Lib.hid v1
  clear hA r1 v1
  go_wp2_with fail
  go_ret
  exact ⟨rfl, R1.out, V1.out⟩

set_option maxHeartbeats 400000 in
theorem setcar_no {hb : HB} {M : Hp} {w : World} (r : Rep hb M w) (x v : Nat) (hx : x < 18446744073709551616) (h : M.pairOf x = none) :
    Calls Try.prog 51 #[.pointer (some ⟨hb.h, 0, none⟩), .int .u64 x, .int .u64 v] w fun e w' => e = .returned (.int .i64 3) ∧ Below w.heap.size w w' := by
  have hA := hset_no r x v hx 0 h
  clear r h
  go_enter Try.func51, Try.ntmps51
  go_wp2_with fail
  refine hA.mono ?_
  rintro e w1 ⟨rfl, b1⟩
  clear hA
  go_wp2_with fail
  go_ret
  exact ⟨rfl, b1⟩

set_option maxHeartbeats 400000 in
theorem setcdr_ok {hb : HB} {M M' : Hp} {w : World} (r : Rep hb M w) (x v : Nat) (hx : x < 18446744073709551616) (hv : v < 18446744073709551616) (h : M.setHalf x 1 v = some M') :
    Calls Try.prog 72 #[.pointer (some ⟨hb.h, 0, none⟩), .int .u64 x, .int .u64 v] w fun e w' => e = .returned (.int .i64 0) ∧ Rep hb M' w' ∧ Moves hb w w' := by
  have hA := hset_ok r x v hx hv 1 1 rfl (by omega) h
  clear r h
  go_enter Try.func72, Try.ntmps72
  go_wp2_with fail
  refine hA.mono ?_
  rintro e w1 ⟨rfl, r1, v1⟩
  have R1 := Lib.hid r1
  have V1 := Lib.hid v1
  clear hA r1 v1
  go_wp2_with fail
  go_ret
  exact ⟨rfl, R1.out, V1.out⟩

set_option maxHeartbeats 400000 in
theorem setcdr_no {hb : HB} {M : Hp} {w : World} (r : Rep hb M w) (x v : Nat) (hx : x < 18446744073709551616) (h : M.pairOf x = none) :
    Calls Try.prog 72 #[.pointer (some ⟨hb.h, 0, none⟩), .int .u64 x, .int .u64 v] w fun e w' => e = .returned (.int .i64 3) ∧ Below w.heap.size w w' := by
  have hA := hset_no r x v hx 1 h
  clear r h
  go_enter Try.func72, Try.ntmps72
  go_wp2_with fail
  refine hA.mono ?_
  rintro e w1 ⟨rfl, b1⟩
  clear hA
  go_wp2_with fail
  go_ret
  exact ⟨rfl, b1⟩
end Go.Proofs.Ytecemlamoiepdaa
