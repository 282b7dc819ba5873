/- A heap that is none, more: what Cons, Weak, Vector, String, Car, Cdr, SetCar, Pair, Size, Text, Epoch, Next, Copy answer; it leaves the world alone. -/
import Derived.Test.YtecemlamoiepdaaNone
import Derived.Test.YtecemlamoiepdaaVec
import Derived.Test.YtecemlamoiepdaaStr
namespace Go.Proofs.Ytecemlamoiepdaa
open Go.RowKit

set_option maxHeartbeats 800000 in
theorem pair_none {w : World} {v : Value} (h : NoneH w v) (x : Nat) (hx : x < 18446744073709551616) :
    Calls Try.prog 87 #[v, .int .u64 x] w fun e w' => e = .returned (.tuple #[.int .i64 0, .bool false]) ∧ Below w.heap.size w w' := by
  have hA := at_none h x hx 1 0
  have NH := Lib.hid h
  clear h
  go_enter Try.func87, Try.ntmps87
  go_wp2_with fail
  refine hA.mono ?_
  rintro e w1 ⟨rfl, b1⟩
  have hA2 := at_none (NH.out.below b1) x hx 2 1
  have B1 := Lib.hid b1
  clear hA b1
  go_wp2_with fail
  refine hA2.mono ?_
  rintro e w2 ⟨rfl, b2⟩
  have B2 := Lib.hid b2
  clear hA2 b2
  go_wp2_with fail
  go_ret2
  exact ⟨by simp, B1.out.trans (B2.out.mono B1.out.size)⟩

set_option maxHeartbeats 800000 in
theorem ispair_none {w : World} {v : Value} (h : NoneH w v) (x : Nat) (hx : x < 18446744073709551616) :
    Calls Try.prog 52 #[v, .int .u64 x] w fun e w' => e = .returned (.bool false) ∧ Below w.heap.size w w' := by
  have hA := pair_none h x hx
  clear h
  go_enter Try.func52, Try.ntmps52
  go_wp2_with fail
  refine hA.mono ?_
  rintro e w1 ⟨rfl, b1⟩
  clear hA
  go_wp2_with fail
  go_ret
  exact ⟨by simp, b1⟩

set_option maxHeartbeats 800000 in
theorem half_none {w : World} {v : Value} (h : NoneH w v) (x : Nat) (hx : x < 18446744073709551616) (I : Int) :
    Calls Try.prog 75 #[v, .int .u64 x, .int .i64 I] w fun e w' => e = .returned (.tuple #[.int .u64 0, .int .i64 3]) ∧ Below w.heap.size w w' := by
  have hA := pair_none h x hx
  clear h
  go_enter Try.func75, Try.ntmps75
  go_wp2_with fail
  refine hA.mono ?_
  rintro e w1 ⟨rfl, b1⟩
  clear hA
  go_wp2_with fail
  go_ret2
  exact ⟨by simp, b1⟩

set_option maxHeartbeats 800000 in
theorem car_none {w : World} {v : Value} (h : NoneH w v) (x : Nat) (hx : x < 18446744073709551616) :
    Calls Try.prog 36 #[v, .int .u64 x] w fun e w' => e = .returned (.tuple #[.int .u64 0, .int .i64 3]) ∧ Below w.heap.size w w' := by
  have hA := half_none h x hx 0
  clear h
  go_enter Try.func36, Try.ntmps36
  go_wp2_with fail
  refine hA.mono ?_
  rintro e w1 ⟨rfl, b1⟩
  clear hA
  go_wp2_with fail
  go_ret2
  exact ⟨by simp, b1⟩

set_option maxHeartbeats 800000 in
theorem hset_none {w : World} {v : Value} (h : NoneH w v) (x : Nat) (hx : x < 18446744073709551616) (I : Int) (y : Nat) :
    Calls Try.prog 86 #[v, .int .u64 x, .int .i64 I, .int .u64 y] w fun e w' => e = .returned (.int .i64 3) ∧ Below w.heap.size w w' := by
  have hA := pair_none h x hx
  clear h
  go_enter Try.func86, Try.ntmps86
  go_wp2_with fail
  refine hA.mono ?_
  rintro e w1 ⟨rfl, b1⟩
  clear hA
  go_wp2_with fail
  go_ret
  exact ⟨by simp, b1⟩

set_option maxHeartbeats 800000 in
theorem setcar_none {w : World} {v : Value} (h : NoneH w v) (x : Nat) (hx : x < 18446744073709551616) (y : Nat) :
    Calls Try.prog 51 #[v, .int .u64 x, .int .u64 y] w fun e w' => e = .returned (.int .i64 3) ∧ Below w.heap.size w w' := by
  have hA := hset_none h x hx 0 y
  clear h
  go_enter Try.func51, Try.ntmps51
  go_wp2_with fail
  refine hA.mono ?_
  rintro e w1 ⟨rfl, b1⟩
  clear hA
  go_wp2_with fail
  go_ret
  exact ⟨by simp, b1⟩

set_option maxHeartbeats 800000 in
theorem words_none {w : World} {v : Value} (h : NoneH w v) (x : Nat) (hx : x < 18446744073709551616) (K : Int) :
    Calls Try.prog 78 #[v, .int .u64 x, .int .i64 K] w fun e w' => e = .returned (.tuple #[.slice none 0 0, .bool false]) ∧ Below w.heap.size w w' := by
  have hA := object_none h x hx
  clear h
  go_enter Try.func78, Try.ntmps78
  go_wp2_with fail
  refine hA.mono ?_
  rintro e w1 ⟨rfl, b1⟩
  clear hA
  go_wp2_with fail
  go_ret2
  exact ⟨by simp, b1⟩

set_option maxHeartbeats 800000 in
theorem text_none {w : World} {v : Value} (h : NoneH w v) (x : Nat) (hx : x < 18446744073709551616) :
    Calls Try.prog 43 #[v, .int .u64 x] w fun e w' => e = .returned (.tuple #[.string .empty, .int .i64 3]) ∧ Below w.heap.size w w' := by
  have hA := words_none h x hx 2
  clear h
  go_enter Try.func43, Try.ntmps43
  go_wp2_with fail
  refine hA.mono ?_
  rintro e w1 ⟨rfl, b1⟩
  clear hA
  go_wp2_with fail
  go_ret2
  exact ⟨by simp; rfl, b1⟩

set_option maxHeartbeats 800000 in
theorem size_none {w : World} {v : Value} (h : NoneH w v) (x : Nat) (hx : x < 18446744073709551616) :
    Calls Try.prog 38 #[v, .int .u64 x] w fun e w' => e = .returned (.int .i64 0) ∧ Below w.heap.size w w' := by
  have hA := ispair_none h x hx
  have NH := Lib.hid h
  clear h
  go_enter Try.func38, Try.ntmps38
  go_wp2_with fail
  refine hA.mono ?_
  rintro e w1 ⟨rfl, b1⟩
  have hA2 := object_none (NH.out.below b1) x hx
  have B1 := Lib.hid b1
  clear hA b1
  go_wp2_with fail
  refine hA2.mono ?_
  rintro e w2 ⟨rfl, b2⟩
  have B2 := Lib.hid b2
  clear hA2 b2
  go_wp2_with fail
  go_ret
  exact ⟨by simp, B1.out.trans (B2.out.mono B1.out.size)⟩

set_option maxHeartbeats 800000 in
theorem epoch_none {w : World} {v : Value} (h : NoneH w v) :
    Calls Try.prog 53 #[v] w fun e w' => e = .returned (.int .u64 0) ∧ Below w.heap.size w w' := by
  have hA := hnone_yes h
  clear h
  go_enter Try.func53, Try.ntmps53
  go_wp2_with fail
  refine hA.mono ?_
  rintro e w1 ⟨rfl, rfl⟩
  clear hA
  go_wp2_with fail
  go_ret
  exact ⟨by simp, Below.refl _ _⟩

set_option maxHeartbeats 800000 in
theorem next_nil {w : World} {v : Value} (h : NoneH w v) :
    Calls Try.prog 50 #[v] w fun e w' => e = .returned (.tuple #[]) ∧ Below w.heap.size w w' := by
  have hA := hnone_yes h
  clear h
  go_enter Try.func50, Try.ntmps50
  go_wp2_with fail
  refine hA.mono ?_
  rintro e w1 ⟨rfl, rfl⟩
  clear hA
  go_wp2_with fail
  refine bodyPost_end (results_none rfl _ _ _) rfl ?_
  exact ⟨rfl, Below.refl _ _⟩

set_option maxHeartbeats 800000 in
theorem vector_none {w : World} {v : Value} (h : NoneH w v) (x : Nat) (hx : x < 18446744073709551616) :
    Calls Try.prog 49 #[v, .int .i64 3, .int .u64 x] w fun e w' => e = .returned (.tuple #[.int .u64 0, .int .i64 2]) ∧ Below w.heap.size w w' := by
  have hB1 := (Below.refl w.heap.size w).alloc (Nat.le_refl _) (.cells #[.int .u64 (x : Nat)] 29)
  have hR := repeat_any w.heap.size 3 x 3 rfl (by omega) (w.alloc (.cells #[.int .u64 (x : Nat)] 29)) (by simp) (World.cell?_alloc_new _ _ _ 0)
  have NH := Lib.hid h
  have B1 := Lib.hid hB1
  clear h hB1 hx
  go_enter Try.func49, Try.ntmps49
  go_wp2_with fail
  refine hR.mono ?_
  rintro en w2 ⟨u, rfl, hs, b2⟩
  have B2 : Below w.heap.size w w2 := B1.out.trans (b2.mono B1.out.size)
  have hM := make_nil (NH.out.below B2) 1 0 1 0 rfl rfl (by omega) (by omega) (by omega) u _ hs (by simp)
  have BB := Lib.hid B2
  clear hR hs b2 B2
  go_wp2_with fail
  refine hM.mono ?_
  rintro en w3 ⟨rfl, b3⟩
  have B3 := Lib.hid b3
  clear hM b3
  go_wp2_with fail
  go_ret2
  exact ⟨by simp, BB.out.trans (B3.out.mono BB.out.size)⟩

set_option maxHeartbeats 800000 in
theorem cons_nil {w : World} {v : Value} (h : NoneH w v) (x y : Nat) :
    Calls Try.prog 30 #[v, .int .u64 x, .int .u64 y] w fun e w' => e = .returned (.tuple #[.int .u64 0, .int .i64 2]) ∧ Below w.heap.size w w' := by
  have hB1 := (Below.refl w.heap.size w).alloc (Nat.le_refl _) (.cells #[.int .u64 (x : Nat), .int .u64 (y : Nat)] 29)
  have hA := put_nil (h.below hB1) 0 1 (.slice (some ⟨w.heap.size, 0, none⟩) 2 2)
  have B1 := Lib.hid hB1
  clear h hB1
  go_enter Try.func30, Try.ntmps30
  go_wp2_with fail
  refine hA.mono ?_
  rintro e w1 ⟨rfl, b1⟩
  have B2 := Lib.hid b1
  clear hA b1
  go_wp2_with fail
  go_ret2
  exact ⟨by simp, B1.out.trans (B2.out.mono B1.out.size)⟩

set_option maxHeartbeats 800000 in
theorem weak_nil {w : World} {v : Value} (h : NoneH w v) (x y : Nat) :
    Calls Try.prog 31 #[v, .int .u64 x, .int .u64 y] w fun e w' => e = .returned (.tuple #[.int .u64 0, .int .i64 2]) ∧ Below w.heap.size w w' := by
  have hB1 := (Below.refl w.heap.size w).alloc (Nat.le_refl _) (.cells #[.int .u64 (x : Nat), .int .u64 (y : Nat)] 29)
  have hA := put_nil (h.below hB1) 1 2 (.slice (some ⟨w.heap.size, 0, none⟩) 2 2)
  have B1 := Lib.hid hB1
  clear h hB1
  go_enter Try.func31, Try.ntmps31
  go_wp2_with fail
  refine hA.mono ?_
  rintro e w1 ⟨rfl, b1⟩
  have B2 := Lib.hid b1
  clear hA b1
  go_wp2_with fail
  go_ret2
  exact ⟨by simp, B1.out.trans (B2.out.mono B1.out.size)⟩

theorem string_nil {w : World} {v : Value} (h : NoneH w v) (s : ByteArray) (hl : (runesOf s).length ≤ 62) :
    Calls Try.prog 42 #[v, .string s] w fun e w' => e = .returned (.tuple #[.int .u64 0, .int .i64 2]) ∧ Below w.heap.size w w' := by
  refine (string_gen v s w (fun x er w' => x = 0 ∧ er = 2 ∧ Below w.heap.size w w') ?_).mono ?_
  · intro w1 u b1 o1 _
    exact (make_nil (h.below b1) 2 0 2 0 rfl rfl (by omega) (by omega) (by omega) u _ o1.sl hl).mono fun en w' ⟨h1, h2⟩ => ⟨0, 2, by rw [h1]; rfl, rfl, rfl, b1.trans (h2.mono b1.size)⟩
  · rintro en w' ⟨x, er, rfl, ⟨h1, _⟩ | ⟨_, rfl, rfl, hb⟩⟩
    · omega
    · exact ⟨rfl, hb⟩
end Go.Proofs.Ytecemlamoiepdaa
