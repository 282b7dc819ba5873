/- The contracts of obj's pairs: pair, Pair, half, Car, Cdr, and the stores. -/
import Derived.Test.YtecemlamoiepdaaRead
namespace Go.Proofs.Ytecemlamoiepdaa
open Go.RowKit

def Hp.pairOf (M : Hp) (x : Nat) : Option Nat :=
  match M.atOf x 1 0 with
  | some a => if a % 2 = 0 then some a else none
  | none => match M.atOf x 2 1 with
    | some a => if a % 2 = 0 then some a else none
    | none => none

theorem Hp.pairOf_some {M : Hp} {x a : Nat} (h : M.pairOf x = some a) : a % 2 = 0 ∧ (M.atOf x 1 0 = some a ∨ (M.atOf x 1 0 = none ∧ M.atOf x 2 1 = some a)) := by
  unfold Hp.pairOf at h
  split at h
  · rename_i b hb
    split at h
    · cases h; exact ⟨‹_›, .inl hb⟩
    · cases h
  · rename_i hb
    split at h
    · rename_i b hb2
      split at h
      · cases h; exact ⟨‹_›, .inr ⟨hb, hb2⟩⟩
      · cases h
    · cases h

theorem Hp.pairOf_none {M : Hp} {x : Nat} (h : M.pairOf x = none) : (∃ a, M.atOf x 1 0 = some a ∧ a % 2 = 1) ∨ (M.atOf x 1 0 = none ∧ ∃ a, M.atOf x 2 1 = some a ∧ a % 2 = 1) ∨ (M.atOf x 1 0 = none ∧ M.atOf x 2 1 = none) := by
  unfold Hp.pairOf at h
  split at h
  · rename_i b hb
    split at h
    · cases h
    · exact .inl ⟨b, hb, by omega⟩
  · rename_i hb
    split at h
    · rename_i b hb2
      split at h
      · cases h
      · exact .inr (.inl ⟨hb, b, hb2, by omega⟩)
    · exact .inr (.inr ⟨hb, ‹_›⟩)

theorem Hp.pairOf_rd {M : Hp} (o : M.Ok) {x a : Nat} (h : M.pairOf x = some a) (i : Nat) (hi : i < 2) : ∃ v, M.rd (a + i) = some v := by
  obtain ⟨h1, h2⟩ := Hp.pairOf_some h
  have : ∃ s, M.segs[a / 64]? = some s ∧ s.kind < 2 ∧ a % 64 < s.words.length := by
    rcases h2 with h2 | ⟨_, h2⟩
    · obtain ⟨_, _, rfl, s, h3, h4, h5⟩ := Hp.atOf_some h2; exact ⟨s, h3, by omega, h5⟩
    · obtain ⟨_, _, rfl, s, h3, h4, h5⟩ := Hp.atOf_some h2; exact ⟨s, h3, by omega, h5⟩
  obtain ⟨s, h3, h4, h5⟩ := this
  have he := o.even _ _ h3 h4
  have hr := o.room _ _ h3
  unfold Hp.rd
  rw [show (a + i) / 64 = a / 64 by omega, h3, show (a + i) % 64 = a % 64 + i by omega]
  exact ⟨_, by simp only [Option.bind_some]; exact List.getElem?_eq_getElem (by omega)⟩

theorem Hp.pairOf_lt {M : Hp} {x a : Nat} (h : M.pairOf x = some a) : a < 65536 := by
  obtain ⟨_, h2⟩ := Hp.pairOf_some h
  rcases h2 with h2 | ⟨_, h2⟩
  · obtain ⟨h1, _, rfl, _⟩ := Hp.atOf_some h2; exact addrOk_lt h1
  · obtain ⟨h1, _, rfl, _⟩ := Hp.atOf_some h2; exact addrOk_lt h1

set_option maxHeartbeats 1000000 in
theorem hpair_hit {hb : HB} {M : Hp} {w : World} (r : Rep hb M w) (x : Nat) (hx : x < 18446744073709551616) {a : Nat} (h : M.pairOf x = some a) :
    Calls Try.prog 87 #[.pointer (some ⟨hb.h, 0, none⟩), .int .u64 x] w fun e w' => e = .returned (.tuple #[.int .i64 a, .bool true]) ∧ Below w.heap.size w w' := by
  obtain ⟨h1, h2⟩ := Hp.pairOf_some h
  have he : ((a : Int) % 2 == 0) = true := by rw [beq_iff_eq]; omega
  rcases h2 with h2 | ⟨h2, h3⟩
  · have hA := hat_hit r x hx 1 0 1 0 rfl rfl h2
    clear h h2 r h1
    go_enter Try.func87, Try.ntmps87
    go_wp2_with fail
    refine hA.mono ?_
    rintro e w1 ⟨rfl, b1⟩
    clear hA
    go_wp2_with fail
    go_ret2
    exact ⟨by simp, b1⟩
  · have hA := hat_miss r x hx 1 0 1 0 rfl rfl h2
    clear h h2 h1
    go_enter Try.func87, Try.ntmps87
    go_wp2_with fail
    refine hA.mono ?_
    rintro e w1 ⟨q, rfl, b1⟩
    have hB := hat_hit (r.below b1) x hx 2 1 2 1 rfl rfl h3
    clear hA r
    go_wp2_with fail
    refine hB.mono ?_
    rintro e w2 ⟨rfl, b2⟩
    clear hB
    go_wp2_with fail
    go_ret2
    exact ⟨by simp, b1.trans (b2.mono b1.size)⟩

set_option maxHeartbeats 1000000 in
theorem hpair_miss {hb : HB} {M : Hp} {w : World} (r : Rep hb M w) (x : Nat) (hx : x < 18446744073709551616) (h : M.pairOf x = none) :
    Calls Try.prog 87 #[.pointer (some ⟨hb.h, 0, none⟩), .int .u64 x] w (RetNo w) := by
  rcases Hp.pairOf_none h with ⟨a, h1, h2⟩ | ⟨h1, a, h2, h3⟩ | ⟨h1, h2⟩
  · have he : ((a : Int) % 2 == 0) = false := by rw [beq_eq_false_iff_ne]; omega
    have hA := hat_hit r x hx 1 0 1 0 rfl rfl h1
    clear h h2 r h1
    go_enter Try.func87, Try.ntmps87
    go_wp2_with fail
    refine hA.mono ?_
    rintro e w1 ⟨rfl, b1⟩
    clear hA
    go_wp2_with fail
    go_ret2
    exact .mk a (by simp) b1
  · have he : ((a : Int) % 2 == 0) = false := by rw [beq_eq_false_iff_ne]; omega
    have hA := hat_miss r x hx 1 0 1 0 rfl rfl h1
    clear h h1 h3
    go_enter Try.func87, Try.ntmps87
    go_wp2_with fail
    refine hA.mono ?_
    rintro e w1 ⟨q, rfl, b1⟩
    have hB := hat_hit (r.below b1) x hx 2 1 2 1 rfl rfl h2
    clear hA r
    go_wp2_with fail
    refine hB.mono ?_
    rintro e w2 ⟨rfl, b2⟩
    clear hB
    go_wp2_with fail
    go_ret2
    exact .mk a (by simp) (b1.trans (b2.mono b1.size))
  · have hA := hat_miss r x hx 1 0 1 0 rfl rfl h1
    clear h h1
    go_enter Try.func87, Try.ntmps87
    go_wp2_with fail
    refine hA.mono ?_
    rintro e w1 ⟨q, rfl, b1⟩
    have hB := hat_miss (r.below b1) x hx 2 1 2 1 rfl rfl h2
    clear hA r
    go_wp2_with fail
    refine hB.mono ?_
    rintro e w2 ⟨q2, rfl, b2⟩
    clear hB
    go_wp2_with fail
    go_ret2
    exact .mk q2 (by simp) (b1.trans (b2.mono b1.size))

set_option maxHeartbeats 400000 in
theorem isPair_any {hb : HB} {M : Hp} {w : World} (r : Rep hb M w) (x : Nat) (hx : x < 18446744073709551616) :
    Calls Try.prog 52 #[.pointer (some ⟨hb.h, 0, none⟩), .int .u64 x] w fun e w' => e = .returned (.bool (M.pairOf x).isSome) ∧ Below w.heap.size w w' := by
  cases h : M.pairOf x with
  | some a =>
    have hA := hpair_hit r x hx h
    clear r h
    go_enter Try.func52, Try.ntmps52
    go_wp2_with fail
    refine hA.mono ?_
    rintro e w1 ⟨rfl, b1⟩
    clear hA
    go_wp2_with fail
    go_ret
    exact ⟨rfl, b1⟩
  | none =>
    have hA := hpair_miss r x hx h
    clear r h
    go_enter Try.func52, Try.ntmps52
    go_wp2_with fail
    refine hA.mono ?_
    rintro e w1 ⟨q, rfl, b1⟩
    clear hA
    go_wp2_with fail
    go_ret
    exact ⟨rfl, b1⟩

def Hp.half (M : Hp) (x i : Nat) : Option Nat := (M.pairOf x).bind fun a => M.rd (a + i)

set_option maxHeartbeats 400000 in
theorem half_ok {hb : HB} {M : Hp} {w : World} (r : Rep hb M w) (x : Nat) (hx : x < 18446744073709551616) (I : Int) (i : Nat) (hI : I = i) (hi : i < 2) {v : Nat} (h : M.half x i = some v) :
    Calls Try.prog 75 #[.pointer (some ⟨hb.h, 0, none⟩), .int .u64 x, .int .i64 I] w fun e w' => e = .returned (.tuple #[.int .u64 v, .int .i64 0]) ∧ Below w.heap.size w w' := by
  unfold Hp.half at h
  cases hp : M.pairOf x with
  | none => rw [hp] at h; cases h
  | some a =>
    rw [hp] at h
    simp only [Option.bind_some] at h
    subst hI
    have ha := Hp.pairOf_lt hp
    have hA := hpair_hit r x hx hp
    clear hp
    go_enter Try.func75, Try.ntmps75
    go_wp2_with fail
    refine hA.mono ?_
    rintro e w1 ⟨rfl, b1⟩
    have r1 := r.below b1
    have hB := read_yes r1 ((a : Int) + (i : Int)) (v := v) (by omega) (by rw [show ((a : Int) + (i : Int)).toNat = a + i by omega]; exact h)
    have c1 := r1.h0
    have c2 := r1.c0
    have c3 := r1.s0
    clear hA r r1 h
    go_wp2_with fail
    refine hB.mono ?_
    rintro e w2 ⟨rfl, rfl⟩
    clear hB
    go_wp2_with fail
    go_ret2
    exact ⟨by simp, b1⟩

set_option maxHeartbeats 400000 in
theorem half_no {hb : HB} {M : Hp} {w : World} (r : Rep hb M w) (x : Nat) (hx : x < 18446744073709551616) (I : Int) (h : M.pairOf x = none) :
    Calls Try.prog 75 #[.pointer (some ⟨hb.h, 0, none⟩), .int .u64 x, .int .i64 I] w fun e w' => e = .returned (.tuple #[.int .u64 0, .int .i64 3]) ∧ Below w.heap.size w w' := by
  have hA := hpair_miss r x hx h
  clear r h
  go_enter Try.func75, Try.ntmps75
  go_wp2_with fail
  refine hA.mono ?_
  rintro e w1 ⟨q, rfl, b1⟩
  clear hA
  go_wp2_with fail
  go_ret2
  exact ⟨by simp, b1⟩

theorem Hp.half_none {M : Hp} (o : M.Ok) {x i : Nat} (hi : i < 2) (h : M.half x i = none) : M.pairOf x = none := by
  unfold Hp.half at h
  cases hp : M.pairOf x with
  | none => rfl
  | some a =>
    rw [hp] at h
    obtain ⟨v, hv⟩ := Hp.pairOf_rd o hp i hi
    simp only [Option.bind_some] at h
    rw [hv] at h; cases h

set_option maxHeartbeats 400000 in
theorem car_ok {hb : HB} {M : Hp} {w : World} (r : Rep hb M w) (x : Nat) (hx : x < 18446744073709551616) {v : Nat} (h : M.half x 0 = some v) :
    Calls Try.prog 36 #[.pointer (some ⟨hb.h, 0, none⟩), .int .u64 x] w fun e w' => e = .returned (.tuple #[.int .u64 v, .int .i64 0]) ∧ Below w.heap.size w w' := by
  have hA := half_ok r x hx 0 0 rfl (by omega) h
  clear r h
  go_enter Try.func36, Try.ntmps36
  go_wp2_with fail
  refine hA.mono ?_
  rintro e w1 ⟨rfl, b1⟩
  clear hA
  go_wp2_with fail
  go_ret2
  exact ⟨by simp, b1⟩

set_option maxHeartbeats 400000 in
theorem car_no {hb : HB} {M : Hp} {w : World} (r : Rep hb M w) (x : Nat) (hx : x < 18446744073709551616) (h : M.pairOf x = none) :
    Calls Try.prog 36 #[.pointer (some ⟨hb.h, 0, none⟩), .int .u64 x] w fun e w' => e = .returned (.tuple #[.int .u64 0, .int .i64 3]) ∧ Below w.heap.size w w' := by
  have hA := half_no r x hx 0 h
  clear r h
  go_enter Try.func36, Try.ntmps36
  go_wp2_with fail
  refine hA.mono ?_
  rintro e w1 ⟨rfl, b1⟩
  clear hA
  go_wp2_with fail
  go_ret2
  exact ⟨by simp, b1⟩

set_option maxHeartbeats 400000 in
theorem cdr_ok {hb : HB} {M : Hp} {w : World} (r : Rep hb M w) (x : Nat) (hx : x < 18446744073709551616) {v : Nat} (h : M.half x 1 = some v) :
    Calls Try.prog 37 #[.pointer (some ⟨hb.h, 0, none⟩), .int .u64 x] w fun e w' => e = .returned (.tuple #[.int .u64 v, .int .i64 0]) ∧ Below w.heap.size w w' := by
  have hA := half_ok r x hx 1 1 rfl (by omega) h
  clear r h
  go_enter Try.func37, Try.ntmps37
  go_wp2_with fail
  refine hA.mono ?_
  rintro e w1 ⟨rfl, b1⟩
  clear hA
  go_wp2_with fail
  go_ret2
  exact ⟨by simp, b1⟩

set_option maxHeartbeats 400000 in
theorem cdr_no {hb : HB} {M : Hp} {w : World} (r : Rep hb M w) (x : Nat) (hx : x < 18446744073709551616) (h : M.pairOf x = none) :
    Calls Try.prog 37 #[.pointer (some ⟨hb.h, 0, none⟩), .int .u64 x] w fun e w' => e = .returned (.tuple #[.int .u64 0, .int .i64 3]) ∧ Below w.heap.size w w' := by
  have hA := half_no r x hx 1 h
  clear r h
  go_enter Try.func37, Try.ntmps37
  go_wp2_with fail
  refine hA.mono ?_
  rintro e w1 ⟨rfl, b1⟩
  clear hA
  go_wp2_with fail
  go_ret2
  exact ⟨by simp, b1⟩
end Go.Proofs.Ytecemlamoiepdaa
