/- More contracts of the functions of package word: Header refused, At, Int, Fix. -/
import Derived.Test.YtecemlamoiepdaaWord
namespace Go.Proofs.Ytecemlamoiepdaa
open Go.RowKit

set_option maxRecDepth 10000 in
set_option maxHeartbeats 400000 in
theorem header_bad (k n : Int) (m : Nat) (h : k < 1 ∨ 13 < k ∨ n < 0 ∨ 62 < n ∨ 281474976710656 ≤ m) (hm : m < 18446744073709551616) (w : World) :
    Calls Try.prog 70 #[.int .i64 k, .int .i64 n, .int .u64 m] w fun e w' => e = .returned (.tuple #[.int .u64 0, .int .i64 1]) ∧ w' = w := by
  by_cases c1 : k < 1
  · go_enter Try.func70, Try.ntmps70
    go_wp2
    all_goals
      go_ret2
      exact ⟨by simp, rfl⟩
  · by_cases c2 : 13 < k
    · go_enter Try.func70, Try.ntmps70
      go_wp2
      go_ret2
      exact ⟨by simp, rfl⟩
    · by_cases c3 : n < 0
      · go_enter Try.func70, Try.ntmps70
        go_wp2
        go_ret2
        exact ⟨by simp, rfl⟩
      · by_cases c4 : 62 < n
        · go_enter Try.func70, Try.ntmps70
          go_wp2
          go_ret2
          exact ⟨by simp, rfl⟩
        · obtain ⟨M, hM⟩ : ∃ M : Int, M = m := ⟨_, rfl⟩
          have c5 : 281474976710656 ≤ M := by omega
          have c6 : M < 18446744073709551616 := by omega
          rw [← hM]
          clear h hm hM
          go_enter Try.func70, Try.ntmps70
          go_wp2
          all_goals
            go_ret2
            exact ⟨by simp, rfl⟩

set_option maxRecDepth 10000 in
set_option maxHeartbeats 400000 in
theorem at_ok (t a : Nat) (h1 : 1 ≤ t) (h2 : t ≤ 3) (ha : a < 65536) (w : World) :
    Calls Try.prog 113 #[.int .i64 t, .int .i64 a] w fun e w' => e = .returned (.tuple #[.int .u64 (a * 8 + t : Nat), .int .i64 0]) ∧ w' = w := by
  have hp := place_any t w (by omega)
  rw [show placeOf t = true by unfold placeOf; simp; omega] at hp
  have HE := Lib.hid (u64_orI ((a : Int) * 8) (t : Int) 3 (by omega) (by omega) (by omega) (by omega) (by omega) (by omega))
  go_enter Try.func113, Try.ntmps113
  go_wp2_with (go_at_call 132; refine hp.mono ?_; rintro e w2 ⟨rfl, rfl⟩)
  all_goals
    go_ret2
    exact ⟨by simp [HE.out], rfl⟩

/-- a fixnum's number -/
def numOf (x : Nat) : Int := (if x < 9223372036854775808 then (x : Int) else (x : Int) - 18446744073709551616) / 8

set_option maxRecDepth 10000 in
set_option maxHeartbeats 400000 in
theorem int_yes (x : Nat) (hx : x < 18446744073709551616) (h : tagOf x = 0) (w : World) :
    Calls Try.prog 65 #[.int .u64 x] w fun e w' => e = .returned (.tuple #[.int .i64 (numOf x), .bool true]) ∧ w' = w := by
  have ht := tag_eq x 0 0 rfl h hx w
  have E : wrap64 (x : Int) / 8 = numOf x := by unfold numOf wrap64; split <;> omega
  have HE := Lib.hid E
  clear E h
  go_enter Try.func65, Try.ntmps65
  go_wp2_with (go_at_call 106; refine ht.mono ?_; rintro e w2 ⟨rfl, rfl⟩)
  all_goals
    go_ret2
    exact ⟨by simp [HE.out], rfl⟩

set_option maxRecDepth 10000 in
set_option maxHeartbeats 400000 in
theorem int_no (x : Nat) (hx : x < 18446744073709551616) (h : tagOf x ≠ 0) (w : World) :
    Calls Try.prog 65 #[.int .u64 x] w fun e w' => e = .returned (.tuple #[.int .i64 0, .bool false]) ∧ w' = w := by
  have h5 : (((tagOf x : Nat) : Int) != 0) = true := by rw [bne_iff_ne]; omega
  clear h
  go_enter Try.func65, Try.ntmps65
  go_wp2_with (go_at_call 106; refine (tag_any x hx _).mono ?_; rintro e w2 ⟨rfl, rfl⟩)
  all_goals
    go_ret2
    exact ⟨by simp, rfl⟩

/-- the word of a number -/
def fixOf (n : Int) : Nat := (n * 8 % 18446744073709551616).toNat

set_option maxRecDepth 10000 in
set_option maxHeartbeats 400000 in
theorem fix_yes (n : Int) (h1 : -1152921504606846976 ≤ n) (h2 : n < 1152921504606846976) (w : World) :
    Calls Try.prog 67 #[.int .i64 n] w fun e w' => e = .returned (.tuple #[.int .u64 (fixOf n : Nat), .int .i64 0]) ∧ w' = w := by
  have E : ((fixOf n : Nat) : Int) = n * 8 % 18446744073709551616 := by unfold fixOf; omega
  have HE := Lib.hid E
  clear E
  go_enter Try.func67, Try.ntmps67
  go_wp2
  all_goals
    go_ret2
    refine ⟨?_, rfl⟩
    rw [HE.out]
    simp [IntKind.wrap_u64]

set_option maxRecDepth 10000 in
set_option maxHeartbeats 400000 in
theorem fix_no (n : Int) (h : n < -1152921504606846976 ∨ 1152921504606846976 ≤ n) (w : World) :
    Calls Try.prog 67 #[.int .i64 n] w fun e w' => e = .returned (.tuple #[.int .u64 0, .int .i64 4]) ∧ w' = w := by
  by_cases c1 : n < -1152921504606846976
  · go_enter Try.func67, Try.ntmps67
    go_wp2
    all_goals
      go_ret2
      exact ⟨by simp, rfl⟩
  · go_enter Try.func67, Try.ntmps67
    go_wp2
    all_goals
      go_ret2
      exact ⟨by simp, rfl⟩
end Go.Proofs.Ytecemlamoiepdaa
