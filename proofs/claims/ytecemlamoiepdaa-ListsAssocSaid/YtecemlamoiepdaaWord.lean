/- The words of the heap, as plain numbers, and the contracts of the functions of package word: what each Go function returns, in any world; it leaves the world alone, or lays boxes of its own behind it. No conditions but the kinds of the arguments. -/
import Derived.Test.YtecemlamoiepdaaChecked
import Derived.WalkKit
import Derived.BigQuiet
import Derived.Deep.QuietTactic
import Derived.Lib.Hide
namespace Go.Proofs.Ytecemlamoiepdaa
open Go.RowKit

/-! ### plain numbers -/
def B64 : Nat := 18446744073709551616
def tagOf (x : Nat) : Nat := x % 8
def lowOf (x : Nat) : Nat := x / 8 % 32
def nextOf (x : Nat) : Nat := x / 256 % 256
def highOf (x : Nat) : Nat := x / 65536 % 281474976710656
def letterOf (c : Nat) : Bool := decide (c ≤ 1114111) && (decide (c < 55296) || decide (57343 < c))
def placeOf (t : Nat) : Bool := (decide (1 ≤ t) && decide (t ≤ 3)) || decide (t = 6)
def mayOf (x : Nat) : Bool :=
  if tagOf x = 0 then true
  else if tagOf x = 1 ∨ tagOf x = 2 ∨ tagOf x = 3 ∨ tagOf x = 6 then decide (x / 8 < 65536)
  else if tagOf x = 4 then (if lowOf x = 7 then letterOf (x / 256) else decide (x / 8 ≤ 6))
  else if tagOf x = 5 then decide (1 ≤ lowOf x) && decide (lowOf x ≤ 13) && decide (nextOf x ≤ 62)
  else false

theorem u64_and (a : Nat) (i : Nat) (hi : i ≤ 64) (ha : a < 18446744073709551616) : bits .and .u64 (a : Int) (2 ^ i - 1) = ((a % 2 ^ i : Nat) : Int) := by
  have h := bits_mask .u64 64 (by decide) (fun n h0 h1 => by rw [IntKind.wrap_u64]; omega) i hi (a : Int) (by omega) (by omega)
  rw [h]; simp

theorem u64_or (x y : Nat) (i : Nat) (hx : x % 2 ^ i = 0) (hx1 : x < 18446744073709551616) (hy : y < 2 ^ i) (hy1 : y < 18446744073709551616) : bits .or .u64 (x : Int) (y : Int) = ((x + y : Nat) : Int) := by
  have hz : (x : Int) % 2 ^ i = 0 := by
    have h0 : ((x % 2 ^ i : Nat) : Int) = 0 := by rw [hx]; rfl
    simpa using h0
  have h := bits_join .u64 64 (by decide) (fun n h0 h1 => by rw [IntKind.wrap_u64]; omega) i (x : Int) (y : Int) (by omega) hz (by omega) (by omega) (by exact_mod_cast hy) (by omega)
  rw [h]; simp

theorem bdn {B n : Nat} {a w : World} (h : Below B a w) : Below B a (w.drewN n) := ⟨h.os, h.tape, h.output, h.size, h.block⟩

theorem ret_i {k : IntKind} {a b : Int} (h : a = b) : Ending.returned (.int k a) = .returned (.int k b) := by rw [h]

theorem bcell {W w1 : World} (hb : Below W.heap.size W w1) : (∀ b o, b < W.heap.size → w1.cell? ⟨b, o, none⟩ = W.cell? ⟨b, o, none⟩) ∧ (∀ b o, b < W.heap.size → w1.frozen? ⟨b, o, none⟩ = W.frozen? ⟨b, o, none⟩) :=
  ⟨fun b o h => hb.cell (p := ⟨b, o, none⟩) h, fun b o h => hb.frozen (p := ⟨b, o, none⟩) h⟩

theorem pow_le48 (n : Nat) (hn : n ≤ 48) : 1 ≤ (2 : Int) ^ n ∧ (2 : Int) ^ n ≤ 281474976710656 := by
  have h1 : (2 : Nat) ^ n ≤ 2 ^ 48 := Nat.pow_le_pow_right (by omega) hn
  have h2 : 1 ≤ (2 : Nat) ^ n := Nat.one_le_two_pow
  have h3 : ((2 ^ n : Nat) : Int) = (2 : Int) ^ n := by push_cast; rfl
  rw [← h3]
  exact ⟨by omega, by have : (2 : Nat) ^ 48 = 281474976710656 := by decide
                      omega⟩

theorem mask48 (n : Nat) (hn : n ≤ 48) : IntKind.u64.wrap (IntKind.u64.wrap (2 ^ n) - 1) = 2 ^ n - 1 := by
  obtain ⟨h1, h2⟩ := pow_le48 n hn
  generalize (2 : Int) ^ n = p at *
  rw [IntKind.wrap_u64, IntKind.wrap_u64]
  omega

/-! ### the contracts -/
set_option maxHeartbeats 400000 in
theorem tag_any (x : Nat) (hx : x < 18446744073709551616) (w : World) :
    Calls Try.prog 106 #[.int .u64 x] w fun e w' => e = .returned (.int .i64 (tagOf x : Nat)) ∧ w' = w := by
  have H := Lib.hid (u64_and x 3 (by omega) hx)
  go_enter Try.func106, Try.ntmps106
  go_wp2
  go_ret
  refine ⟨ret_i ?_, rfl⟩
  refine (congrArg wrap64 H.out).trans ?_
  unfold tagOf wrap64
  simp only [Nat.reducePow]
  omega

set_option maxHeartbeats 400000 in
theorem parts1_any (x b : Nat) (F N : Int) (f n : Nat) (hF : F = f) (hN : N = n) (hf : f ≤ 16) (hn : n ≤ 48) (hn1 : 1 ≤ n) (hx : x < 18446744073709551616) (w : World) (hb : w.cell? ⟨b, 0, none⟩ = some (.int .u64 x)) :
    Calls Try.prog 154 #[.int .i64 F, .int .i64 N, .pointer (some ⟨b, 0, none⟩)] w fun e w' => e = .returned (.int .u64 (x / 2 ^ f % 2 ^ n : Nat)) ∧ ∃ k, w' = w.drewN k := by
  subst hF hN
  go_enter Try.func154, Try.ntmps154
  go_wp2
  go_quiet (fail)
  go_wp2
  go_ret
  refine ⟨ret_i ?_, _, rfl⟩
  rw [mask48 n hn]
  have hy : ((x / 2 ^ f : Nat) : Int) = (x : Int) / 2 ^ f := by push_cast; rfl
  rw [← hy]
  exact u64_and (x / 2 ^ f) n (by omega) (Nat.lt_of_le_of_lt (Nat.div_le_self _ _) hx)

set_option maxHeartbeats 400000 in
theorem parts_any (x : Nat) (hx : x < 18446744073709551616) (w : World) :
    Calls Try.prog 143 #[.int .u64 x] w fun e w' => e = .returned (.tuple #[.int .i64 (lowOf x : Nat), .int .i64 (nextOf x : Nat), .int .u64 (highOf x : Nat)]) ∧ Below w.heap.size w w' := by
  have hb := World.cell?_alloc_new (w := w) #[.int .u64 x] 29 0
  go_enter Try.func143, Try.ntmps143
  go_wp2_with fail
  refine (parts1_any x w.heap.size 3 5 3 5 rfl rfl (by omega) (by omega) (by omega) hx _ (by exact hb)).mono ?_
  rintro e w1 ⟨rfl, k1, rfl⟩
  go_wp2_with fail
  refine (parts1_any x w.heap.size 8 8 8 8 rfl rfl (by omega) (by omega) (by omega) hx _ (by exact hb)).mono ?_
  rintro e w1 ⟨rfl, k2, rfl⟩
  go_wp2_with fail
  refine (parts1_any x w.heap.size 16 48 16 48 rfl rfl (by omega) (by omega) (by omega) hx _ (by exact hb)).mono ?_
  rintro e w1 ⟨rfl, k3, rfl⟩
  go_wp2_with fail
  go_ret3
  exact ⟨by simp [lowOf, nextOf, highOf], bdn ((Below.refl _ _).alloc (Nat.le_refl _) _)⟩

theorem tag_eq (x t : Nat) (T : Int) (hT : T = t) (h : tagOf x = t) (hx : x < 18446744073709551616) (w : World) :
    Calls Try.prog 106 #[.int .u64 x] w fun e w' => e = .returned (.int .i64 T) ∧ w' = w := by
  subst hT h
  exact tag_any x hx w

theorem ret_b {a b : Bool} (h : a = b) : Ending.returned (.bool a) = .returned (.bool b) := by rw [h]

set_option maxRecDepth 10000 in
set_option maxHeartbeats 400000 in
theorem letter_any (c : Nat) (w : World) (hc : c < 18446744073709551616) :
    Calls Try.prog 150 #[.int .u64 c] w fun e w' => e = .returned (.bool (letterOf c)) ∧ w' = w := by
  go_enter Try.func150, Try.ntmps150
  go_wp2
  all_goals
    go_ret
    refine ⟨ret_b ?_, rfl⟩
    rw [Bool.eq_iff_iff]
    simp only [letterOf, Bool.and_eq_true, Bool.or_eq_true, decide_eq_true_eq, Bool.false_eq_true, false_iff, true_iff]
    omega

set_option maxHeartbeats 400000 in
theorem place_any (t : Nat) (w : World) (ht : t < 8) :
    Calls Try.prog 132 #[.int .i64 t] w fun e w' => e = .returned (.bool (placeOf t)) ∧ w' = w := by
  go_enter Try.func132, Try.ntmps132
  go_wp2
  all_goals
    go_ret
    refine ⟨ret_b ?_, rfl⟩
    rw [Bool.eq_iff_iff]
    simp only [placeOf, Bool.and_eq_true, Bool.or_eq_true, decide_eq_true_eq, true_iff, beq_iff_eq]
    omega

theorem tag_lt (x : Nat) : tagOf x < 8 := Nat.mod_lt _ (by omega)

theorem may0 {x : Nat} (h : tagOf x = 0) : mayOf x = true := by unfold mayOf; rw [if_pos h]
theorem mayA {x : Nat} (h : tagOf x = 1 ∨ tagOf x = 2 ∨ tagOf x = 3 ∨ tagOf x = 6) : mayOf x = decide (x / 8 < 65536) := by
  unfold mayOf; rw [if_neg (by omega), if_pos h]
theorem may4 {x : Nat} (h : tagOf x = 4) : mayOf x = (if lowOf x = 7 then letterOf (x / 256) else decide (x / 8 ≤ 6)) := by
  unfold mayOf; rw [if_neg (by omega), if_neg (by omega), if_pos h]
theorem may5 {x : Nat} (h : tagOf x = 5) : mayOf x = (decide (1 ≤ lowOf x) && decide (lowOf x ≤ 13) && decide (nextOf x ≤ 62)) := by
  unfold mayOf; rw [if_neg (by omega), if_neg (by omega), if_neg (by omega), if_pos h]
theorem may7 {x : Nat} (h : tagOf x = 7) : mayOf x = false := by
  unfold mayOf; rw [if_neg (by omega), if_neg (by omega), if_neg (by omega), if_neg (by omega)]

set_option maxRecDepth 10000 in
set_option maxHeartbeats 1000000 in
theorem may_any (x : Nat) (hx : x < 18446744073709551616) (w : World) :
    Calls Try.prog 133 #[.int .u64 x] w fun e w' => e = .returned (.bool (mayOf x)) ∧ Below w.heap.size w w' := by
  have ht := tag_lt x
  obtain h | h | h | h | h | h | h | h : tagOf x = 0 ∨ tagOf x = 1 ∨ tagOf x = 2 ∨ tagOf x = 3 ∨ tagOf x = 4 ∨ tagOf x = 5 ∨ tagOf x = 6 ∨ tagOf x = 7 := by omega
  all_goals
    have H := Lib.hid h
    have Ht := Lib.hid (tag_eq x _ _ rfl h hx)
    clear h ht
    go_enter Try.func133, Try.ntmps133
    go_wp2_with (first | (go_at_call 143; refine (parts_any x hx _).mono ?_; rintro e w1 ⟨rfl, hb1⟩) | (go_at_call 106; refine (Ht.out _).mono ?_; rintro e w2 ⟨rfl, rfl⟩))
    all_goals
      try (refine (letter_any (x / 256) _ (by omega)).mono ?_; rintro e w2 ⟨rfl, rfl⟩; go_wp2)
    all_goals
      go_ret
      refine ⟨ret_b ?_, by assumption⟩
      rw [Bool.eq_iff_iff]
      first
        | rw [may0 H.out]
        | rw [may7 H.out]
        | (rw [mayA (by have := H.out; omega)]; simp only [decide_eq_true_eq]; omega)
        | (rw [may5 H.out]; simp only [Bool.and_eq_true, decide_eq_true_eq, Bool.false_eq_true, false_iff]; omega)
        | (rw [may4 H.out, if_pos (by simp_all; omega)])
        | (rw [may4 H.out, if_neg (by simp_all; omega)]; simp only [decide_eq_true_eq]; omega)

/-! ### addresses, headers, numbers -/
def addrOk (x : Nat) : Bool := placeOf (tagOf x) && mayOf x
theorem addrOk_lt {x : Nat} (h : addrOk x = true) : x / 8 < 65536 := by
  unfold addrOk placeOf at h
  simp only [Bool.and_eq_true, Bool.or_eq_true, decide_eq_true_eq] at h
  have h2 := h.2
  rw [mayA (by omega)] at h2
  exact of_decide_eq_true h2

set_option maxRecDepth 10000 in
set_option maxHeartbeats 400000 in
theorem addr_yes (x : Nat) (hx : x < 18446744073709551616) (h : addrOk x = true) (w : World) :
    Calls Try.prog 104 #[.int .u64 x] w fun e w' => e = .returned (.tuple #[.int .i64 (x / 8 : Nat), .bool true]) ∧ Below w.heap.size w w' := by
  have hlt := addrOk_lt h
  unfold addrOk at h
  simp only [Bool.and_eq_true] at h
  obtain ⟨h1, h2⟩ := h
  have hp := place_any (tagOf x) w (tag_lt x)
  have hm := may_any x hx w
  rw [h1] at hp
  rw [h2] at hm
  clear h1 h2
  go_enter Try.func104, Try.ntmps104
  go_wp2_with (first | (go_at_call 106; refine (tag_any x hx _).mono ?_; rintro e w2 ⟨rfl, rfl⟩) | (go_at_call 132; refine hp.mono ?_; rintro e w2 ⟨rfl, rfl⟩) | (go_at_call 133; refine hm.mono ?_; rintro e w1 ⟨rfl, hb1⟩))
  go_ret2
  exact ⟨by simp, by assumption⟩

set_option maxRecDepth 10000 in
set_option maxHeartbeats 400000 in
theorem addr_no (x : Nat) (hx : x < 18446744073709551616) (h : addrOk x = false) (w : World) :
    Calls Try.prog 104 #[.int .u64 x] w fun e w' => e = .returned (.tuple #[.int .i64 0, .bool false]) ∧ Below w.heap.size w w' := by
  unfold addrOk at h
  have hp := place_any (tagOf x) w (tag_lt x)
  have hm := may_any x hx w
  cases h1 : placeOf (tagOf x) with
  | false =>
    rw [h1] at hp
    clear h h1
    go_enter Try.func104, Try.ntmps104
    go_wp2_with (first | (go_at_call 106; refine (tag_any x hx _).mono ?_; rintro e w2 ⟨rfl, rfl⟩) | (go_at_call 132; refine hp.mono ?_; rintro e w2 ⟨rfl, rfl⟩))
    go_ret2
    exact ⟨by simp, Below.refl _ _⟩
  | true =>
    rw [h1] at hp
    rw [h1, Bool.true_and] at h
    rw [h] at hm
    clear h h1
    go_enter Try.func104, Try.ntmps104
    go_wp2_with (first | (go_at_call 106; refine (tag_any x hx _).mono ?_; rintro e w2 ⟨rfl, rfl⟩) | (go_at_call 132; refine hp.mono ?_; rintro e w2 ⟨rfl, rfl⟩) | (go_at_call 133; refine hm.mono ?_; rintro e w1 ⟨rfl, hb1⟩))
    go_ret2
    exact ⟨by simp, by assumption⟩

def headOk (x : Nat) : Bool := decide (tagOf x = 5) && mayOf x
theorem headOk_iff {x : Nat} : headOk x = true ↔ tagOf x = 5 ∧ 1 ≤ lowOf x ∧ lowOf x ≤ 13 ∧ nextOf x ≤ 62 := by
  unfold headOk
  simp only [Bool.and_eq_true, decide_eq_true_eq]
  constructor
  · rintro ⟨h, h2⟩
    rw [may5 h] at h2
    simp only [Bool.and_eq_true, decide_eq_true_eq] at h2
    exact ⟨h, h2.1.1, h2.1.2, h2.2⟩
  · rintro ⟨h, h2, h3, h4⟩
    refine ⟨h, ?_⟩
    rw [may5 h]
    simp only [Bool.and_eq_true, decide_eq_true_eq]
    exact ⟨⟨h2, h3⟩, h4⟩

set_option maxRecDepth 10000 in
set_option maxHeartbeats 400000 in
theorem head_yes (x : Nat) (hx : x < 18446744073709551616) (h : headOk x = true) (w : World) :
    Calls Try.prog 117 #[.int .u64 x] w fun e w' => e = .returned (.tuple #[.int .i64 (lowOf x : Nat), .int .i64 (nextOf x : Nat), .int .u64 (highOf x : Nat), .bool true]) ∧ Below w.heap.size w w' := by
  unfold headOk at h
  simp only [Bool.and_eq_true, decide_eq_true_eq] at h
  obtain ⟨h1, h2⟩ := h
  have ht := tag_eq x 5 5 rfl h1 hx w
  have hm := may_any x hx w
  rw [h2] at hm
  clear h1 h2
  go_enter Try.func117, Try.ntmps117
  go_wp2_with (first | (go_at_call 106; refine ht.mono ?_; rintro e w2 ⟨rfl, rfl⟩) | (go_at_call 133; refine hm.mono ?_; rintro e w1 ⟨rfl, hb1⟩) | (go_at_call 143; refine (parts_any x hx _).mono ?_; rintro e w3 ⟨rfl, hb3⟩))
  refine bodyPost_ret (v := .tuple #[.int .i64 (lowOf x : Nat), .int .i64 (nextOf x : Nat), .int .u64 (highOf x : Nat), .bool true]) (by simp [results, Try.results117, go_sem]) rfl ⟨rfl, ?_⟩
  exact hb1.trans (hb3.mono hb1.size)

set_option maxRecDepth 10000 in
set_option maxHeartbeats 400000 in
theorem head_no (x : Nat) (hx : x < 18446744073709551616) (h : headOk x = false) (w : World) :
    Calls Try.prog 117 #[.int .u64 x] w fun e w' => e = .returned (.tuple #[.int .i64 0, .int .i64 0, .int .u64 0, .bool false]) ∧ Below w.heap.size w w' := by
  unfold headOk at h
  have hm := may_any x hx w
  by_cases h1 : tagOf x = 5
  · have ht := tag_eq x 5 5 rfl h1 hx w
    rw [decide_eq_true h1, Bool.true_and] at h
    rw [h] at hm
    clear h h1
    go_enter Try.func117, Try.ntmps117
    go_wp2_with (first | (go_at_call 106; refine ht.mono ?_; rintro e w2 ⟨rfl, rfl⟩) | (go_at_call 133; refine hm.mono ?_; rintro e w1 ⟨rfl, hb1⟩))
    exact bodyPost_ret (v := .tuple #[.int .i64 0, .int .i64 0, .int .u64 0, .bool false]) (by simp [results, Try.results117, go_sem]) rfl ⟨rfl, by assumption⟩
  · have h5 : (((tagOf x : Nat) : Int) != 5) = true := by rw [bne_iff_ne]; omega
    clear h h1 hm
    go_enter Try.func117, Try.ntmps117
    go_wp2_with (go_at_call 106; refine (tag_any x hx _).mono ?_; rintro e w2 ⟨rfl, rfl⟩)
    exact bodyPost_ret (v := .tuple #[.int .i64 0, .int .i64 0, .int .u64 0, .bool false]) (by simp [results, Try.results117, go_sem]) rfl ⟨rfl, Below.refl _ _⟩

def headerOf (kind n more : Nat) : Nat := more * 65536 + n * 256 + kind * 8 + 5

theorem u64_orI (x y : Int) (i : Nat) (hx0 : 0 ≤ x) (hx : x % 2 ^ i = 0) (hx1 : x < 18446744073709551616) (hy0 : 0 ≤ y) (hy : y < 2 ^ i) (hy1 : y < 18446744073709551616) : bits .or .u64 x y = x + y :=
  bits_join .u64 64 (by decide) (fun n h0 h1 => by rw [IntKind.wrap_u64]; omega) i x y hx0 hx (by omega) hy0 hy (by omega)

theorem header_bits (k n m : Nat) (h2 : k ≤ 13) (h3 : n ≤ 62) (h4 : m < 281474976710656) :
    bits .or .u64 (bits .or .u64 (bits .or .u64 ((m : Int) * 65536) ((n : Int) * 256)) ((k : Int) * 8)) 5 = ((headerOf k n m : Nat) : Int) := by
  rw [u64_orI ((m : Int) * 65536) ((n : Int) * 256) 16 (by omega) (by omega) (by omega) (by omega) (by omega) (by omega),
    u64_orI ((m : Int) * 65536 + (n : Int) * 256) ((k : Int) * 8) 8 (by omega) (by omega) (by omega) (by omega) (by omega) (by omega),
    u64_orI ((m : Int) * 65536 + (n : Int) * 256 + (k : Int) * 8) 5 3 (by omega) (by omega) (by omega) (by omega) (by omega) (by omega)]
  unfold headerOf; omega

set_option maxRecDepth 10000 in
set_option maxHeartbeats 400000 in
theorem header_ok (k n m : Nat) (h1 : 1 ≤ k) (h2 : k ≤ 13) (h3 : n ≤ 62) (h4 : m < 281474976710656) (w : World) :
    Calls Try.prog 70 #[.int .i64 k, .int .i64 n, .int .u64 m] w fun e w' => e = .returned (.tuple #[.int .u64 (headerOf k n m : Nat), .int .i64 0]) ∧ w' = w := by
  have E := header_bits k n m h2 h3 h4
  have HE := Lib.hid E
  clear E
  go_enter Try.func70, Try.ntmps70
  go_wp2
  all_goals
    go_ret2
    refine ⟨?_, rfl⟩
    first
      | (simp only [Array.getD, List.size_toArray, List.length_cons, List.length_nil]; simp [HE.out])
end Go.Proofs.Ytecemlamoiepdaa
