/- The contracts of obj's Type, Len, More, field, Get, Set, Size. -/
import Derived.Test.YtecemlamoiepdaaObj
namespace Go.Proofs.Ytecemlamoiepdaa
open Go.RowKit

def Hp.typ (M : Hp) (x : Nat) : Nat := match M.objOf x with | some (_, k, _, _) => k | none => 0
def Hp.len (M : Hp) (x : Nat) : Nat := match M.objOf x with | some (_, _, n, _) => n | none => 0
def Hp.mor (M : Hp) (x : Nat) : Nat := match M.objOf x with | some (_, _, _, m) => m | none => 0

theorem Hp.objIn_some {M : Hp} {x kk a k n m : Nat} (h : M.objIn x kk = some (a, k, n, m)) :
    M.atOf x 3 kk = some a ∧ ∃ s hd, M.segs[a / 64]? = some s ∧ s.words[a % 64]? = some hd ∧ headOk hd = true ∧ rawK k = kk ∧ a % 64 + n < s.words.length ∧ k = lowOf hd ∧ n = nextOf hd ∧ m = highOf hd := by
  unfold Hp.objIn at h
  split at h
  · cases h
  · rename_i b hb
    split at h
    · cases h
    · rename_i s hs
      split at h
      · cases h
      · rename_i hd hhd
        split at h
        · rename_i hc
          cases h
          exact ⟨hb, s, hd, hs, hhd, hc.1, hc.2.1, hc.2.2, rfl, rfl, rfl⟩
        · cases h

theorem Hp.objOf_some {M : Hp} {x a k n m : Nat} (h : M.objOf x = some (a, k, n, m)) :
    M.atOf x 3 (rawK k) = some a ∧ ∃ s hd, M.segs[a / 64]? = some s ∧ s.words[a % 64]? = some hd ∧ headOk hd = true ∧ a % 64 + n < s.words.length ∧ k = lowOf hd ∧ n = nextOf hd ∧ m = highOf hd := by
  have : ∃ kk, M.objIn x kk = some (a, k, n, m) := by
    unfold Hp.objOf at h
    split at h
    · rename_i h1; exact ⟨2, by rw [h1]; exact h⟩
    · exact ⟨3, h⟩
  obtain ⟨kk, h⟩ := this
  obtain ⟨h1, s, hd, h2, h3, h4, rfl, h6, h7⟩ := Hp.objIn_some h
  exact ⟨h1, s, hd, h2, h3, h4, h6, h7⟩

theorem Hp.objOf_lt {M : Hp} {x a k n m : Nat} (h : M.objOf x = some (a, k, n, m)) : a < 65536 ∧ n ≤ 62 ∧ 1 ≤ k ∧ k ≤ 13 ∧ m < 281474976710656 := by
  obtain ⟨h1, s, hd, h2, h3, h4, h5, rfl, rfl, rfl⟩ := Hp.objOf_some h
  obtain ⟨h6, _, rfl, _⟩ := Hp.atOf_some h1
  obtain ⟨_, h7, h8, h9⟩ := headOk_iff.1 h4
  exact ⟨addrOk_lt h6, h9, h7, h8, Nat.mod_lt _ (by omega)⟩

theorem Hp.objOf_rd {M : Hp} (o : M.Ok) {x a k n m : Nat} (h : M.objOf x = some (a, k, n, m)) (i : Nat) (hi : i < n) : ∃ v, M.rd (a + 1 + i) = some v := by
  obtain ⟨h1, s, hd, h2, h3, h4, h5, _⟩ := Hp.objOf_some h
  have hr := o.room _ _ h2
  unfold Hp.rd
  rw [show (a + 1 + i) / 64 = a / 64 by omega, h2, show (a + 1 + i) % 64 = a % 64 + 1 + i by omega]
  exact ⟨_, by simp only [Option.bind_some]; exact List.getElem?_eq_getElem (by omega)⟩

set_option maxHeartbeats 400000 in
theorem type_any {hb : HB} {M : Hp} {w : World} (r : Rep hb M w) (x : Nat) (hx : x < 18446744073709551616) :
    Calls Try.prog 39 #[.pointer (some ⟨hb.h, 0, none⟩), .int .u64 x] w fun e w' => e = .returned (.int .i64 (M.typ x : Nat)) ∧ Below w.heap.size w w' := by
  have hA := object_any r x hx
  unfold Hp.typ
  clear r
  rcases h : M.objOf x with _ | ⟨a, k, n, m⟩
  all_goals
    rw [h] at hA
    unfold objVal at hA
    clear h
    go_enter Try.func39, Try.ntmps39
    go_wp2_with fail
    refine hA.mono ?_
    rintro e w1 ⟨rfl, b1⟩
    clear hA
    go_wp2_with fail
    go_ret
    exact ⟨rfl, b1⟩

set_option maxHeartbeats 400000 in
theorem len_any {hb : HB} {M : Hp} {w : World} (r : Rep hb M w) (x : Nat) (hx : x < 18446744073709551616) :
    Calls Try.prog 40 #[.pointer (some ⟨hb.h, 0, none⟩), .int .u64 x] w fun e w' => e = .returned (.int .i64 (M.len x : Nat)) ∧ Below w.heap.size w w' := by
  have hA := object_any r x hx
  unfold Hp.len
  clear r
  rcases h : M.objOf x with _ | ⟨a, k, n, m⟩
  all_goals
    rw [h] at hA
    unfold objVal at hA
    clear h
    go_enter Try.func40, Try.ntmps40
    go_wp2_with fail
    refine hA.mono ?_
    rintro e w1 ⟨rfl, b1⟩
    clear hA
    go_wp2_with fail
    go_ret
    exact ⟨rfl, b1⟩

/-- an object's i-th word, if it is of that type -/
def Hp.fld (M : Hp) (x k i : Nat) : Option Nat :=
  match M.objOf x with
  | some (a, k', n, _) => if k' = k ∧ i < n then some (a + 1 + i) else none
  | none => none

set_option maxHeartbeats 800000 in
theorem field_ok {hb : HB} {M : Hp} {w : World} (r : Rep hb M w) (x : Nat) (hx : x < 18446744073709551616) (K I : Int) (k i : Nat) (hK : K = k) (hI : I = i) {a : Nat} (h : M.fld x k i = some a) :
    Calls Try.prog 73 #[.pointer (some ⟨hb.h, 0, none⟩), .int .u64 x, .int .i64 K, .int .i64 I] w fun e w' => e = .returned (.tuple #[.int .i64 (a : Nat), .int .i64 0]) ∧ Below w.heap.size w w' := by
  have hA := object_any r x hx
  subst hK hI
  unfold Hp.fld at h
  rcases ho : M.objOf x with _ | ⟨b, k', n, m⟩
  · rw [ho] at h; cases h
  · rw [ho] at h hA
    simp only at h
    split at h
    · rename_i hc
      cases h
      obtain ⟨rfl, hi⟩ := hc
      have hl := Hp.objOf_lt ho
      unfold objVal at hA
      have hlt : ((i : Nat) : Int) < (n : Int) := by omega
      clear r ho
      go_enter Try.func73, Try.ntmps73
      go_wp2_with fail
      refine hA.mono ?_
      rintro e w1 ⟨rfl, b1⟩
      clear hA
      go_wp2_with fail
      all_goals
        go_ret2
        exact ⟨by simp, b1⟩
    · cases h

/-- of another type, or none -/
def Hp.isnt (M : Hp) (x : Nat) (K : Int) : Prop := M.objOf x = none ∨ ((M.typ x : Nat) : Int) ≠ K

set_option maxHeartbeats 800000 in
theorem field_type {hb : HB} {M : Hp} {w : World} (r : Rep hb M w) (x : Nat) (hx : x < 18446744073709551616) (K I : Int) (h : M.isnt x K) :
    Calls Try.prog 73 #[.pointer (some ⟨hb.h, 0, none⟩), .int .u64 x, .int .i64 K, .int .i64 I] w fun e w' => e = .returned (.tuple #[.int .i64 0, .int .i64 3]) ∧ Below w.heap.size w w' := by
  have hA := object_any r x hx
  unfold Hp.isnt Hp.typ at h
  rcases ho : M.objOf x with _ | ⟨b, k', n, m⟩
  · rw [ho] at hA
    unfold objVal at hA
    clear r ho h
    go_enter Try.func73, Try.ntmps73
    go_wp2_with fail
    refine hA.mono ?_
    rintro e w1 ⟨rfl, b1⟩
    clear hA
    go_wp2_with fail
    go_ret2
    exact ⟨by simp, b1⟩
  · rw [ho] at h hA
    have hne : (((k' : Nat) : Int) != K) = true := by
      rw [bne_iff_ne]
      rcases h with h | h
      · cases h
      · exact h
    unfold objVal at hA
    clear r ho h
    go_enter Try.func73, Try.ntmps73
    go_wp2_with fail
    refine hA.mono ?_
    rintro e w1 ⟨rfl, b1⟩
    clear hA
    go_wp2_with fail
    go_ret2
    exact ⟨by simp, b1⟩

set_option maxHeartbeats 800000 in
theorem field_range {hb : HB} {M : Hp} {w : World} (r : Rep hb M w) (x : Nat) (hx : x < 18446744073709551616) (K I : Int) (ho : M.objOf x ≠ none) (hK : ((M.typ x : Nat) : Int) = K) (h : I < 0 ∨ ((M.len x : Nat) : Int) ≤ I) :
    Calls Try.prog 73 #[.pointer (some ⟨hb.h, 0, none⟩), .int .u64 x, .int .i64 K, .int .i64 I] w fun e w' => e = .returned (.tuple #[.int .i64 0, .int .i64 4]) ∧ Below w.heap.size w w' := by
  have hA := object_any r x hx
  unfold Hp.typ at hK
  unfold Hp.len at h
  rcases hoo : M.objOf x with _ | ⟨b, k', n, m⟩
  · exact absurd hoo ho
  · rw [hoo] at h hA hK
    subst hK
    unfold objVal at hA
    simp only at h
    clear r ho hoo
    rcases h with h | h
    · go_enter Try.func73, Try.ntmps73
      go_wp2_with fail
      refine hA.mono ?_
      rintro e w1 ⟨rfl, b1⟩
      clear hA
      go_wp2_with fail
      all_goals
        go_ret2
        exact ⟨by simp, b1⟩
    · go_enter Try.func73, Try.ntmps73
      go_wp2_with fail
      refine hA.mono ?_
      rintro e w1 ⟨rfl, b1⟩
      clear hA
      go_wp2_with fail
      all_goals
        go_ret2
        exact ⟨by simp, b1⟩

/-! ### Get, Set -/
def Hp.get (M : Hp) (x k i : Nat) : Option Nat := (M.fld x k i).bind M.rd

theorem Hp.fld_lt {M : Hp} {x k i a : Nat} (h : M.fld x k i = some a) : a < 70000 := by
  unfold Hp.fld at h
  split at h
  · rename_i ho
    split at h
    · rename_i hc
      cases h
      have := Hp.objOf_lt ho
      omega
    · cases h
  · cases h

theorem Hp.fld_rd {M : Hp} (o : M.Ok) {x k i a : Nat} (h : M.fld x k i = some a) : ∃ v, M.rd a = some v := by
  unfold Hp.fld at h
  split at h
  · rename_i ho
    split at h
    · rename_i hc
      cases h
      exact Hp.objOf_rd o ho i hc.2
    · cases h
  · cases h

set_option maxHeartbeats 400000 in
theorem get_ok {hb : HB} {M : Hp} {w : World} (r : Rep hb M w) (x : Nat) (hx : x < 18446744073709551616) (K I : Int) (k i : Nat) (hK : K = k) (hI : I = i) {v : Nat} (h : M.get x k i = some v) :
    Calls Try.prog 41 #[.pointer (some ⟨hb.h, 0, none⟩), .int .u64 x, .int .i64 K, .int .i64 I] w fun e w' => e = .returned (.tuple #[.int .u64 v, .int .i64 0]) ∧ Below w.heap.size w w' := by
  unfold Hp.get at h
  cases hf : M.fld x k i with
  | none => rw [hf] at h; cases h
  | some a =>
    rw [hf] at h
    simp only [Option.bind_some] at h
    have hA := field_ok r x hx K I k i hK hI hf
    have hlt := Hp.fld_lt hf
    clear hf hK hI
    go_enter Try.func41, Try.ntmps41
    go_wp2_with fail
    refine hA.mono ?_
    rintro e w1 ⟨rfl, b1⟩
    have r1 := r.below b1
    have hB := read_yes r1 (a : Int) (v := v) (by omega) (by rw [Int.toNat_natCast]; exact h)
    have c1 := r1.h0
    have c2 := r1.c0
    have c3 := r1.s0
    clear hA r r1 h
    go_wp2_with fail
    refine hB.mono ?_
    rintro e w2 ⟨rfl, rfl⟩
    clear hB
    go_wp2_with fail
    go_ret2
    exact ⟨by simp, b1⟩

set_option maxHeartbeats 400000 in
theorem get_type {hb : HB} {M : Hp} {w : World} (r : Rep hb M w) (x : Nat) (hx : x < 18446744073709551616) (K I : Int) (h : M.isnt x K) :
    Calls Try.prog 41 #[.pointer (some ⟨hb.h, 0, none⟩), .int .u64 x, .int .i64 K, .int .i64 I] w fun e w' => e = .returned (.tuple #[.int .u64 0, .int .i64 3]) ∧ Below w.heap.size w w' := by
  have hA := field_type r x hx K I h
  clear r h
  go_enter Try.func41, Try.ntmps41
  go_wp2_with fail
  refine hA.mono ?_
  rintro e w1 ⟨rfl, b1⟩
  clear hA
  go_wp2_with fail
  go_ret2
  exact ⟨by simp, b1⟩

set_option maxHeartbeats 400000 in
theorem get_range {hb : HB} {M : Hp} {w : World} (r : Rep hb M w) (x : Nat) (hx : x < 18446744073709551616) (K I : Int) (ho : M.objOf x ≠ none) (hK : ((M.typ x : Nat) : Int) = K) (h : I < 0 ∨ ((M.len x : Nat) : Int) ≤ I) :
    Calls Try.prog 41 #[.pointer (some ⟨hb.h, 0, none⟩), .int .u64 x, .int .i64 K, .int .i64 I] w fun e w' => e = .returned (.tuple #[.int .u64 0, .int .i64 4]) ∧ Below w.heap.size w w' := by
  have hA := field_range r x hx K I ho hK h
  clear r h ho hK
  go_enter Try.func41, Try.ntmps41
  go_wp2_with fail
  refine hA.mono ?_
  rintro e w1 ⟨rfl, b1⟩
  clear hA
  go_wp2_with fail
  go_ret2
  exact ⟨by simp, b1⟩

def Hp.setF (M : Hp) (x k i v : Nat) : Option Hp := (M.fld x k i).map fun a => M.wr a v

set_option maxHeartbeats 400000 in
theorem set_ok {hb : HB} {M M' : Hp} {w : World} (r : Rep hb M w) (x : Nat) (hx : x < 18446744073709551616) (K I : Int) (k i v : Nat) (hv : v < 18446744073709551616) (hK : K = k) (hI : I = i) (h : M.setF x k i v = some M') :
    Calls Try.prog 35 #[.pointer (some ⟨hb.h, 0, none⟩), .int .u64 x, .int .i64 K, .int .i64 I, .int .u64 v] w fun e w' => e = .returned (.int .i64 0) ∧ Rep hb M' w' ∧ Moves hb w w' := by
  unfold Hp.setF at h
  cases hf : M.fld x k i with
  | none => rw [hf] at h; cases h
  | some a =>
    rw [hf] at h
    cases h
    have hA := field_ok r x hx K I k i hK hI hf
    obtain ⟨u, hu⟩ := Hp.fld_rd r.ok hf
    clear hf hK hI
    go_enter Try.func35, Try.ntmps35
    go_wp2_with fail
    refine hA.mono ?_
    rintro e w1 ⟨rfl, b1⟩
    have r1 := r.below b1
    have hB := store_ok r1 (a : Int) v (v := u) (by omega) (by rw [Int.toNat_natCast]; exact hu) hv
    rw [Int.toNat_natCast] at hB
    have c1 := r1.h0
    have B1 := Lib.hid b1
    clear hA r r1 hu b1
    go_wp2_with fail
    refine hB.mono ?_
    rintro e w2 ⟨rfl, r2, v2⟩
    have R2 := Lib.hid r2
    have V2 := Lib.hid v2
    clear hB r2 v2
    go_wp2_with fail
    go_ret
    exact ⟨rfl, R2.out, (Moves.of_below B1.out).trans V2.out⟩

set_option maxHeartbeats 400000 in
theorem set_type {hb : HB} {M : Hp} {w : World} (r : Rep hb M w) (x v : Nat) (hx : x < 18446744073709551616) (K I : Int) (h : M.isnt x K) :
    Calls Try.prog 35 #[.pointer (some ⟨hb.h, 0, none⟩), .int .u64 x, .int .i64 K, .int .i64 I, .int .u64 v] w fun e w' => e = .returned (.int .i64 3) ∧ Below w.heap.size w w' := by
  have hA := field_type r x hx K I h
  clear r h
  go_enter Try.func35, Try.ntmps35
  go_wp2_with fail
  refine hA.mono ?_
  rintro e w1 ⟨rfl, b1⟩
  clear hA
  go_wp2_with fail
  go_ret
  exact ⟨rfl, b1⟩

set_option maxHeartbeats 400000 in
theorem set_range {hb : HB} {M : Hp} {w : World} (r : Rep hb M w) (x v : Nat) (hx : x < 18446744073709551616) (K I : Int) (ho : M.objOf x ≠ none) (hK : ((M.typ x : Nat) : Int) = K) (h : I < 0 ∨ ((M.len x : Nat) : Int) ≤ I) :
    Calls Try.prog 35 #[.pointer (some ⟨hb.h, 0, none⟩), .int .u64 x, .int .i64 K, .int .i64 I, .int .u64 v] w fun e w' => e = .returned (.int .i64 4) ∧ Below w.heap.size w w' := by
  have hA := field_range r x hx K I ho hK h
  clear r h ho hK
  go_enter Try.func35, Try.ntmps35
  go_wp2_with fail
  refine hA.mono ?_
  rintro e w1 ⟨rfl, b1⟩
  clear hA
  go_wp2_with fail
  go_ret
  exact ⟨rfl, b1⟩
end Go.Proofs.Ytecemlamoiepdaa
