/- The contracts of obj's readers: at, pair, Pair, half, Car, Cdr. -/
import Derived.Test.YtecemlamoiepdaaMake2
import Derived.BigQuiet
import Derived.Deep.QuietTactic
namespace Go.Proofs.Ytecemlamoiepdaa
open Go.RowKit

def Hp.atOf (M : Hp) (x t k : Nat) : Option Nat :=
  if addrOk x = true ∧ tagOf x = t then
    match M.segs[x / 8 / 64]? with
    | some s => if s.kind = k ∧ x / 8 % 64 < s.words.length then some (x / 8) else none
    | none => none
  else none

theorem Hp.atOf_some {M : Hp} {x t k a : Nat} (h : M.atOf x t k = some a) : addrOk x = true ∧ tagOf x = t ∧ a = x / 8 ∧ ∃ s, M.segs[x / 8 / 64]? = some s ∧ s.kind = k ∧ x / 8 % 64 < s.words.length := by
  unfold Hp.atOf at h
  split at h
  · rename_i h1
    split at h
    · rename_i s hs
      split at h
      · cases h; exact ⟨h1.1, h1.2, rfl, s, hs, ‹_ ∧ _›.1, ‹_ ∧ _›.2⟩
      · cases h
    · cases h
  · cases h

/-- an address and 'no' -/
def RetNo (w : World) (e : Ending) (w' : World) : Prop := ∃ a : Int, e = .returned (.tuple #[.int .i64 a, .bool false]) ∧ Below w.heap.size w w'

set_option maxHeartbeats 1000000 in
theorem hat_hit {hb : HB} {M : Hp} {w : World} (r : Rep hb M w) (x : Nat) (hx : x < 18446744073709551616) (T K : Int) (t k : Nat) (hT : T = t) (hK : K = k) {a : Nat} (h : M.atOf x t k = some a) :
    Calls Try.prog 116 #[.pointer (some ⟨hb.h, 0, none⟩), .int .u64 x, .int .i64 T, .int .i64 K] w fun e w' => e = .returned (.tuple #[.int .i64 a, .bool true]) ∧ Below w.heap.size w w' := by
  obtain ⟨h1, h2, rfl, s, h3, h4, h5⟩ := Hp.atOf_some h
  have hlt := addrOk_lt h1
  subst hT hK
  have hA := addr_yes x hx h1 w
  clear h
  go_enter Try.func116, Try.ntmps116
  go_wp2_with fail
  refine hA.mono ?_
  rintro e w1 ⟨rfl, b1⟩
  clear hA
  have r1 := r.below b1
  have hN := hnone_no r1
  have hG := tag_eq x t (t : Int) rfl h2 hx w1
  have hS := seg_yes r1 ((x / 8 : Nat) / 64 : Int) (s := s) (by omega) (by rw [show (((x / 8 : Nat) : Int) / 64).toNat = x / 8 / 64 by omega]; exact h3)
  have c1 := r1.h0
  have c2 := r1.c0
  have c3 := r1.s0
  have B1 := Lib.hid b1
  have hk : ((s.kind : Int) == (k : Int)) = true := by rw [beq_iff_eq]; omega
  have hl : decide (((x / 8 : Nat) : Int) % 64 < (s.words.length : Int)) = true := by rw [decide_eq_true_eq]; omega
  clear r r1 b1 h1 h3
  generalize hq : x / 8 = q at *
  have HQ := Lib.hid hq
  clear hq
  go_wp2_with fail
  refine hN.mono ?_
  rintro e w2 ⟨rfl, rfl⟩
  go_wp2_with fail
  refine hG.mono ?_
  rintro e w2 ⟨rfl, rfl⟩
  clear hN hG
  go_wp2_with fail
  refine hS.mono ?_
  rintro e w3 ⟨rfl, b3⟩
  have B3 := Lib.hid b3
  unfold Sg.told
  clear hS b3
  go_wp2
  go_quiet (fail)
  go_wp2
  have := HQ.out
  subst this
  go_ret2
  have b2 := B1.out.trans (B3.out.mono B1.out.size)
  exact ⟨by simp, bdn (b2.alloc (Nat.le_trans B1.out.size B3.out.size) _)⟩

theorem RetNo.mk {w w' : World} {v : Value} (a : Int) (h : v = .tuple #[.int .i64 a, .bool false]) (hb : Below w.heap.size w w') : RetNo w (.returned v) w' := ⟨a, by rw [h], hb⟩

set_option maxHeartbeats 1000000 in
theorem hat_miss {hb : HB} {M : Hp} {w : World} (r : Rep hb M w) (x : Nat) (hx : x < 18446744073709551616) (T K : Int) (t k : Nat) (hT : T = t) (hK : K = k) (h : M.atOf x t k = none) :
    Calls Try.prog 116 #[.pointer (some ⟨hb.h, 0, none⟩), .int .u64 x, .int .i64 T, .int .i64 K] w (RetNo w) := by
  subst hT hK
  cases h1 : addrOk x with
  | false =>
    have hA := addr_no x hx h1 w
    clear h h1
    go_enter Try.func116, Try.ntmps116
    go_wp2_with fail
    refine hA.mono ?_
    rintro e w1 ⟨rfl, b1⟩
    have hN := hnone_no (r.below b1)
    clear hA r
    go_wp2_with fail
    refine hN.mono ?_
    rintro e w2 ⟨rfl, rfl⟩
    clear hN
    go_wp2_with fail
    go_ret2
    exact .mk 0 (by simp) b1
  | true =>
    have hlt := addrOk_lt h1
    have hA := addr_yes x hx h1 w
    by_cases h2 : tagOf x = t
    · have hG := fun w => tag_eq x t (t : Int) rfl h2 hx w
      unfold Hp.atOf at h
      rw [if_pos ⟨h1, h2⟩] at h
      cases h3 : M.segs[x / 8 / 64]? with
      | none =>
        clear h
        have hs3 : M.segs.length ≤ x / 8 / 64 := by simpa using h3
        clear h3
        have HG := Lib.hid hG
        clear hG h1 h2
        go_enter Try.func116, Try.ntmps116
        go_wp2_with fail
        refine hA.mono ?_
        rintro e w1 ⟨rfl, b1⟩
        clear hA
        have r1 := r.below b1
        have hN := hnone_no r1
        have hS := seg_no r1 ((x / 8 : Nat) / 64 : Int) (.inr (by rw [show (((x / 8 : Nat) : Int) / 64).toNat = x / 8 / 64 by omega]; exact hs3))
        have c1 := r1.h0
        have c2 := r1.c0
        have c3 := r1.s0
        have B1 := Lib.hid b1
        clear r r1 b1 hs3
        generalize x / 8 = q at *
        go_wp2_with fail
        refine hN.mono ?_
        rintro e w2 ⟨rfl, rfl⟩
        go_wp2_with fail
        refine (HG.out _).mono ?_
        rintro e w2 ⟨rfl, rfl⟩
        clear hN
        go_wp2_with fail
        refine hS.mono ?_
        rintro e w3 ⟨rfl, b3⟩
        have B3 := Lib.hid b3
        clear hS b3
        go_wp2
        go_quiet (fail)
        go_wp2
        go_ret2
        have b2 := B1.out.trans (B3.out.mono B1.out.size)
        exact .mk q (by simp) (bdn (b2.alloc (Nat.le_trans B1.out.size B3.out.size) _))
      | some s =>
        rw [h3] at h
        have h4 : ¬ (s.kind = k ∧ x / 8 % 64 < s.words.length) := by
          intro hc
          simp [hc] at h
        clear h
        have HG := Lib.hid hG
        clear hG h1 h2
        have hcase : (((s.kind : Int) == (k : Int)) = false) ∨ (((s.kind : Int) == (k : Int)) = true ∧ decide (((x / 8 : Nat) : Int) % 64 < (s.words.length : Int)) = false) := by
          by_cases e : s.kind = k
          · right
            refine ⟨by rw [beq_iff_eq]; omega, ?_⟩
            rw [decide_eq_false_iff_not]
            intro hc
            exact h4 ⟨e, by omega⟩
          · left
            rw [beq_eq_false_iff_ne]; omega
        clear h4
        rcases hcase with hk | ⟨hk, hl⟩
        all_goals
          go_enter Try.func116, Try.ntmps116
          go_wp2_with fail
          refine hA.mono ?_
          rintro e w1 ⟨rfl, b1⟩
          clear hA
          have r1 := r.below b1
          have hN := hnone_no r1
          have hS := seg_yes r1 ((x / 8 : Nat) / 64 : Int) (s := s) (by omega) (by rw [show (((x / 8 : Nat) : Int) / 64).toNat = x / 8 / 64 by omega]; exact h3)
          have c1 := r1.h0
          have c2 := r1.c0
          have c3 := r1.s0
          have B1 := Lib.hid b1
          clear r r1 b1 h3
          generalize x / 8 = q at *
          go_wp2_with fail
          refine hN.mono ?_
          rintro e w2 ⟨rfl, rfl⟩
          go_wp2_with fail
          refine (HG.out _).mono ?_
          rintro e w2 ⟨rfl, rfl⟩
          clear hN
          go_wp2_with fail
          refine hS.mono ?_
          rintro e w3 ⟨rfl, b3⟩
          have B3 := Lib.hid b3
          unfold Sg.told
          clear hS b3
          go_wp2
          go_quiet (fail)
          go_wp2
          go_ret2
          have b2 := B1.out.trans (B3.out.mono B1.out.size)
          exact .mk q (by simp) (bdn (b2.alloc (Nat.le_trans B1.out.size B3.out.size) _))
    · have h5 : (((tagOf x : Nat) : Int) != (t : Int)) = true := by rw [bne_iff_ne]; omega
      have hG := tag_any x hx
      clear h h1 h2
      go_enter Try.func116, Try.ntmps116
      go_wp2_with fail
      refine hA.mono ?_
      rintro e w1 ⟨rfl, b1⟩
      have hN := hnone_no (r.below b1)
      clear hA r
      go_wp2_with fail
      refine hN.mono ?_
      rintro e w2 ⟨rfl, rfl⟩
      clear hN
      go_wp2_with fail
      refine (hG _).mono ?_
      rintro e w2 ⟨rfl, rfl⟩
      clear hG
      go_wp2_with fail
      go_ret2
      exact .mk 0 (by simp) b1
end Go.Proofs.Ytecemlamoiepdaa
