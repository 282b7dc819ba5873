/- Package morainelaw20's awake: the chapter's examples. -/
import Derived.Test.YtecemlamoiepdaaFrame3
namespace Go.Proofs.Ytecemlamoiepdaa
open Go.RowKit

theorem one_at (w : World) (x : Nat) : WordsAt (w.alloc (.cells #[.int .u64 x] 29)) w.heap.size 0 [x] := by
  intro i z hz
  match i with
  | 0 => cases hz; simp
  | i + 1 => cases hz

def af1 : Hp := ((Hp.empty 8).extend 20 [8, 16]).2.2
def af2 : Hp := (af1.extend 3 [24]).2.2
def af3 : Hp := (af2.push 3 20 [8]).2.2
def af4 : Hp := (af3.push 4 59 []).2.2
theorem af1_eq : (Hp.empty 8).extend 20 [8, 16] = (3, 0, af1) := by kernel_rfl
theorem af2_eq : af1.extend 3 [24] = (35, 0, af2) := by kernel_rfl
theorem af3_eq : af2.push 3 20 [8] = (59, 0, af3) := by kernel_rfl
theorem af4_eq : af3.push 4 59 [] = (91, 0, af4) := by kernel_rfl
theorem af5_eq : af2.frGet 35 1 1 = (16, 0) := by kernel_rfl
theorem af6_eq : af2.frGet 35 2 0 = (0, 3) := by kernel_rfl
theorem af7_eq : af4.frKind 91 = (4, 0) := by kernel_rfl
theorem af8_eq : af4.frNext 91 = (59, 0) := by kernel_rfl
theorem af9_eq : af4.push 0 3 [] = (0, 3, af4) := by kernel_rfl
theorem afa_eq : af4.frCount 3 = 2 := by kernel_rfl

set_option maxRecDepth 10000 in
set_option maxHeartbeats 2000000 in
theorem awakef (w : World) : Calls Try.prog 15 #[] w fun e w' => e = .returned (.bool true) ∧ Below w.heap.size w w' := by
  have hN := new_ok 8 8 rfl (by omega) (by omega) w
  go_enter Try.func15, Try.ntmps15
  go_wp2_with fail
  refine hN.mono ?_
  rintro e w1 ⟨hb, rfl, r1, b1, hh⟩
  clear hN
  have h1 : hb.h ≥ w.heap.size := hh _ (.inl rfl)
  have h2 : hb.c ≥ w.heap.size := hh _ (.inr (.inl rfl))
  have h3 : hb.s ≥ w.heap.size := hh _ (.inr (.inr (.inl rfl)))
  have h4 : hb.m ≥ w.heap.size := hh _ (.inr (.inr (.inr (.inl rfl))))
  have h5 : hb.g ≥ w.heap.size := hh _ (.inr (.inr (.inr (.inr rfl))))
  clear hh
  have hM : ∀ (a : World), Moves hb w1 a → Below w.heap.size w a := fun a m => b1.trans (m.to_below b1.size h1 h2 h3 h4 h5)
  clear h1 h2 h3 h4 h5
  have HM := Lib.hid hM
  have R1 := Lib.hid r1
  clear hM r1
  go_wp2_with fail
  refine (extend_any (R1.out.alloc _) 20 (by omega) _ [8, 16] (.inr ⟨_, 0, 2, rfl, by simp, two_at _ _ _⟩) (by simp) (by simp) af1_eq).mono ?_
  rintro e w2 ⟨rfl, r2, v2⟩
  have V2 : Hid (Moves hb w1 w2) := Lib.hid (((Moves.refl hb w1).alloc _).trans v2)
  have R2 := Lib.hid r2
  clear r2 v2 R1
  go_wp2_with fail
  refine (extend_any (R2.out.alloc _) 3 (by omega) _ [24] (.inr ⟨_, 0, 1, rfl, by simp, one_at _ _⟩) (by simp) (by simp) af2_eq).mono ?_
  rintro e w3 ⟨rfl, r3, v3⟩
  have V3 : Hid (Moves hb w1 w3) := Lib.hid ((V2.out.alloc _).trans v3)
  have R3 := Lib.hid r3
  clear r3 v3 R2 V2
  go_wp2_with fail
  refine (frget_any R3.out 35 (by omega) 1 1 af5_eq).mono ?_
  rintro e w4 ⟨rfl, b4⟩
  have V4 : Hid (Moves hb w1 w4) := Lib.hid (V3.out.trans (.of_below b4))
  have R4 := Lib.hid (R3.out.below b4)
  clear b4 R3 V3
  go_wp2_with fail
  refine (frget_any R4.out 35 (by omega) 2 0 af6_eq).mono ?_
  rintro e w5 ⟨rfl, b5⟩
  have V5 : Hid (Moves hb w1 w5) := Lib.hid (V4.out.trans (.of_below b5))
  have R5 := Lib.hid (R4.out.below b5)
  clear b5 R4 V4
  go_wp2_with fail
  refine (push_any (R5.out.alloc _) 3 20 (by omega) _ [8] (.inr ⟨_, 0, 1, rfl, by simp, one_at _ _⟩) (by simp) (by simp) af3_eq).mono ?_
  rintro e w6 ⟨rfl, r6, v6⟩
  have V6 : Hid (Moves hb w1 w6) := Lib.hid ((V5.out.alloc _).trans v6)
  have R6 := Lib.hid r6
  clear r6 v6 R5 V5
  go_wp2_with fail
  refine (push_any R6.out 4 59 (by omega) _ [] (.inl ⟨rfl, rfl⟩) (by simp) (by simp) af4_eq).mono ?_
  rintro e w7 ⟨rfl, r7, v7⟩
  have V7 : Hid (Moves hb w1 w7) := Lib.hid (V6.out.trans v7)
  have R7 := Lib.hid r7
  clear r7 v7 R6 V6
  go_wp2_with fail
  refine (kind_any R7.out 91 (by omega) af7_eq).mono ?_
  rintro e w8 ⟨rfl, b8⟩
  have V8 : Hid (Moves hb w1 w8) := Lib.hid (V7.out.trans (.of_below b8))
  have R8 := Lib.hid (R7.out.below b8)
  clear b8 R7 V7
  go_wp2_with fail
  refine (next_any R8.out 91 (by omega) af8_eq).mono ?_
  rintro e w9 ⟨rfl, b9⟩
  have V9 : Hid (Moves hb w1 w9) := Lib.hid (V8.out.trans (.of_below b9))
  have R9 := Lib.hid (R8.out.below b9)
  clear b9 R8 V8
  go_wp2_with fail
  refine (push_any R9.out 0 3 (by omega) _ [] (.inl ⟨rfl, rfl⟩) (by simp) (by simp) af9_eq).mono ?_
  rintro e wa ⟨rfl, ra, va⟩
  have Va : Hid (Moves hb w1 wa) := Lib.hid (V9.out.trans va)
  have Ra := Lib.hid ra
  have hC := count_any ra 3 (by omega)
  rw [afa_eq] at hC
  clear ra va R9 V9
  go_wp2_with fail
  refine hC.mono ?_
  rintro e wb ⟨rfl, bb⟩
  clear hC
  go_wp2_with fail
  go_ret
  exact ⟨rfl, HM.out _ (Va.out.trans (.of_below bb))⟩
end Go.Proofs.Ytecemlamoiepdaa
