/- Package morainelaw10's awake: the chapter's examples. -/
import Derived.Test.YtecemlamoiepdaaFrame
import Derived.Test.YtecemlamoiepdaaVec
import Derived.Test.YtecemlamoiepdaaText
namespace Go.Proofs.Ytecemlamoiepdaa
open Go.RowKit

def ab : ByteArray := ⟨#[97, 195, 177]⟩
def ao1 : Hp := ((Hp.empty 8).two 0 8 20).2.2
def ao2 : Hp := (ao1.vec 3 12).2.2
def ao3 : Hp := (ao2.str ab).2.2
theorem ao1_eq : (Hp.empty 8).two 0 8 20 = (1, 0, ao1) := by kernel_rfl
theorem ao_car : ao1.half 1 0 = some 8 := by kernel_rfl
theorem ao_cdr : ao1.half 1 1 = some 20 := by kernel_rfl
theorem ao2_eq : ao1.vec 3 12 = (515, 0, ao2) := by kernel_rfl
theorem ao_g2 : ao2.getR 515 1 2 = (12, 0) := by kernel_rfl
theorem ao_g3 : ao2.getR 515 1 3 = (0, 4) := by kernel_rfl
theorem ao3_eq : ao2.str ab = (1027, 0, ao3) := by kernel_rfl
theorem ao_txt : ao3.txt 1027 = some ab := by kernel_rfl
theorem ao_len : ao3.len 1027 = 2 := by kernel_rfl

set_option maxRecDepth 100000 in
set_option maxHeartbeats 2000000 in
theorem awake10 (w : World) : Calls Try.prog 27 #[] w fun e w' => e = .returned (.bool true) ∧ Below w.heap.size w w' := by
  have hN := new_ok 8 8 rfl (by omega) (by omega) w
  go_enter Try.func27, Try.ntmps27
  go_wp2_with fail
  refine hN.mono ?_
  rintro e w1 ⟨hb, rfl, r1, b1, hh⟩
  clear hN
  have HM := Lib.hid (fun (a : World) (m : Moves hb w1 a) => b1.trans (m.to_below b1.size (hh _ (.inl rfl)) (hh _ (.inr (.inl rfl))) (hh _ (.inr (.inr (.inl rfl)))) (hh _ (.inr (.inr (.inr (.inl rfl))))) (hh _ (.inr (.inr (.inr (.inr rfl)))))))
  have R1 := Lib.hid r1
  have V1 : Hid (Moves hb w1 w1) := Lib.hid (.refl _ _)
  clear r1 b1 hh
  go_wp2_with fail
  refine (cons_any R1.out 8 20 (by omega) (by omega) ao1_eq).mono ?_
  rintro e w2 ⟨rfl, r2, v2⟩
  have V2 : Hid (Moves hb w1 w2) := Lib.hid (V1.out.trans v2)
  have R2 := Lib.hid r2
  clear r2 v2 R1 V1
  go_wp2_with fail
  refine (car_ok R2.out 1 (by omega) ao_car).mono ?_
  rintro e w3 ⟨rfl, b3⟩
  have V3 : Hid (Moves hb w1 w3) := Lib.hid (V2.out.trans (.of_below b3))
  have R3 := Lib.hid (R2.out.below b3)
  clear b3 R2 V2
  go_wp2_with fail
  refine (cdr_ok R3.out 1 (by omega) ao_cdr).mono ?_
  rintro e w4 ⟨rfl, b4⟩
  have V4 : Hid (Moves hb w1 w4) := Lib.hid (V3.out.trans (.of_below b4))
  have R4 := Lib.hid (R3.out.below b4)
  clear b4 R3 V3
  go_wp2_with fail
  refine (vector_any R4.out 3 12 (by omega) ao2_eq).mono ?_
  rintro e w5 ⟨rfl, r5, v5⟩
  have V5 : Hid (Moves hb w1 w5) := Lib.hid (V4.out.trans v5)
  have R5 := Lib.hid r5
  clear r5 v5 R4 V4
  go_wp2_with fail
  refine (get_any R5.out 515 (by omega) 1 2 ao_g2).mono ?_
  rintro e w6 ⟨rfl, b6⟩
  have V6 : Hid (Moves hb w1 w6) := Lib.hid (V5.out.trans (.of_below b6))
  have R6 := Lib.hid (R5.out.below b6)
  clear b6 R5 V5
  go_wp2_with fail
  refine (get_any R6.out 515 (by omega) 1 3 ao_g3).mono ?_
  rintro e w7 ⟨rfl, b7⟩
  have V7 : Hid (Moves hb w1 w7) := Lib.hid (V6.out.trans (.of_below b7))
  have R7 := Lib.hid (R6.out.below b7)
  clear b7 R6 V6
  go_wp2_with fail
  refine (string_any R7.out ab ao3_eq).mono ?_
  rintro e w8 ⟨rfl, r8, v8⟩
  have V8 : Hid (Moves hb w1 w8) := Lib.hid (V7.out.trans v8)
  have R8 := Lib.hid r8
  clear r8 v8 R7 V7
  go_wp2_with fail
  have hT := text_any R8.out 1027 (by omega)
  rw [ao_txt] at hT
  refine hT.mono ?_
  rintro e w9 ⟨rfl, b9⟩
  have V9 : Hid (Moves hb w1 w9) := Lib.hid (V8.out.trans (.of_below b9))
  have R9 := Lib.hid (R8.out.below b9)
  clear b9 R8 V8 hT
  have hL := len_any R9.out 1027 (by omega)
  rw [ao_len] at hL
  simp only [txtVal, ab]
  go_wp2_with fail
  refine hL.mono ?_
  rintro e w10 ⟨rfl, b10⟩
  clear hL
  go_wp2_with fail
  go_ret
  exact ⟨rfl, HM.out _ (V9.out.trans (.of_below b10))⟩
end Go.Proofs.Ytecemlamoiepdaa
