/- morainelaw22.awake, Prims, and the words of a heap that has none. -/
import Derived.Test.YtecemlamoiepdaaApply
import Derived.Test.YtecemlamoiepdaaArgs
namespace Go.Proofs.Ytecemlamoiepdaa
open Go.RowKit

theorem one_arg (w : World) (x : Nat) (e : TypeId) : OneArg (w.alloc (.cells #[.int .u64 (x : Nat)] e)) (.slice (some ⟨w.heap.size, 0, none⟩) 1 1) x :=
  ⟨w.heap.size, 0, 1, rfl, by simp, by simp⟩

theorem three_sl (w : World) (x y z : Nat) (e : TypeId) : SlWords (w.alloc (.cells #[.int .u64 (x : Nat), .int .u64 (y : Nat), .int .u64 (z : Nat)] e)) (.slice (some ⟨w.heap.size, 0, none⟩) 3 3) [x, y, z] := by
  refine .inr ⟨w.heap.size, 0, 3, rfl, by simp, ?_⟩
  intro i u hu
  match i with
  | 0 => cases hu; simp
  | 1 => cases hu; simp
  | 2 => cases hu; simp
  | i + 3 => cases hu

set_option maxRecDepth 100000 in
set_option maxHeartbeats 4000000 in
theorem awake22 (w : World) : Calls Try.prog 55 #[] w fun e w' => e = .returned (.bool true) ∧ Below w.heap.size w w' := by
  have hN := new_ok 8 8 rfl (by omega) (by omega) w
  go_enter Try.func55, Try.ntmps55
  go_wp2_with fail
  refine hN.mono ?_
  rintro e w1 ⟨hb, rfl, r1, b1, hh⟩
  clear hN
  have HM := Lib.hid (fun (a : World) (m : Moves hb w1 a) => m.below_of b1 hh)
  have hlt := Lib.hid r1.lt
  have hs1 := three_sl w1 8 16 24 29
  have hA := apply_list (r1.alloc (.cells #[.int .u64 8, .int .u64 16, .int .u64 24] 29)) (PK.empty 8) _ [8, 16, 24] hs1 (fun k hk hc => by cases hk; exact Nat.lt_irrefl _ (hlt.out _ hc)) (by intro x hx; simp at hx; omega) (by decide)
  clear r1 b1 hh hs1
  go_wp2_with fail
  refine hA.mono ?_
  rintro e w2 ⟨M1, v, rfl, r2, pk2, g2, l2, v2⟩
  have V2 : Hid (Moves hb w1 w2) := Lib.hid ((Moves.of_below ((Below.refl _ _).alloc (Nat.le_refl _) _)).trans v2)
  have R2 := Lib.hid r2
  have PK2 := Lib.hid pk2
  have L2 := Lib.hid l2
  have LM : Hid (M1.limit = 8) := Lib.hid g2.1
  have hvl : Hid (v < 18446744073709551616) := Lib.hid (l2.lt r2.ok (by omega))
  clear r2 pk2 g2 l2 v2 hA
  have hB := apply_len (R2.out.alloc (.cells #[.int .u64 (v : Nat)] 29)) L2.out hvl.out (by rw [rowL_len]; decide) _ (one_arg w2 v 29)
  rw [rowL_len] at hB
  go_wp2_with fail
  refine hB.mono ?_
  rintro e w3 ⟨rfl, b3⟩
  have V3 : Hid (Moves hb w1 w3) := Lib.hid ((V2.out.alloc _).trans (.of_below b3))
  have R3 := Lib.hid ((R2.out.alloc (.cells #[.int .u64 (v : Nat)] 29)).below b3)
  clear b3 R2 V2 hB
  have hv33 : v = 33 := L2.out.head
  obtain ⟨k1, d1, e1, p1, f1⟩ := LSeg.step L2.out 0 33 8 rfl
  obtain ⟨k2, d2, e2, p2, f2⟩ := LSeg.step L2.out 1 17 16 rfl
  have hd1 : d1 = 17 := f1
  have hC := apply_cadr (R3.out.alloc (.cells #[.int .u64 (v : Nat)] 29)) (x := v) (d := 17) (y := 16) hvl.out (by omega) (by rw [hv33, e1, p1.cdr R3.out.ok, hd1]) (by rw [e2]; exact p2.car R3.out.ok) _ (one_arg w3 v 29)
  clear hv33 k1 d1 e1 p1 f1 k2 d2 e2 p2 f2 hd1
  go_wp2_with fail
  refine hC.mono ?_
  rintro e w4 ⟨rfl, b4⟩
  have V4 : Hid (Moves hb w1 w4) := Lib.hid ((V3.out.alloc _).trans (.of_below b4))
  have R4 := Lib.hid ((R3.out.alloc (.cells #[.int .u64 (v : Nat)] 29)).below b4)
  clear b4 R3 V3 hC
  have hD := apply_rev (R4.out.alloc (.cells #[.int .u64 (v : Nat)] 29)) PK2.out L2.out hvl.out (by rw [rowL_len, LM.out]; decide) _ (one_arg w4 v 29)
  go_wp2_with fail
  refine hD.mono ?_
  rintro e w5 ⟨M2, u, rfl, r5, pk5, g5, l5, v5⟩
  have V5 : Hid (Moves hb w1 w5) := Lib.hid ((V4.out.alloc _).trans v5)
  have R5 := Lib.hid r5
  have hul : u < 18446744073709551616 := l5.lt r5.ok (by omega)
  rw [rowL_snd] at l5
  have hu : u = 16 * (0 + 3 + 2) + 1 := l5.head
  obtain ⟨k1, d1, e1, p1, f1⟩ := LSeg.step l5 0 (16 * (0 + 3 + 2) + 1) 24 rfl
  have hE := car_ok r5 u hul (v := 24) (by rw [hu, e1]; exact p1.car r5.ok)
  clear hu k1 d1 e1 p1 f1 r5 pk5 g5 l5 v5 hD hul R4 V4
  go_wp2_with fail
  refine hE.mono ?_
  rintro e w6 ⟨rfl, b6⟩
  have V6 : Hid (Moves hb w1 w6) := Lib.hid (V5.out.trans (.of_below b6))
  have R6 := Lib.hid (R5.out.below b6)
  clear b6 R5 V5 hE
  have hF := apply_car_no (R6.out.alloc (.cells #[.int .u64 (40 : Nat)] 29)) (x := 40) (by omega) (nopair (by decide)) _ (one_arg w6 40 29)
  go_wp2_with fail
  refine hF.mono ?_
  rintro e w7 ⟨rfl, b7⟩
  have V7 : Hid (Moves hb w1 w7) := Lib.hid ((V6.out.alloc _).trans (.of_below b7))
  have R7 := Lib.hid ((R6.out.alloc (.cells #[.int .u64 (40 : Nat)] 29)).below b7)
  clear b7 R6 V6 hF
  have hG := apply_arity (R7.out.alloc (.cells #[.int .u64 8] 29)) (some ⟨w7.heap.size, 0, none⟩) 1
  go_wp2_with fail
  refine hG.mono ?_
  rintro e w8 ⟨rfl, b8⟩
  have V8 : Hid (Moves hb w1 w8) := Lib.hid ((V7.out.alloc _).trans (.of_below b8))
  clear b8 R7 V7 hG
  go_wp2_with fail
  go_ret
  exact ⟨rfl, HM.out _ V8.out⟩
end Go.Proofs.Ytecemlamoiepdaa
