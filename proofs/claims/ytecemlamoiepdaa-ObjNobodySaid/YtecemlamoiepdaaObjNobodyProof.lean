/- ObjNobody: whatever the word and the two numbers, morainelaw10.ObjNobody returns true; what lay there stays. No conditions. -/
import Derived.Test.YtecemlamoiepdaaRows
import Derived.Test.YtecemlamoiepdaaRowKit
import Derived.Test.YtecemlamoiepdaaNone2
import Derived.Test.YtecemlamoiepdaaAwake10
namespace Go.Proofs.Ytecemlamoiepdaa
open Go.ChangeShapes Go.WideShapes Go.ChangeAt Go.RowKit

set_option maxHeartbeats 400000 in
theorem copy_nil (w : World) : Calls Try.prog 54 #[.pointer none] w fun e w' => e = .returned (.pointer none) ∧ w' = w := by
  go_enter Try.func54, Try.ntmps54
  go_wp2
  go_ret
  exact ⟨rfl, rfl⟩

set_option maxRecDepth 100000 in
set_option maxHeartbeats 4000000 in
theorem objnobody_walk (x : Nat) (hx : x < 18446744073709551616) (K I : Int) (W : World) :
    Calls Try.prog 9 #[.int .u64 x, .int .i64 K, .int .i64 I] W fun e w' => e = .returned (.bool true) ∧ Below W.heap.size W w' := by
  have HX := Lib.hid hx
  clear hx
  go_enter Try.func9, Try.ntmps9
  go_wp2_with fail
  obtain ⟨w2, hw2⟩ : ∃ w2, w2 = ((W.alloc (Obj.cells #[Value.pointer none, Value.slice none 0 0, Value.slice none 0 0, Value.int IntKind.u64 0] 60)).alloc (Obj.cells #[Value.pointer none, Value.pointer (some { block := W.heap.size, off := 0 })] 23)) := ⟨_, rfl⟩
  rw [← hw2]
  have hA : w2.heap[W.heap.size + 1]? = some (Obj.cells #[Value.pointer none, Value.pointer (some { block := W.heap.size, off := 0 })] 23) := by rw [hw2, heap_alloc_if, if_pos (by simp)]
  have hH : w2.heap[W.heap.size]? = some (Obj.cells #[Value.pointer none, Value.slice none 0 0, Value.slice none 0 0, Value.int IntKind.u64 0] 60) := by rw [hw2, heap_alloc_if, if_neg (by simp), heap_alloc_if, if_pos rfl]
  have c0 : w2.cell? ⟨W.heap.size + 1, 0, none⟩ = some (.pointer none) := by simp [World.cell?, hA]
  have c1 : w2.cell? ⟨W.heap.size + 1, 1, none⟩ = some (.pointer (some ⟨W.heap.size, 0, none⟩)) := by simp [World.cell?, hA]
  have c2 : w2.cell? ⟨W.heap.size, 0, none⟩ = some (.pointer none) := by simp [World.cell?, hH]
  have hs : w2.heap.size = W.heap.size + 2 := by rw [hw2]; simp
  have hB : Below W.heap.size W w2 := by rw [hw2]; exact ((Below.refl _ _).alloc (Nat.le_refl _) _).alloc (by simp) _
  have NH0 : Hid (NoneH w2 (.pointer none)) := Lib.hid (.inl rfl)
  have NH1 : Hid (NoneH w2 (.pointer (some ⟨W.heap.size, 0, none⟩))) := Lib.hid (.inr ⟨_, rfl, by omega, c2⟩)
  have HC0 : Hid (∀ w', Below w2.heap.size w2 w' → w'.cell? ⟨W.heap.size + 1, 0, none⟩ = some (.pointer none)) := Lib.hid fun w' b => (World.cell?_of_block (w := w2) (b.block _ (by show W.heap.size + 1 < _; omega))).trans c0
  have HC1 : Hid (∀ w', Below w2.heap.size w2 w' → w'.cell? ⟨W.heap.size + 1, 1, none⟩ = some (.pointer (some ⟨W.heap.size, 0, none⟩))) := Lib.hid fun w' b => (World.cell?_of_block (w := w2) (b.block _ (by show W.heap.size + 1 < _; omega))).trans c1
  have HB := Lib.hid hB
  clear c0 c1 c2 hs hB hw2 hA hH
  go_loopw [9] (fun k wr => ∃ n : Nat, n ≤ 2 ∧ k = .int .i64 n ∧ Below w2.heap.size w2 wr) (fun k _ => 2 - (intOf k).toNat)
  case atStart => exact ⟨0, by omega, rfl, Below.refl _ _⟩
  case round =>
    obtain ⟨n, hn, rfl, hBr⟩ := hrel
    have B := Lib.hid hBr
    clear hBr
    rcases (show n = 0 ∨ n = 1 ∨ n = 2 by omega) with rfl | rfl | rfl
    · have c9 := HC0.out _ B.out
      clear HC0 HC1
      go_wp2_with fail
      refine (cons_nil (NH0.out.below B.out) x x).mono ?_
      rintro e q0 ⟨rfl, b0⟩
      have B0 := Lib.hid (B.out.trans (b0.mono B.out.size))
      clear b0 B c9
      go_wp2_with fail
      refine (weak_nil (NH0.out.below B0.out) x x).mono ?_
      rintro e q1 ⟨rfl, b1⟩
      have B1 := Lib.hid (B0.out.trans (b1.mono B0.out.size))
      clear b1 B0
      go_wp2_with fail
      refine (vector_none (NH0.out.below B1.out) x HX.out).mono ?_
      rintro e q2 ⟨rfl, b2⟩
      have B2 := Lib.hid (B1.out.trans (b2.mono B1.out.size))
      clear b2 B1
      go_wp2_with fail
      refine (string_nil (NH0.out.below B2.out) ⟨#[97]⟩ (by decide)).mono ?_
      rintro e q3 ⟨rfl, b3⟩
      have B3 := Lib.hid (B2.out.trans (b3.mono B2.out.size))
      clear b3 B2
      go_wp2_with fail
      refine (car_none (NH0.out.below B3.out) x HX.out).mono ?_
      rintro e q4 ⟨rfl, b4⟩
      have B4 := Lib.hid (B3.out.trans (b4.mono B3.out.size))
      clear b4 B3
      go_wp2_with fail
      refine (get_none (NH0.out.below B4.out) x HX.out K I).mono ?_
      rintro e q5 ⟨rfl, b5⟩
      have B5 := Lib.hid (B4.out.trans (b5.mono B4.out.size))
      clear b5 B4
      go_wp2_with fail
      refine (text_none (NH0.out.below B5.out) x HX.out).mono ?_
      rintro e q6 ⟨rfl, b6⟩
      have B6 := Lib.hid (B5.out.trans (b6.mono B5.out.size))
      clear b6 B5
      go_wp2_with fail
      refine (next_nil (NH0.out.below B6.out)).mono ?_
      rintro e q7 ⟨rfl, b7⟩
      have B7 := Lib.hid (B6.out.trans (b7.mono B6.out.size))
      clear b7 B6
      go_wp2_with fail
      refine (setcar_none (NH0.out.below B7.out) x HX.out x).mono ?_
      rintro e q8 ⟨rfl, b8⟩
      have B8 := Lib.hid (B7.out.trans (b8.mono B7.out.size))
      clear b8 B7
      go_wp2_with fail
      refine (set_none (NH0.out.below B8.out) x HX.out K I x).mono ?_
      rintro e q9 ⟨rfl, b9⟩
      have B9 := Lib.hid (B8.out.trans (b9.mono B8.out.size))
      clear b9 B8
      go_wp2_with fail
      refine (ispair_none (NH0.out.below B9.out) x HX.out).mono ?_
      rintro e q10 ⟨rfl, b10⟩
      have B10 := Lib.hid (B9.out.trans (b10.mono B9.out.size))
      clear b10 B9
      go_wp2_with fail
      refine (type_none (NH0.out.below B10.out) x HX.out).mono ?_
      rintro e q11 ⟨rfl, b11⟩
      have B11 := Lib.hid (B10.out.trans (b11.mono B10.out.size))
      clear b11 B10
      go_wp2_with fail
      refine (size_none (NH0.out.below B11.out) x HX.out).mono ?_
      rintro e q12 ⟨rfl, b12⟩
      have B12 := Lib.hid (B11.out.trans (b12.mono B11.out.size))
      clear b12 B11
      go_wp2_with fail
      refine (epoch_none (NH0.out.below B12.out)).mono ?_
      rintro e q13 ⟨rfl, b13⟩
      have B13 := Lib.hid (B12.out.trans (b13.mono B12.out.size))
      clear b13 B12
      go_wp2_with fail
      go_roundw
      case rel => exact ⟨1, by omega, by go_num, B13.out⟩
      case measure => simp [intOf]
    · have c9 := HC1.out _ B.out
      clear HC0 HC1
      go_wp2_with fail
      refine (cons_nil (NH1.out.below B.out) x x).mono ?_
      rintro e q0 ⟨rfl, b0⟩
      have B0 := Lib.hid (B.out.trans (b0.mono B.out.size))
      clear b0 B c9
      go_wp2_with fail
      refine (weak_nil (NH1.out.below B0.out) x x).mono ?_
      rintro e q1 ⟨rfl, b1⟩
      have B1 := Lib.hid (B0.out.trans (b1.mono B0.out.size))
      clear b1 B0
      go_wp2_with fail
      refine (vector_none (NH1.out.below B1.out) x HX.out).mono ?_
      rintro e q2 ⟨rfl, b2⟩
      have B2 := Lib.hid (B1.out.trans (b2.mono B1.out.size))
      clear b2 B1
      go_wp2_with fail
      refine (string_nil (NH1.out.below B2.out) ⟨#[97]⟩ (by decide)).mono ?_
      rintro e q3 ⟨rfl, b3⟩
      have B3 := Lib.hid (B2.out.trans (b3.mono B2.out.size))
      clear b3 B2
      go_wp2_with fail
      refine (car_none (NH1.out.below B3.out) x HX.out).mono ?_
      rintro e q4 ⟨rfl, b4⟩
      have B4 := Lib.hid (B3.out.trans (b4.mono B3.out.size))
      clear b4 B3
      go_wp2_with fail
      refine (get_none (NH1.out.below B4.out) x HX.out K I).mono ?_
      rintro e q5 ⟨rfl, b5⟩
      have B5 := Lib.hid (B4.out.trans (b5.mono B4.out.size))
      clear b5 B4
      go_wp2_with fail
      refine (text_none (NH1.out.below B5.out) x HX.out).mono ?_
      rintro e q6 ⟨rfl, b6⟩
      have B6 := Lib.hid (B5.out.trans (b6.mono B5.out.size))
      clear b6 B5
      go_wp2_with fail
      refine (next_nil (NH1.out.below B6.out)).mono ?_
      rintro e q7 ⟨rfl, b7⟩
      have B7 := Lib.hid (B6.out.trans (b7.mono B6.out.size))
      clear b7 B6
      go_wp2_with fail
      refine (setcar_none (NH1.out.below B7.out) x HX.out x).mono ?_
      rintro e q8 ⟨rfl, b8⟩
      have B8 := Lib.hid (B7.out.trans (b8.mono B7.out.size))
      clear b8 B7
      go_wp2_with fail
      refine (set_none (NH1.out.below B8.out) x HX.out K I x).mono ?_
      rintro e q9 ⟨rfl, b9⟩
      have B9 := Lib.hid (B8.out.trans (b9.mono B8.out.size))
      clear b9 B8
      go_wp2_with fail
      refine (ispair_none (NH1.out.below B9.out) x HX.out).mono ?_
      rintro e q10 ⟨rfl, b10⟩
      have B10 := Lib.hid (B9.out.trans (b10.mono B9.out.size))
      clear b10 B9
      go_wp2_with fail
      refine (type_none (NH1.out.below B10.out) x HX.out).mono ?_
      rintro e q11 ⟨rfl, b11⟩
      have B11 := Lib.hid (B10.out.trans (b11.mono B10.out.size))
      clear b11 B10
      go_wp2_with fail
      refine (size_none (NH1.out.below B11.out) x HX.out).mono ?_
      rintro e q12 ⟨rfl, b12⟩
      have B12 := Lib.hid (B11.out.trans (b12.mono B11.out.size))
      clear b12 B11
      go_wp2_with fail
      refine (epoch_none (NH1.out.below B12.out)).mono ?_
      rintro e q13 ⟨rfl, b13⟩
      have B13 := Lib.hid (B12.out.trans (b13.mono B12.out.size))
      clear b13 B12
      go_wp2_with fail
      go_roundw
      case rel => exact ⟨2, by omega, by go_num, B13.out⟩
      case measure => simp [intOf]
    · clear HC0 HC1
      go_wp2_with fail
      refine (copy_nil wr).mono ?_
      rintro e w8 ⟨rfl, rfl⟩
      go_wp2_with fail
      refine (awake10 w8).mono ?_
      rintro e w9 ⟨rfl, b9⟩
      go_wp2_with fail
      go_ret
      exact ⟨rfl, HB.out.trans ((B.out.trans (b9.mono B.out.size)).mono HB.out.size)⟩

set_option maxRecDepth 100000 in
theorem objnobody_lifted (os : Os) (started : os.Started) (H : Type) (enc : TypeId × Value → H) :
    ReturnsInHanded {} Try.checked os 9 .any (Rows.objNobodySpec.pre6 enc Try.prog Try.f9 Rows.objNobodyRow.domain false) (Rows.objNobodySpec.post enc Try.prog Try.f9 false true false false) := by
  refine returnsInHanded_of_change (C := Try.checked) own started (by kernel_rfl) Try.func9
    (ChangeSpec.witness6 (enc := enc) (C := Try.checked) false ⟨#[], #[.int .u64 0, .int .i64 0, .int .i64 0], []⟩ 8 (by kernel_rfl) (by kernel_rfl) (by kernel_rfl) (by kernel_rfl)) ?_
  intro W base args ds gs before hval0 hW hcnd _
  have hval : ∀ (j : Nat) t v, Try.f9.params[j]? = some t → args[j]? = some v → Value.okWide Try.prog W .any base t v := hval0
  have hW' := hW
  obtain ⟨p, q, hA0, hV, rfl, hfz, hnd⟩ := hW
  have hA : DataW.TrodAll enc Try.prog W 0 (fun _ => true) true Try.f9.params.toList args.toList ds p := hA0
  rw [Try.params9] at hA hval
  obtain ⟨v0, vs0, d0, ds0, p0, q0, hargs, rfl, rfl, h0, r0⟩ := trodAll_cons hA
  obtain ⟨v1, vs1, d1, ds1, p1, q1, rfl, rfl, rfl, h1, r1⟩ := trodAll_cons r0
  obtain ⟨v2, vs2, d2, ds2, p2, q2, rfl, rfl, rfl, h2, r2⟩ := trodAll_cons r1
  obtain ⟨rfl, rfl, rfl⟩ := trodAll_nil r2
  obtain rfl : args = #[v0, v1, v2] := by cases args; simp_all
  obtain ⟨rfl, rfl⟩ := trodVars_none hV
  clear hA0 hval0
  simp only [List.append_nil] at hW'
  have hlt : ∀ x ∈ p0 ++ (p1 ++ p2), x.block < W.heap.size := fun x hx => by simpa using hW'.lt x hx
  have k0 := h0
  have k1 := h1
  have k2 := h2
  obtain ⟨a0, rfl, hd0, hp0, w0⟩ := open_int Try.underlying29 (hval 0 29 v0 rfl rfl) h0
  obtain ⟨a1, rfl, hd1, hp1, w1⟩ := open_int Try.underlying3 (hval 1 3 v1 rfl rfl) h1
  obtain ⟨a2, rfl, hd2, hp2, w2⟩ := open_int Try.underlying3 (hval 2 3 v2 rfl rfl) h2
  have hu := wf_u64 w0
  obtain ⟨x, rfl⟩ := Int.eq_ofNat_of_zero_le hu.1
  refine (objnobody_walk x (by omega) a1 a2 W).mono fun e W' ⟨he, hb⟩ => ?_
  subst he
  exact ⟨_, rfl, ⟨_, _, _, [], _, [], hW', trodAll_mk1 (shut_bool Try.underlying4 _),
    trodAll_cons_mk (Below.trod laidOut (by kernel_rfl) (of_decide_eq_true (by kernel_rfl)) k0 hb (fun x hx => hlt x (by simp [hx])))
      (trodAll_cons_mk (Below.trod laidOut (by kernel_rfl) (of_decide_eq_true (by kernel_rfl)) k1 hb (fun x hx => hlt x (by simp [hx])))
        (trodAll_mk1 (Below.trod laidOut (by kernel_rfl) (of_decide_eq_true (by kernel_rfl)) k2 hb (fun x hx => hlt x (by simp [hx]))))), rfl, hb.frame _, fun h => by cases h⟩⟩

theorem objNobody_holds : Rows.ObjNobodySaid :=
  OpenClaim.holds_of_wide 9 Try.f9 rfl rfl rfl rfl rfl rfl rfl ⟨rfl, rfl, rfl, rfl, rfl⟩ rfl rfl rfl rfl rfl (by kernel_rfl) Try.func9 (by kernel_rfl)
    (of_decide_eq_true (by kernel_rfl)) (by unfold Func.isWrapper; first | (rw [if_pos (by decide +kernel)]; kernel_rfl) | (rw [if_neg (by decide +kernel)]; exact ⟨rfl, rfl⟩))
    (fun os started H enc _ => objnobody_lifted os started H enc)
#print axioms objNobody_holds
end Go.Proofs.Ytecemlamoiepdaa
