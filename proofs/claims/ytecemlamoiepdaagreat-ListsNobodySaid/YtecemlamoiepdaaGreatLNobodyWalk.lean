/- morainelaw22.ListsNobody: whatever the number and the words. -/
import Derived.Test.YtecemlamoiepdaaGreatLNobody
namespace Go.Proofs.YtecemlamoiepdaaGreat
open Go.RowKit

set_option maxRecDepth 100000 in
set_option maxHeartbeats 4000000 in
theorem lists_nobody_any (n : Int) (v : Value) (zs : List Int) (w : World) (hz : IntsAt .u64 w v zs) :
    Calls Tryz.prog 3 #[.int .i64 n, v] w fun e w' => e = .returned (.bool true) ∧ Below w.heap.size w w' := by
  obtain ⟨hml, a, cap, rfl⟩ := hz.len
  clear hz
  by_cases h100 : (100 : Int) < zs.length
  · go_enter Tryz.func3, Tryz.ntmps3
    go_wp2_with fail
    refine (awake22 w).mono ?_
    rintro e w1 ⟨rfl, b1⟩
    have B1 := Lib.hid b1
    clear b1
    go_wp2_with fail
    go_ret
    exact ⟨rfl, B1.out⟩
  · have hN := fun w => new_ok 8 8 rfl (by omega) (by omega) w
    have HN := Lib.hid hN
    clear hN
    go_enter Tryz.func3, Tryz.ntmps3
    go_wp2_with fail
    refine (apply_nil n _ w).mono ?_
    rintro e w1 ⟨rfl, rfl⟩
    go_wp2_with fail
    refine (apply_none _ n _ _ (by first | rfl | simp)).mono ?_
    rintro e w2 ⟨rfl, rfl⟩
    go_wp2_with fail
    refine (HN.out _).mono ?_
    rintro e w3 ⟨hb, rfl, r1, b1, hh⟩
    have R1 := Lib.hid r1
    have B1 := Lib.hid b1
    have B2 : Hid (Below w1.heap.size w1 w3) := Lib.hid (((Below.refl _ _).alloc (Nat.le_refl _) _).trans (b1.mono (by simp)))
    clear r1 b1 hh B1
    go_wp2_with fail
    · refine (prims_any _).mono ?_
      rintro e w4 ⟨a4, rfl, b4⟩
      have R4 := Lib.hid (R1.out.below b4)
      have B4 := Lib.hid (B2.out.trans (b4.mono B2.out.size))
      clear b4 R1 B2
      go_wp2_with fail
      · have h30 : 30 ≤ n := by omega
        refine (apply_out R4.out n (.inr h30) _).mono ?_
        rintro e w5 ⟨rfl, rfl⟩
        have c5 := R4.out.c0
        have HW := Lib.hid (words_empty R4.out)
        have c6 := R4.out.h0
        go_wp2_with fail
        refine HW.out.mono ?_
        rintro e w6 ⟨rfl, b6⟩
        have B6 := Lib.hid (B4.out.trans (b6.mono B4.out.size))
        clear b6 c5 c6
        go_wp2_with fail
        refine (awake22 _).mono ?_
        rintro e w7 ⟨rfl, b7⟩
        have B7 := Lib.hid (B6.out.trans (b7.mono B6.out.size))
        clear b7
        go_wp2_with fail
        go_ret
        exact ⟨rfl, B7.out⟩
      · have h29 : n < 30 := by omega
        refine (awake22 _).mono ?_
        rintro e w7 ⟨rfl, b7⟩
        have B7 := Lib.hid (B4.out.trans (b7.mono B4.out.size))
        clear b7
        go_wp2_with fail
        go_ret
        exact ⟨rfl, B7.out⟩
    · have hn0 : n < 0 := by omega
      refine (apply_out R1.out n (.inl hn0) _).mono ?_
      rintro e w5 ⟨rfl, rfl⟩
      have c5 := R1.out.c0
      have HW := Lib.hid (words_empty R1.out)
      have c6 := R1.out.h0
      go_wp2_with fail
      refine HW.out.mono ?_
      rintro e w6 ⟨rfl, b6⟩
      have B6 := Lib.hid (B2.out.trans (b6.mono B2.out.size))
      clear b6 c5 c6
      go_wp2_with fail
      refine (awake22 _).mono ?_
      rintro e w7 ⟨rfl, b7⟩
      have B7 := Lib.hid (B6.out.trans (b7.mono B6.out.size))
      clear b7
      go_wp2_with fail
      go_ret
      exact ⟨rfl, B7.out⟩
end Go.Proofs.YtecemlamoiepdaaGreat
