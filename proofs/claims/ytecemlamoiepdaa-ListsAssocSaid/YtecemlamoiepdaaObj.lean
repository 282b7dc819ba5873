/- The contracts of obj's object: what a word's object is. -/
import Derived.Test.YtecemlamoiepdaaStore
namespace Go.Proofs.Ytecemlamoiepdaa
open Go.RowKit

def Hp.objIn (M : Hp) (x kk : Nat) : Option (Nat × Nat × Nat × Nat) :=
  match M.atOf x 3 kk with
  | none => none
  | some a => match M.segs[a / 64]? with
    | none => none
    | some s => match s.words[a % 64]? with
      | none => none
      | some hd => if headOk hd = true ∧ rawK (lowOf hd) = kk ∧ a % 64 + nextOf hd < s.words.length then some (a, lowOf hd, nextOf hd, highOf hd) else none

def Hp.objOf (M : Hp) (x : Nat) : Option (Nat × Nat × Nat × Nat) :=
  match M.objIn x 2 with
  | some p => some p
  | none => M.objIn x 3

def objVal : Option (Nat × Nat × Nat × Nat) → Value
  | some (a, k, n, m) => .tuple #[.int .i64 (a : Nat), .int .i64 (k : Nat), .int .i64 (n : Nat), .int .u64 (m : Nat), .bool true]
  | none => .tuple #[.int .i64 0, .int .i64 0, .int .i64 0, .int .u64 0, .bool false]

set_option maxRecDepth 10000 in
set_option maxHeartbeats 4000000 in
theorem object_any {hb : HB} {M : Hp} {w : World} (r : Rep hb M w) (x : Nat) (hx : x < 18446744073709551616) :
    Calls Try.prog 76 #[.pointer (some ⟨hb.h, 0, none⟩), .int .u64 x] w fun e w' => e = .returned (objVal (M.objOf x)) ∧ Below w.heap.size w w' := by
  have R := Lib.hid r
  have i0 : ∀ w, (Instr.index 185 (.agg #[.int .i64 2, .int .i64 3]) (.int .i64 0)).run Try.prog w = .ok (.int .i64 2) w := fun _ => by kernel_rfl
  have i1 : ∀ w, (Instr.index 185 (.agg #[.int .i64 2, .int .i64 3]) (.int .i64 1)).run Try.prog w = .ok (.int .i64 3) w := fun _ => by kernel_rfl
  go_enter Try.func76, Try.ntmps76
  clear r
  go_wp2_with fail
  go_loopw [16] (fun i wr => ∃ k : Nat, k ≤ 2 ∧ i = .int .i64 k ∧ (1 ≤ k → M.objIn x 2 = none) ∧ (2 ≤ k → M.objIn x 3 = none) ∧ Below w.heap.size w wr) (fun i _ => 2 - (intOf i).toNat)
  case atStart => exact ⟨0, by omega, rfl, by omega, by omega, Below.refl _ _⟩
  case round =>
    obtain ⟨k, hk, rfl, hk1, hk2, hB⟩ := hrel
    obtain rfl | hk01 : k = 2 ∨ k < 2 := by omega
    · have hE : M.objOf x = none := by unfold Hp.objOf; rw [hk1 (by omega), hk2 (by omega)]
      have HE := Lib.hid hE
      have HB := Lib.hid hB
      clear hE hk1 hk2 hk hB
      go_wp2_with fail
      refine bodyPost_ret (v := .tuple #[.int .i64 0, .int .i64 0, .int .i64 0, .int .u64 0, .bool false]) (by simp [results, Try.results76, go_sem]) rfl ⟨?_, HB.out⟩
      rw [HE.out]; rfl
    · have rk := R.out.below hB
      obtain ⟨kk, hkk⟩ : ∃ kk : Nat, kk = k + 2 := ⟨_, rfl⟩
      -- the next round's relation, if nothing is found in this one
      have hnext : M.objIn x kk = none → (1 ≤ k + 1 → M.objIn x 2 = none) ∧ (2 ≤ k + 1 → M.objIn x 3 = none) := by
        intro h
        subst hkk
        obtain rfl | rfl : k = 0 ∨ k = 1 := by omega
        · exact ⟨fun _ => h, by omega⟩
        · exact ⟨fun _ => hk1 (by omega), fun _ => h⟩
      have hfound : ∀ p, M.objIn x kk = some p → M.objOf x = some p := by
        intro p h
        subst hkk
        unfold Hp.objOf
        obtain rfl | rfl : k = 0 ∨ k = 1 := by omega
        · rw [h]
        · rw [hk1 (by omega)]; exact h
      have HN := Lib.hid hnext
      have HF := Lib.hid hfound
      have HB := Lib.hid hB
      clear hnext hfound hk1 hk2
      cases ha : M.atOf x 3 kk with
      | none =>
        have hz : M.objIn x kk = none := by unfold Hp.objIn; rw [ha]
        have HZ := Lib.hid hz
        clear hz hB
        subst hkk
        obtain rfl | rfl : k = 0 ∨ k = 1 := by omega
        all_goals
          have hA := fun K h => hat_miss rk x hx 3 K 3 _ rfl h ha
          have HA := Lib.hid hA
          clear hA rk ha
          go_wp2_with fail
          refine (HA.out _ rfl).mono ?_
          rintro e w1 ⟨q, rfl, b1⟩
          have B1 := Lib.hid b1
          clear HA b1
          go_wp2_with fail
          go_roundw
          case rel => exact ⟨_, by omega, by go_num, (HN.out HZ.out).1, (HN.out HZ.out).2, HB.out.trans (B1.out.mono HB.out.size)⟩
          case measure => simp [intOf]
      | some a =>
        obtain ⟨h1, h2, rfl, s, hs, hsk, hsl⟩ := Hp.atOf_some ha
        have hqlt := addrOk_lt h1
        obtain ⟨hd, hhd⟩ : ∃ hd, s.words[x / 8 % 64]? = some hd := ⟨_, List.getElem?_eq_getElem hsl⟩
        have hdlt : hd < 18446744073709551616 := rk.ok.word _ _ hs hd (List.mem_of_getElem? hhd)
        have hsr := rk.ok.room _ _ hs
        have hin : M.objIn x kk = if headOk hd = true ∧ rawK (lowOf hd) = kk ∧ x / 8 % 64 + nextOf hd < s.words.length then some (x / 8, lowOf hd, nextOf hd, highOf hd) else none := by
          unfold Hp.objIn
          rw [ha]
          simp only [hs, hhd]
        have hrd : M.rd (x / 8) = some hd := by unfold Hp.rd; rw [hs]; exact hhd
        have hnl : nextOf hd < 256 := Nat.mod_lt _ (by omega)
        have hll : lowOf hd < 32 := Nat.mod_lt _ (by omega)
        have hqq : (((x / 8 : Nat) : Int) / 64).toNat = x / 8 / 64 := by omega
        clear h1 h2 hhd hsk
        generalize x / 8 = q at *
        by_cases hH : headOk hd = true
        · by_cases hK : rawK (lowOf hd) = kk
          · by_cases hL : q % 64 + nextOf hd < s.words.length
            · -- found
              rw [if_pos ⟨hH, hK, hL⟩] at hin
              have HE := Lib.hid (HF.out _ hin)
              have hlc : decide ((q : Int) % 64 + (nextOf hd : Int) < (s.words.length : Int)) = true := by rw [decide_eq_true_eq]; omega
              have hkb : ∀ K : Int, K = (kk : Int) → ((rawK (lowOf hd) : Int) == K) = true := by intro K hK2; rw [beq_iff_eq]; omega
              have HH := Lib.hid hH
              clear hin hL HN HF hK hB hH
              subst hkk
              obtain rfl | rfl : k = 0 ∨ k = 1 := by omega
              all_goals
                first
                  | (have hk3 := hkb 2 rfl)
                  | (have hk3 := hkb 3 rfl)
                clear hkb
                have HA := Lib.hid (fun K h => hat_hit rk x hx 3 K 3 _ rfl h ha)
                have HS := Lib.hid hs
                have HR := Lib.hid hrd
                clear rk ha hs hrd
                go_wp2_with fail
                refine (HA.out _ rfl).mono ?_
                rintro e w1 ⟨rfl, b1⟩
                have B1 := Lib.hid (HB.out.trans (b1.mono HB.out.size))
                clear HA b1
                have r1 := R.out.below B1.out
                have c1 := r1.h0
                have c2 := r1.c0
                have c3 := r1.s0
                have hRd := read_yes r1 (q : Int) (by omega) (by rw [Int.toNat_natCast]; exact HR.out)
                have hHd := head_yes hd hdlt HH.out w1
                have HHd := Lib.hid hHd
                clear r1 hHd
                go_wp2_with fail
                refine hRd.mono ?_
                rintro e w2 ⟨rfl, rfl⟩
                clear hRd
                go_wp2_with fail
                refine HHd.out.mono ?_
                rintro e w3 ⟨rfl, b3⟩
                have B3 := Lib.hid (B1.out.trans (b3.mono B1.out.size))
                clear HHd b3 c1 c2 c3
                have r3 := R.out.below B3.out
                have c1 := r3.h0
                have c2 := r3.c0
                have c3 := r3.s0
                have hSg := seg_yes r3 ((q : Int) / 64) (s := s) (by omega) (by rw [hqq]; exact HS.out)
                clear r3
                go_wp2_with fail
                refine hSg.mono ?_
                rintro e w4 ⟨rfl, b4⟩
                have B4 := Lib.hid (B3.out.trans (b4.mono B3.out.size))
                clear hSg b4
                unfold Sg.told
                have hRw := fun w => raw_any (lowOf hd : Int) w (by omega)
                simp only [Int.toNat_natCast] at hRw
                go_wp2_with (go_at_call 71; refine (hRw _).mono ?_; rintro e w5 ⟨rfl, rfl⟩)
                refine bodyPost_ret (v := .tuple #[.int .i64 q, .int .i64 (lowOf hd : Nat), .int .i64 (nextOf hd : Nat), .int .u64 (highOf hd : Nat), .bool true]) (by simp [results, Try.results76, go_sem]) rfl ⟨?_, B4.out.alloc B4.out.size _⟩
                rw [HE.out]; rfl
            · rw [if_neg (fun hc => hL hc.2.2)] at hin
              have HE := Lib.hid hin
              have hlc : decide ((q : Int) % 64 + (nextOf hd : Int) < (s.words.length : Int)) = false := by rw [decide_eq_false_iff_not]; omega
              have hkb : ∀ K : Int, K = (kk : Int) → ((rawK (lowOf hd) : Int) == K) = true := by intro K hK2; rw [beq_iff_eq]; omega
              have HH := Lib.hid hH
              clear hin hL HF hK hB hH
              subst hkk
              obtain rfl | rfl : k = 0 ∨ k = 1 := by omega
              all_goals
                first
                  | (have hk3 := hkb 2 rfl)
                  | (have hk3 := hkb 3 rfl)
                clear hkb
                have HA := Lib.hid (fun K h => hat_hit rk x hx 3 K 3 _ rfl h ha)
                have HS := Lib.hid hs
                have HR := Lib.hid hrd
                clear rk ha hs hrd
                go_wp2_with fail
                refine (HA.out _ rfl).mono ?_
                rintro e w1 ⟨rfl, b1⟩
                have B1 := Lib.hid (HB.out.trans (b1.mono HB.out.size))
                clear HA b1
                have r1 := R.out.below B1.out
                have c1 := r1.h0
                have c2 := r1.c0
                have c3 := r1.s0
                have hRd := read_yes r1 (q : Int) (by omega) (by rw [Int.toNat_natCast]; exact HR.out)
                have hHd := head_yes hd hdlt HH.out w1
                have HHd := Lib.hid hHd
                clear r1 hHd
                go_wp2_with fail
                refine hRd.mono ?_
                rintro e w2 ⟨rfl, rfl⟩
                clear hRd
                go_wp2_with fail
                refine HHd.out.mono ?_
                rintro e w3 ⟨rfl, b3⟩
                have B3 := Lib.hid (B1.out.trans (b3.mono B1.out.size))
                clear HHd b3 c1 c2 c3
                have r3 := R.out.below B3.out
                have c1 := r3.h0
                have c2 := r3.c0
                have c3 := r3.s0
                have hSg := seg_yes r3 ((q : Int) / 64) (s := s) (by omega) (by rw [hqq]; exact HS.out)
                clear r3
                go_wp2_with fail
                refine hSg.mono ?_
                rintro e w4 ⟨rfl, b4⟩
                have B4 := Lib.hid (B3.out.trans (b4.mono B3.out.size))
                clear hSg b4
                unfold Sg.told
                have hRw := fun w => raw_any (lowOf hd : Int) w (by omega)
                simp only [Int.toNat_natCast] at hRw
                go_wp2_with (go_at_call 71; refine (hRw _).mono ?_; rintro e w5 ⟨rfl, rfl⟩)
                have B5 := Lib.hid (B4.out.alloc (Nat.le_trans B4.out.size (Nat.le_refl _)) (.cells #[.int .i64 0, .int .i64 s.kind, .int .i64 s.words.length, .int .i64 5, .int .i64 5, .int .i64 5, .int .i64 5] 175))
                clear hRw
                go_roundw
                case rel => exact ⟨_, by omega, by go_num, (HN.out HE.out).1, (HN.out HE.out).2, B5.out⟩
                case measure => simp [intOf]
          · rw [if_neg (fun hc => hK hc.2.1)] at hin
            have HE := Lib.hid hin
            have hkb : ∀ K : Int, K = (kk : Int) → ((rawK (lowOf hd) : Int) == K) = false := by intro K hK2; rw [beq_eq_false_iff_ne]; omega
            have HH := Lib.hid hH
            clear hin HF hK hB hH
            subst hkk
            obtain rfl | rfl : k = 0 ∨ k = 1 := by omega
            all_goals
              first
                | (have hk3 := hkb 2 rfl)
                | (have hk3 := hkb 3 rfl)
              clear hkb
              have HA := Lib.hid (fun K h => hat_hit rk x hx 3 K 3 _ rfl h ha)
              have HS := Lib.hid hs
              have HR := Lib.hid hrd
              clear rk ha hs hrd
              go_wp2_with fail
              refine (HA.out _ rfl).mono ?_
              rintro e w1 ⟨rfl, b1⟩
              have B1 := Lib.hid (HB.out.trans (b1.mono HB.out.size))
              clear HA b1
              have r1 := R.out.below B1.out
              have c1 := r1.h0
              have c2 := r1.c0
              have c3 := r1.s0
              have hRd := read_yes r1 (q : Int) (by omega) (by rw [Int.toNat_natCast]; exact HR.out)
              have hHd := head_yes hd hdlt HH.out w1
              have HHd := Lib.hid hHd
              clear r1 hHd
              go_wp2_with fail
              refine hRd.mono ?_
              rintro e w2 ⟨rfl, rfl⟩
              clear hRd
              go_wp2_with fail
              refine HHd.out.mono ?_
              rintro e w3 ⟨rfl, b3⟩
              have B3 := Lib.hid (B1.out.trans (b3.mono B1.out.size))
              clear HHd b3 c1 c2 c3
              have r3 := R.out.below B3.out
              have c1 := r3.h0
              have c2 := r3.c0
              have c3 := r3.s0
              have hSg := seg_yes r3 ((q : Int) / 64) (s := s) (by omega) (by rw [hqq]; exact HS.out)
              clear r3
              go_wp2_with fail
              refine hSg.mono ?_
              rintro e w4 ⟨rfl, b4⟩
              have B4 := Lib.hid (B3.out.trans (b4.mono B3.out.size))
              clear hSg b4
              unfold Sg.told
              have hRw := fun w => raw_any (lowOf hd : Int) w (by omega)
              simp only [Int.toNat_natCast] at hRw
              go_wp2_with (go_at_call 71; refine (hRw _).mono ?_; rintro e w5 ⟨rfl, rfl⟩)
              have B5 := Lib.hid (B4.out.alloc (Nat.le_trans B4.out.size (Nat.le_refl _)) (.cells #[.int .i64 0, .int .i64 s.kind, .int .i64 s.words.length, .int .i64 5, .int .i64 5, .int .i64 5, .int .i64 5] 175))
              clear hRw
              go_roundw
              case rel => exact ⟨_, by omega, by go_num, (HN.out HE.out).1, (HN.out HE.out).2, B5.out⟩
              case measure => simp [intOf]
        · rw [if_neg (fun hc => hH hc.1)] at hin
          have HE := Lib.hid hin
          have HH := Lib.hid (show headOk hd = false by simpa using hH)
          clear hin HF hB hH
          subst hkk
          obtain rfl | rfl : k = 0 ∨ k = 1 := by omega
          all_goals
            have HA := Lib.hid (fun K h => hat_hit rk x hx 3 K 3 _ rfl h ha)
            have HS := Lib.hid hs
            have HR := Lib.hid hrd
            clear rk ha hs hrd
            go_wp2_with fail
            refine (HA.out _ rfl).mono ?_
            rintro e w1 ⟨rfl, b1⟩
            have B1 := Lib.hid (HB.out.trans (b1.mono HB.out.size))
            clear HA b1
            have r1 := R.out.below B1.out
            have c1 := r1.h0
            have c2 := r1.c0
            have c3 := r1.s0
            have hRd := read_yes r1 (q : Int) (by omega) (by rw [Int.toNat_natCast]; exact HR.out)
            have hHd := head_no hd hdlt HH.out w1
            have HHd := Lib.hid hHd
            clear r1 hHd
            go_wp2_with fail
            refine hRd.mono ?_
            rintro e w2 ⟨rfl, rfl⟩
            clear hRd
            go_wp2_with fail
            refine HHd.out.mono ?_
            rintro e w3 ⟨rfl, b3⟩
            have B3 := Lib.hid (B1.out.trans (b3.mono B1.out.size))
            clear HHd b3 c1 c2 c3
            have r3 := R.out.below B3.out
            have c1 := r3.h0
            have c2 := r3.c0
            have c3 := r3.s0
            have hSg := seg_yes r3 ((q : Int) / 64) (s := s) (by omega) (by rw [hqq]; exact HS.out)
            clear r3
            go_wp2_with fail
            refine hSg.mono ?_
            rintro e w4 ⟨rfl, b4⟩
            have B4 := Lib.hid (B3.out.trans (b4.mono B3.out.size))
            clear hSg b4
            unfold Sg.told
            have hRw := fun w => raw_any (lowOf hd : Int) w (by omega)
            simp only [Int.toNat_natCast] at hRw
            go_wp2_with (go_at_call 71; refine (hRw _).mono ?_; rintro e w5 ⟨rfl, rfl⟩)
            have B5 := Lib.hid (B4.out.alloc (Nat.le_trans B4.out.size (Nat.le_refl _)) (.cells #[.int .i64 0, .int .i64 s.kind, .int .i64 s.words.length, .int .i64 5, .int .i64 5, .int .i64 5, .int .i64 5] 175))
            clear hRw
            go_roundw
            case rel => exact ⟨_, by omega, by go_num, (HN.out HE.out).1, (HN.out HE.out).2, B5.out⟩
            case measure => simp [intOf]
end Go.Proofs.Ytecemlamoiepdaa
