/- The contracts of package frame: above, Get, Put. -/
import Derived.Test.YtecemlamoiepdaaFrame2
namespace Go.Proofs.Ytecemlamoiepdaa
open Go.RowKit

def Hp.above (M : Hp) : Nat → Nat → Option Nat
  | x, 0 => if M.frIs x 7 1 then some x else none
  | x, n + 1 => if (M.getR x 7 0).2 = 0 then M.above (M.getR x 7 0).1 n else none

def Hp.aboveR (M : Hp) (x : Nat) (up : Int) : Nat × Nat :=
  if up < 0 ∨ 65536 < up then (0, 4) else match M.above x up.toNat with
    | some v => (v, 0)
    | none => (0, 3)

theorem Hp.above_lt {M : Hp} (o : M.Ok) : ∀ (n x v : Nat), x < 18446744073709551616 → M.above x n = some v → v < 18446744073709551616 := by
  intro n
  induction n with
  | zero =>
    intro x v hx h
    unfold Hp.above at h
    split at h
    · cases h; exact hx
    · cases h
  | succ n ih =>
    intro x v hx h
    unfold Hp.above at h
    split at h
    · exact ih _ _ (Hp.getR_lt o) h
    · cases h

set_option maxHeartbeats 1000000 in
theorem above_any {hb : HB} {M : Hp} {w : World} (r : Rep hb M w) (x : Nat) (hx : x < 18446744073709551616) (up : Int) {v e : Nat} (h : M.aboveR x up = (v, e)) :
    Calls Try.prog 68 #[.pointer (some ⟨hb.h, 0, none⟩), .int .u64 x, .int .i64 up] w fun en w' => en = .returned (.tuple #[.int .u64 v, .int .i64 e]) ∧ Below w.heap.size w w' := by
  unfold Hp.aboveR at h
  by_cases c0 : up < 0
  · rw [if_pos (.inl c0)] at h
    cases h
    clear r
    go_enter Try.func68, Try.ntmps68
    go_wp2_with fail
    go_ret2
    exact ⟨by simp, Below.refl _ _⟩
  · by_cases c1 : 65536 < up
    · rw [if_pos (.inr c1)] at h
      cases h
      clear r
      go_enter Try.func68, Try.ntmps68
      go_wp2_with fail
      go_ret2
      exact ⟨by simp, Below.refl _ _⟩
    · rw [if_neg (by omega)] at h
      obtain ⟨n, rfl⟩ := Int.eq_ofNat_of_zero_le (show 0 ≤ up by omega)
      rw [Int.toNat_natCast] at h
      have R := Lib.hid r
      have H := Lib.hid h
      clear r h
      go_enter Try.func68, Try.ntmps68
      go_wp2_with fail
      go_loopw [6, 16] (fun u i wr => ∃ (y k : Nat), k ≤ n ∧ u = .int .u64 y ∧ i = .int .i64 k ∧ y < 18446744073709551616 ∧ M.above x n = M.above y (n - k) ∧ Below w.heap.size w wr) (fun _ i _ => n - (intOf i).toNat)
      case atStart => exact ⟨x, 0, Nat.zero_le _, rfl, rfl, hx, rfl, Below.refl _ _⟩
      case round =>
        obtain ⟨y, k, hk, rfl, rfl, hy, hE, hB⟩ := hrel
        have HB := Lib.hid hB
        have HE := Lib.hid hE
        have rk := R.out.below hB
        clear hB hE
        by_cases hlt : k < n
        · have hE := HE.out
          rw [show n - k = (n - (k + 1)) + 1 by omega] at hE
          unfold Hp.above at hE
          obtain ⟨u, e0, hg⟩ : ∃ u e0, M.getR y 7 0 = (u, e0) := ⟨_, _, rfl⟩
          have hG := get_any rk y hy 7 0 hg
          have hu : u < 18446744073709551616 := by have := Hp.getR_lt (x := y) (K := 7) (I := 0) rk.ok; rw [hg] at this; exact this
          rw [hg] at hE
          simp only at hE
          by_cases c2 : e0 = 0
          · subst c2
            rw [if_pos rfl] at hE
            have HE2 : Hid (M.above x n = M.above u (n - (k + 1))) := by
              have h9 := HE.out
              rw [show n - k = (n - (k + 1)) + 1 by omega] at h9
              rw [h9]
              show M.above y (n - (k + 1) + 1) = _
              conv => lhs; unfold Hp.above
              rw [hg]; simp
            clear hE hg rk
            go_wp2_with fail
            refine hG.mono ?_
            rintro en w1 ⟨rfl, b1⟩
            have B1 := Lib.hid b1
            clear hG b1
            go_wp2_with fail
            go_roundw
            case rel => exact ⟨u, k + 1, by omega, rfl, by go_num, hu, HE2.out, HB.out.trans (B1.out.mono HB.out.size)⟩
            case measure => simp [intOf]; omega
          · have hnone : M.above x n = none := by
              have h9 := HE.out
              rw [show n - k = (n - (k + 1)) + 1 by omega] at h9
              rw [h9]
              show M.above y (n - (k + 1) + 1) = _
              conv => lhs; unfold Hp.above
              rw [hg, if_neg c2]
            have h10 := H.out
            rw [hnone] at h10
            cases h10
            have hne : ((e0 : Int) != 0) = true := by rw [bne_iff_ne]; omega
            clear hE hg rk c2 hnone
            go_wp2_with fail
            refine hG.mono ?_
            rintro en w1 ⟨rfl, b1⟩
            have B1 := Lib.hid b1
            clear hG b1
            go_wp2_with fail
            go_ret2
            exact ⟨by simp, HB.out.trans (B1.out.mono HB.out.size)⟩
        · obtain rfl : k = n := by omega
          have hE := HE.out
          rw [Nat.sub_self] at hE
          unfold Hp.above at hE
          have hI := fris_any rk y hy 7 1 7 1 rfl rfl
          have h10 := H.out
          rw [HE.out, Nat.sub_self] at h10
          unfold Hp.above at h10
          cases hf : M.frIs y 7 1 with
          | false =>
            rw [hf] at hI h10
            cases h10
            clear hE hf rk
            go_wp2_with fail
            refine hI.mono ?_
            rintro en w1 ⟨rfl, b1⟩
            have B1 := Lib.hid b1
            clear hI b1
            go_wp2_with fail
            go_ret2
            exact ⟨by simp, HB.out.trans (B1.out.mono HB.out.size)⟩
          | true =>
            rw [hf] at hI h10
            simp only [if_true] at h10
            cases h10
            clear hE hf rk
            go_wp2_with fail
            refine hI.mono ?_
            rintro en w1 ⟨rfl, b1⟩
            have B1 := Lib.hid b1
            clear hI b1
            go_wp2_with fail
            go_ret2
            exact ⟨by simp, HB.out.trans (B1.out.mono HB.out.size)⟩

def Hp.frGet (M : Hp) (x : Nat) (up i : Int) : Nat × Nat :=
  match M.aboveR x up with
  | (y, 0) => if i < 0 ∨ ((M.frCount y : Nat) : Int) ≤ i then (0, 4) else M.getR y 7 (i + 1)
  | (_, e) => (0, e)

def Hp.frPut (M : Hp) (x : Nat) (up i : Int) (v : Nat) : Nat × Hp :=
  match M.aboveR x up with
  | (y, 0) => if i < 0 ∨ ((M.frCount y : Nat) : Int) ≤ i then (4, M) else M.setR y 7 (i + 1) v
  | (_, e) => (e, M)

theorem Hp.aboveR_lt {M : Hp} (o : M.Ok) {x y e : Nat} {up : Int} (hx : x < 18446744073709551616) (h : M.aboveR x up = (y, e)) : y < 18446744073709551616 := by
  unfold Hp.aboveR at h
  split at h
  · cases h; omega
  · split at h
    · rename_i u hu
      cases h
      exact Hp.above_lt o _ _ _ hx hu
    · cases h; omega

theorem Hp.frCount_le {M : Hp} {x : Nat} : M.frCount x ≤ 62 := by
  have := M.len_le (x := x)
  unfold Hp.frCount
  split <;> omega

set_option maxHeartbeats 1000000 in
theorem frget_any {hb : HB} {M : Hp} {w : World} (r : Rep hb M w) (x : Nat) (hx : x < 18446744073709551616) (up i : Int) {v e : Nat} (h : M.frGet x up i = (v, e)) :
    Calls Try.prog 24 #[.pointer (some ⟨hb.h, 0, none⟩), .int .u64 x, .int .i64 up, .int .i64 i] w fun en w' => en = .returned (.tuple #[.int .u64 v, .int .i64 e]) ∧ Below w.heap.size w w' := by
  obtain ⟨y, e0, ha⟩ : ∃ y e0, M.aboveR x up = (y, e0) := ⟨_, _, rfl⟩
  have hA := above_any r x hx up ha
  have hy := Hp.aboveR_lt r.ok hx ha
  unfold Hp.frGet at h
  rw [ha] at h
  have R := Lib.hid r
  by_cases c0 : e0 = 0
  · subst c0
    simp only at h
    have hC := Lib.hid (fun (w' : World) (b : Below w.heap.size w w') => count_any (R.out.below b) y hy)
    have hcl := M.frCount_le (x := y)
    by_cases c1 : i < 0
    · rw [if_pos (.inl c1)] at h
      cases h
      clear r ha hC
      go_enter Try.func24, Try.ntmps24
      go_wp2_with fail
      refine hA.mono ?_
      rintro en w1 ⟨rfl, b1⟩
      clear hA
      go_wp2_with fail
      go_ret2
      exact ⟨by simp, b1⟩
    · by_cases c2 : ((M.frCount y : Nat) : Int) ≤ i
      · rw [if_pos (.inr c2)] at h
        cases h
        generalize M.frCount y = n at *
        clear r ha
        go_enter Try.func24, Try.ntmps24
        go_wp2_with fail
        refine hA.mono ?_
        rintro en w1 ⟨rfl, b1⟩
        clear hA
        go_wp2_with fail
        refine (hC.out _ b1).mono ?_
        rintro en w2 ⟨rfl, b2⟩
        clear hC
        go_wp2_with fail
        go_ret2
        exact ⟨by simp, b1.trans (b2.mono b1.size)⟩
      · rw [if_neg (by omega)] at h
        have HG := Lib.hid (fun (w' : World) (b : Below w.heap.size w w') => get_any (R.out.below b) y hy 7 (i + 1) h)
        generalize M.frCount y = n at *
        clear r ha h
        go_enter Try.func24, Try.ntmps24
        go_wp2_with fail
        refine hA.mono ?_
        rintro en w1 ⟨rfl, b1⟩
        clear hA
        go_wp2_with fail
        refine (hC.out _ b1).mono ?_
        rintro en w2 ⟨rfl, b2⟩
        clear hC
        have b12 := b1.trans (b2.mono b1.size)
        go_wp2_with fail
        refine (HG.out _ b12).mono ?_
        rintro en w3 ⟨rfl, b3⟩
        clear HG
        go_wp2_with fail
        go_ret2
        exact ⟨by simp, b12.trans (b3.mono b12.size)⟩
  · have hne : ((e0 : Int) != 0) = true := by rw [bne_iff_ne]; omega
    have h2 : (0, e0) = (v, e) := by
      split at h
      · rename_i heq; cases heq; exact absurd rfl c0
      · rename_i heq; cases heq; exact h
    cases h2
    clear r ha h c0
    go_enter Try.func24, Try.ntmps24
    go_wp2_with fail
    refine hA.mono ?_
    rintro en w1 ⟨rfl, b1⟩
    clear hA
    go_wp2_with fail
    go_ret2
    exact ⟨by simp, b1⟩

set_option maxHeartbeats 1000000 in
theorem frput_any {hb : HB} {M M' : Hp} {w : World} (r : Rep hb M w) (x v : Nat) (hx : x < 18446744073709551616) (hv : v < 18446744073709551616) (up i : Int) {e : Nat} (h : M.frPut x up i v = (e, M')) :
    Calls Try.prog 22 #[.pointer (some ⟨hb.h, 0, none⟩), .int .u64 x, .int .i64 up, .int .i64 i, .int .u64 v] w fun en w' => en = .returned (.int .i64 e) ∧ Rep hb M' w' ∧ Moves hb w w' := by
  obtain ⟨y, e0, ha⟩ : ∃ y e0, M.aboveR x up = (y, e0) := ⟨_, _, rfl⟩
  have hA := above_any r x hx up ha
  have hy := Hp.aboveR_lt r.ok hx ha
  unfold Hp.frPut at h
  rw [ha] at h
  have R := Lib.hid r
  by_cases c0 : e0 = 0
  · subst c0
    simp only at h
    have hC := Lib.hid (fun (w' : World) (b : Below w.heap.size w w') => count_any (R.out.below b) y hy)
    have hcl := M.frCount_le (x := y)
    by_cases c1 : i < 0
    · rw [if_pos (.inl c1)] at h
      cases h
      clear r ha hC
      go_enter Try.func22, Try.ntmps22
      go_wp2_with fail
      refine hA.mono ?_
      rintro en w1 ⟨rfl, b1⟩
      clear hA
      go_wp2_with fail
      go_ret
      exact ⟨rfl, R.out.below b1, .of_below b1⟩
    · by_cases c2 : ((M.frCount y : Nat) : Int) ≤ i
      · rw [if_pos (.inr c2)] at h
        cases h
        generalize M.frCount y = n at *
        clear r ha
        go_enter Try.func22, Try.ntmps22
        go_wp2_with fail
        refine hA.mono ?_
        rintro en w1 ⟨rfl, b1⟩
        clear hA
        go_wp2_with fail
        refine (hC.out _ b1).mono ?_
        rintro en w2 ⟨rfl, b2⟩
        clear hC
        have b12 := b1.trans (b2.mono b1.size)
        go_wp2_with fail
        go_ret
        exact ⟨rfl, R.out.below b12, .of_below b12⟩
      · rw [if_neg (by omega)] at h
        have HG := Lib.hid (fun (w' : World) (b : Below w.heap.size w w') => set_any (R.out.below b) y v hy hv 7 (i + 1) h)
        generalize M.frCount y = n at *
        clear r ha h
        go_enter Try.func22, Try.ntmps22
        go_wp2_with fail
        refine hA.mono ?_
        rintro en w1 ⟨rfl, b1⟩
        clear hA
        go_wp2_with fail
        refine (hC.out _ b1).mono ?_
        rintro en w2 ⟨rfl, b2⟩
        clear hC
        have b12 := b1.trans (b2.mono b1.size)
        go_wp2_with fail
        refine (HG.out _ b12).mono ?_
        rintro en w3 ⟨rfl, r3, v3⟩
        have R3 := Lib.hid r3
        have V3 := Lib.hid v3
        clear HG r3 v3
        go_wp2_with fail
        go_ret
        exact ⟨rfl, R3.out, (Moves.of_below b12).trans V3.out⟩
  · have hne : ((e0 : Int) != 0) = true := by rw [bne_iff_ne]; omega
    have h2 : (e0, M) = (e, M') := by
      split at h
      · rename_i heq; cases heq; exact absurd rfl c0
      · rename_i heq; cases heq; exact h
    cases h2
    clear r ha h c0
    go_enter Try.func22, Try.ntmps22
    go_wp2_with fail
    refine hA.mono ?_
    rintro en w1 ⟨rfl, b1⟩
    clear hA
    go_wp2_with fail
    go_ret
    exact ⟨rfl, R.out.below b1, .of_below b1⟩
end Go.Proofs.Ytecemlamoiepdaa
