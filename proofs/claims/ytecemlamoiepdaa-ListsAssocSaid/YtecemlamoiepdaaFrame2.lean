/- The contracts of package frame: Next, Field, Extend, Push, Get, Put. -/
import Derived.Test.YtecemlamoiepdaaFrame
namespace Go.Proofs.Ytecemlamoiepdaa
open Go.RowKit

def Hp.frNext (M : Hp) (x : Nat) : Nat × Nat := if M.frIs x 8 2 then M.getR x 8 1 else (0, 3)
def Hp.frField (M : Hp) (x : Nat) (i : Int) : Nat × Nat := if M.frIs x 8 2 then (if i < 0 ∨ ((M.frFields x : Nat) : Int) ≤ i then (0, 4) else M.getR x 8 (i + 2)) else (0, 3)

set_option maxHeartbeats 800000 in
theorem next_any {hb : HB} {M : Hp} {w : World} (r : Rep hb M w) (x : Nat) (hx : x < 18446744073709551616) {v e : Nat} (h : M.frNext x = (v, e)) :
    Calls Try.prog 18 #[.pointer (some ⟨hb.h, 0, none⟩), .int .u64 x] w fun en w' => en = .returned (.tuple #[.int .u64 v, .int .i64 e]) ∧ Below w.heap.size w w' := by
  have hI := fris_any r x hx 8 2 8 2 rfl rfl
  unfold Hp.frNext at h
  cases hf : M.frIs x 8 2 with
  | false =>
    rw [hf] at hI h
    cases h
    clear r hf
    go_enter Try.func18, Try.ntmps18
    go_wp2_with fail
    refine hI.mono ?_
    rintro en w1 ⟨rfl, b1⟩
    clear hI
    go_wp2_with fail
    go_ret2
    exact ⟨by simp, b1⟩
  | true =>
    rw [hf] at hI h
    simp only [if_true] at h
    have hG := fun (w' : World) (b : Below w.heap.size w w') => get_any (r.below b) x hx 8 1 h
    have HG := Lib.hid hG
    clear r hf h hG
    go_enter Try.func18, Try.ntmps18
    go_wp2_with fail
    refine hI.mono ?_
    rintro en w1 ⟨rfl, b1⟩
    clear hI
    go_wp2_with fail
    refine (HG.out _ b1).mono ?_
    rintro en w2 ⟨rfl, b2⟩
    clear HG
    go_wp2_with fail
    go_ret2
    exact ⟨by simp, b1.trans (b2.mono b1.size)⟩

set_option maxHeartbeats 800000 in
theorem field_any {hb : HB} {M : Hp} {w : World} (r : Rep hb M w) (x : Nat) (hx : x < 18446744073709551616) (i : Int) {v e : Nat} (h : M.frField x i = (v, e)) :
    Calls Try.prog 21 #[.pointer (some ⟨hb.h, 0, none⟩), .int .u64 x, .int .i64 i] w fun en w' => en = .returned (.tuple #[.int .u64 v, .int .i64 e]) ∧ Below w.heap.size w w' := by
  have hI := fris_any r x hx 8 2 8 2 rfl rfl
  unfold Hp.frField at h
  cases hf : M.frIs x 8 2 with
  | false =>
    rw [hf] at hI h
    cases h
    clear r hf
    go_enter Try.func21, Try.ntmps21
    go_wp2_with fail
    refine hI.mono ?_
    rintro en w1 ⟨rfl, b1⟩
    clear hI
    go_wp2_with fail
    go_ret2
    exact ⟨by simp, b1⟩
  | true =>
    rw [hf] at hI h
    simp only [if_true] at h
    have HF := Lib.hid (fun (w' : World) (b : Below w.heap.size w w') => fields_any (r.below b) x hx)
    have hl62 := M.len_le (x := x)
    have hfl : M.frFields x ≤ 62 := by unfold Hp.frFields; split <;> omega
    by_cases c1 : i < 0
    · rw [if_pos (.inl c1)] at h
      cases h
      clear r hf HF
      go_enter Try.func21, Try.ntmps21
      go_wp2_with fail
      refine hI.mono ?_
      rintro en w1 ⟨rfl, b1⟩
      clear hI
      go_wp2_with fail
      go_ret2
      exact ⟨by simp, b1⟩
    · by_cases c2 : ((M.frFields x : Nat) : Int) ≤ i
      · rw [if_pos (.inr c2)] at h
        cases h
        generalize M.frFields x = n at *
        clear r hf
        go_enter Try.func21, Try.ntmps21
        go_wp2_with fail
        refine hI.mono ?_
        rintro en w1 ⟨rfl, b1⟩
        clear hI
        go_wp2_with fail
        refine (HF.out _ b1).mono ?_
        rintro en w2 ⟨rfl, b2⟩
        clear HF
        go_wp2_with fail
        go_ret2
        exact ⟨by simp, b1.trans (b2.mono b1.size)⟩
      · rw [if_neg (by omega)] at h
        have hG := fun (w' : World) (b : Below w.heap.size w w') => get_any (r.below b) x hx 8 (i + 2) h
        have HG := Lib.hid hG
        generalize M.frFields x = n at *
        clear r hf h hG
        go_enter Try.func21, Try.ntmps21
        go_wp2_with fail
        refine hI.mono ?_
        rintro en w1 ⟨rfl, b1⟩
        clear hI
        go_wp2_with fail
        refine (HF.out _ b1).mono ?_
        rintro en w2 ⟨rfl, b2⟩
        clear HF
        have b12 := b1.trans (b2.mono b1.size)
        go_wp2_with fail
        refine (HG.out _ b12).mono ?_
        rintro en w3 ⟨rfl, b3⟩
        clear HG
        go_wp2_with fail
        go_ret2
        exact ⟨by simp, b12.trans (b3.mono b12.size)⟩

/-! ### Extend, Push -/
theorem OwnW.two (w : World) (x y : Nat) : OwnW (w.alloc (.cells #[wv x, wv y] 29)) (.slice (some ⟨w.heap.size, 0, none⟩) 2 2) [x, y] :=
  ⟨rfl, .inr ⟨w.heap.size, 2, #[wv x, wv y], rfl, Nat.zero_le _, heap_alloc_new w _, Nat.le_refl _, by decide, rfl, rfl⟩⟩

def Hp.extend (M : Hp) (p : Nat) (vs : List Nat) : Nat × Nat × Hp := if p ≠ 20 ∧ M.typ p ≠ 7 then (0, 3, M) else M.mk' 7 0 (p :: vs)
def Hp.push (M : Hp) (K : Int) (nx : Nat) (fs : List Nat) : Nat × Nat × Hp :=
  if K < 0 ∨ 2147483647 < K then (0, 1, M) else if nx ≠ 20 ∧ M.typ nx ≠ 8 then (0, 3, M) else M.mk' 8 0 (K.toNat * 8 :: nx :: fs)

set_option maxRecDepth 10000 in
set_option maxHeartbeats 1000000 in
theorem extend_any {hb : HB} {M M' : Hp} {w : World} (r : Rep hb M w) (p : Nat) (hp : p < 18446744073709551616) (v : Value) (vs : List Nat) (hv : SlWords w v vs) (hl : vs.length ≤ 1000000) (hx : ∀ x ∈ vs, x < 18446744073709551616)
    {x e : Nat} (h : M.extend p vs = (x, e, M')) :
    Calls Try.prog 23 #[.pointer (some ⟨hb.h, 0, none⟩), .int .u64 p, v] w fun en w' => en = .returned (.tuple #[.int .u64 x, .int .i64 e]) ∧ Rep hb M' w' ∧ Moves hb w w' := by
  have hT := type_any r p hp
  obtain ⟨a, cap, hva⟩ : ∃ a cap, v = .slice a vs.length cap := by
    rcases hv with ⟨rfl, rfl⟩ | ⟨b, o, cap, rfl, _⟩
    · exact ⟨none, 0, rfl⟩
    · exact ⟨_, _, rfl⟩
  subst hva
  unfold Hp.extend at h
  have HV := Lib.hid hv
  have R := Lib.hid r
  by_cases c : p ≠ 20 ∧ M.typ p ≠ 7
  · rw [if_pos c] at h
    cases h
    have h1 : ((p : Int) != 20) = true := by rw [bne_iff_ne]; omega
    have h2 : (((M.typ p : Nat) : Int) != 7) = true := by rw [bne_iff_ne]; omega
    generalize M.typ p = t at *
    clear c r hv
    go_enter Try.func23, Try.ntmps23
    go_wp2_with fail
    refine hT.mono ?_
    rintro en w1 ⟨rfl, b1⟩
    clear hT
    go_wp2_with fail
    go_ret2
    exact ⟨by simp, R.out.below b1, .of_below b1⟩
  · rw [if_neg c] at h
    -- what is common to both roads: append, Make
    have hmake : ∀ (w2 : World), Below w.heap.size w w2 → ∀ (v' : Value) (w3 : World), w3.ownsRow 0 29 1 v' (1 + vs.length) ([wv p] ++ vs.map wv) → (w2.alloc (.cells #[wv p] 29)).grownBy w3 (some w2.heap.size) →
        Calls Try.prog 33 #[.pointer (some ⟨hb.h, 0, none⟩), .int .i64 7, .int .u64 0, v'] w3 fun en w' => en = .returned (.tuple #[.int .u64 x, .int .i64 e]) ∧ Rep hb M' w' ∧ Moves hb w w' := by
      intro w2 b2 v' w3 hown hgrow
      have ho : OwnW w3 v' (p :: vs) := by unfold OwnW; simpa [Nat.add_comm] using hown
      have r2 := R.out.below b2
      have hlt := r2.lt
      have r3 : Rep hb M w3 := (r2.alloc _).grown hgrow (fun q hq hc => by
        have := hlt q hc
        simp only [Option.some.injEq] at hq; omega)
      have v3 : Moves hb w2 w3 := ((Moves.refl hb w2).alloc _).grown hgrow (fun q hq => by
        simp only [Option.some.injEq] at hq; omega)
      refine (make_any r3 7 0 7 0 rfl rfl (by omega) (by omega) (by omega) v' (p :: vs) ho.sl ?_ h).mono ?_
      · intro y hy
        rcases List.mem_cons.1 hy with hy | hy
        · rw [hy]; exact hp
        · exact hx y hy
      · rintro en w4 ⟨h1, h2, h3⟩
        exact ⟨h1, h2, ((Moves.of_below b2).trans v3).trans h3⟩
    have HM := Lib.hid hmake
    have hcell : ∀ w2, Below w.heap.size w w2 → SlCells (w2.alloc (.cells #[wv p] 29)) (.slice a vs.length cap) vs.length (vs.map wv) := fun w2 b2 => ((HV.out.below b2).below ((Below.refl _ _).alloc (Nat.le_refl _) _)).cells
    have HC := Lib.hid hcell
    by_cases c1 : p = 20
    · have h1 : ((p : Int) != 20) = false := by rw [bne_eq_false_iff_eq]; omega
      clear c c1 r hv hT hmake hcell h
      go_enter Try.func23, Try.ntmps23
      go_wp2_with (at_builtin; refine wpList_app E_word rfl _ _ rfl (.slice (some ⟨w.heap.size, 0, none⟩) 1 1) 1 [wv p] rfl (OwnW.one w p) _ vs.length (vs.map wv) rfl (HC.out w (Below.refl _ _)) (by simp) (by simp [wv, Value.oneCell']) (by unfold maxLen; omega) (by omega) ?_; intro v' w3 hown hgrow hat)
      have hF := HM.out w (Below.refl _ _) v' w3 hown hgrow
      clear hown hgrow hat HM HC
      refine hF.mono ?_
      rintro en w4 ⟨rfl, r4, v4⟩
      have R4 := Lib.hid r4
      have V4 := Lib.hid v4
      clear hF r4 v4
      go_wp2_with fail
      go_ret2
      exact ⟨by simp, R4.out, V4.out⟩
    · have h1 : ((p : Int) != 20) = true := by rw [bne_iff_ne]; omega
      have h2 : (((M.typ p : Nat) : Int) != 7) = false := by rw [bne_eq_false_iff_eq]; omega
      generalize M.typ p = t at *
      clear c c1 r hv hmake hcell h
      go_enter Try.func23, Try.ntmps23
      go_wp2_with fail
      refine hT.mono ?_
      rintro en w1 ⟨rfl, b1⟩
      clear hT
      go_wp2_with (at_builtin; refine wpList_app E_word rfl _ _ rfl (.slice (some ⟨w1.heap.size, 0, none⟩) 1 1) 1 [wv p] rfl (OwnW.one w1 p) _ vs.length (vs.map wv) rfl (HC.out w1 b1) (by simp) (by simp [wv, Value.oneCell']) (by unfold maxLen; omega) (by omega) ?_; intro v' w3 hown hgrow hat)
      have hF := HM.out w1 b1 v' w3 hown hgrow
      clear hown hgrow hat HM HC
      refine hF.mono ?_
      rintro en w4 ⟨rfl, r4, v4⟩
      have R4 := Lib.hid r4
      have V4 := Lib.hid v4
      clear hF r4 v4
      go_wp2_with fail
      go_ret2
      exact ⟨by simp, R4.out, V4.out⟩

theorem fixOf_small {K : Int} (h0 : 0 ≤ K) (h1 : K ≤ 2147483647) : fixOf K = K.toNat * 8 := by unfold fixOf; omega

set_option maxRecDepth 10000 in
set_option maxHeartbeats 1000000 in
theorem push_any {hb : HB} {M M' : Hp} {w : World} (r : Rep hb M w) (K : Int) (p : Nat) (hp : p < 18446744073709551616) (v : Value) (vs : List Nat) (hv : SlWords w v vs) (hl : vs.length ≤ 1000000) (hx : ∀ x ∈ vs, x < 18446744073709551616)
    {x e : Nat} (h : M.push K p vs = (x, e, M')) :
    Calls Try.prog 19 #[.pointer (some ⟨hb.h, 0, none⟩), .int .i64 K, .int .u64 p, v] w fun en w' => en = .returned (.tuple #[.int .u64 x, .int .i64 e]) ∧ Rep hb M' w' ∧ Moves hb w w' := by
  have hT := type_any r p hp
  obtain ⟨a, cap, hva⟩ : ∃ a cap, v = .slice a vs.length cap := by
    rcases hv with ⟨rfl, rfl⟩ | ⟨b, o, cap, rfl, _⟩
    · exact ⟨none, 0, rfl⟩
    · exact ⟨_, _, rfl⟩
  subst hva
  unfold Hp.push at h
  have HV := Lib.hid hv
  have R := Lib.hid r
  have hFix : ∃ N E : Int, ∀ w, Calls Try.prog 67 #[.int .i64 K] w fun e w' => e = .returned (.tuple #[.int .u64 N, .int .i64 E]) ∧ w' = w := by
    by_cases c : -1152921504606846976 ≤ K ∧ K < 1152921504606846976
    · exact ⟨_, _, fun w => fix_yes K c.1 c.2 w⟩
    · exact ⟨_, _, fun w => fix_no K (by omega) w⟩
  by_cases c0 : K < 0
  · rw [if_pos (.inl c0)] at h
    cases h
    obtain ⟨N, E, hF⟩ := hFix
    clear r hv hT
    go_enter Try.func19, Try.ntmps19
    go_wp2_with fail
    refine (hF _).mono ?_
    rintro en w1 ⟨rfl, rfl⟩
    clear hF
    go_wp2_with fail
    go_ret2
    exact ⟨by simp, R.out, .refl _ _⟩
  · by_cases c1 : 2147483647 < K
    · rw [if_pos (.inr c1)] at h
      cases h
      obtain ⟨N, E, hF⟩ := hFix
      clear r hv hT
      go_enter Try.func19, Try.ntmps19
      go_wp2_with fail
      refine (hF _).mono ?_
      rintro en w1 ⟨rfl, rfl⟩
      clear hF
      go_wp2_with fail
      go_ret2
      exact ⟨by simp, R.out, .refl _ _⟩
    · rw [if_neg (by omega)] at h
      have hF := fun w => fix_yes K (by omega) (by omega) w
      rw [fixOf_small (by omega) (by omega)] at hF
      obtain ⟨k, rfl⟩ := Int.eq_ofNat_of_zero_le (show 0 ≤ K by omega)
      rw [Int.toNat_natCast] at *
      clear hFix
      by_cases c : p ≠ 20 ∧ M.typ p ≠ 8
      · rw [if_pos c] at h
        cases h
        have h1 : ((p : Int) != 20) = true := by rw [bne_iff_ne]; omega
        have h2 : (((M.typ p : Nat) : Int) != 8) = true := by rw [bne_iff_ne]; omega
        generalize M.typ p = t at *
        clear c r hv
        go_enter Try.func19, Try.ntmps19
        go_wp2_with fail
        refine (hF _).mono ?_
        rintro en w0 ⟨rfl, rfl⟩
        clear hF
        go_wp2_with fail
        refine hT.mono ?_
        rintro en w1 ⟨rfl, b1⟩
        clear hT
        go_wp2_with fail
        go_ret2
        exact ⟨by simp, R.out.below b1, .of_below b1⟩
      · rw [if_neg c] at h
        have hmake : ∀ (w2 : World), Below w.heap.size w w2 → ∀ (v' : Value) (w3 : World), w3.ownsRow 0 29 1 v' (2 + vs.length) ([wv (k * 8), wv p] ++ vs.map wv) → (w2.alloc (.cells #[wv (k * 8), wv p] 29)).grownBy w3 (some w2.heap.size) →
            Calls Try.prog 33 #[.pointer (some ⟨hb.h, 0, none⟩), .int .i64 8, .int .u64 0, v'] w3 fun en w' => en = .returned (.tuple #[.int .u64 x, .int .i64 e]) ∧ Rep hb M' w' ∧ Moves hb w w' := by
          intro w2 b2 v' w3 hown hgrow
          have ho : OwnW w3 v' (k * 8 :: p :: vs) := by
            unfold OwnW
            rw [show (k * 8 :: p :: vs).length = 2 + vs.length by simp; omega]
            exact hown
          have r2 := R.out.below b2
          have hlt := r2.lt
          have r3 : Rep hb M w3 := (r2.alloc _).grown hgrow (fun q hq hc => by
            have := hlt q hc
            simp only [Option.some.injEq] at hq; omega)
          have v3 : Moves hb w2 w3 := ((Moves.refl hb w2).alloc _).grown hgrow (fun q hq => by
            simp only [Option.some.injEq] at hq; omega)
          refine (make_any r3 8 0 8 0 rfl rfl (by omega) (by omega) (by omega) v' (k * 8 :: p :: vs) ho.sl ?_ h).mono ?_
          · intro y hy
            rcases List.mem_cons.1 hy with hy | hy
            · omega
            · rcases List.mem_cons.1 hy with hy | hy
              · rw [hy]; exact hp
              · exact hx y hy
          · rintro en w4 ⟨h1, h2, h3⟩
            exact ⟨h1, h2, ((Moves.of_below b2).trans v3).trans h3⟩
        have HM := Lib.hid hmake
        have hcell : ∀ w2, Below w.heap.size w w2 → SlCells (w2.alloc (.cells #[wv (k * 8), wv p] 29)) (.slice a vs.length cap) vs.length (vs.map wv) := fun w2 b2 => ((HV.out.below b2).below ((Below.refl _ _).alloc (Nat.le_refl _) _)).cells
        have HC := Lib.hid hcell
        have hone := fun w2 : World => OwnW.two w2 (k * 8) p
        have HO := Lib.hid hone
        have hk2 : ((k * 8 : Nat) : Int) = (k : Int) * 8 := by omega
        by_cases c1 : p = 20
        · have h1 : ((p : Int) != 20) = false := by rw [bne_eq_false_iff_eq]; omega
          clear c c1 r hv hT hmake hcell h hone hk2
          generalize k * 8 = k8 at *
          go_enter Try.func19, Try.ntmps19
          go_wp2_with fail
          refine (hF _).mono ?_
          rintro en w0 ⟨rfl, rfl⟩
          clear hF
          go_wp2_with (at_builtin; refine wpList_app E_word rfl _ _ rfl (.slice (some ⟨w0.heap.size, 0, none⟩) 2 2) 2 [wv k8, wv p] rfl (HO.out w0) _ vs.length (vs.map wv) rfl (HC.out w0 (Below.refl _ _)) (by simp) (by simp [wv, Value.oneCell']) (by unfold maxLen; omega) (by omega) ?_; intro v' w3 hown hgrow hat)
          have hF := HM.out w0 (Below.refl _ _) v' w3 hown hgrow
          clear hown hgrow hat HM HC HO
          refine hF.mono ?_
          rintro en w4 ⟨rfl, r4, v4⟩
          have R4 := Lib.hid r4
          have V4 := Lib.hid v4
          clear hF r4 v4
          go_wp2_with fail
          go_ret2
          exact ⟨by simp, R4.out, V4.out⟩
        · have h1 : ((p : Int) != 20) = true := by rw [bne_iff_ne]; omega
          have h2 : (((M.typ p : Nat) : Int) != 8) = false := by rw [bne_eq_false_iff_eq]; omega
          generalize M.typ p = t at *
          clear c c1 r hv hmake hcell h hone hk2
          generalize k * 8 = k8 at *
          go_enter Try.func19, Try.ntmps19
          go_wp2_with fail
          refine (hF _).mono ?_
          rintro en w0 ⟨rfl, rfl⟩
          clear hF
          go_wp2_with fail
          refine hT.mono ?_
          rintro en w1 ⟨rfl, b1⟩
          clear hT
          go_wp2_with (at_builtin; refine wpList_app E_word rfl _ _ rfl (.slice (some ⟨w1.heap.size, 0, none⟩) 2 2) 2 [wv k8, wv p] rfl (HO.out w1) _ vs.length (vs.map wv) rfl (HC.out w1 b1) (by simp) (by simp [wv, Value.oneCell']) (by unfold maxLen; omega) (by omega) ?_; intro v' w3 hown hgrow hat)
          have hF := HM.out w1 b1 v' w3 hown hgrow
          clear hown hgrow hat HM HC HO
          refine hF.mono ?_
          rintro en w4 ⟨rfl, r4, v4⟩
          have R4 := Lib.hid r4
          have V4 := Lib.hid v4
          clear hF r4 v4
          go_wp2_with fail
          go_ret2
          exact ⟨by simp, R4.out, V4.out⟩
end Go.Proofs.Ytecemlamoiepdaa
