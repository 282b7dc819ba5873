/- The contracts of package frame. -/
import Derived.Test.YtecemlamoiepdaaTotal
namespace Go.Proofs.Ytecemlamoiepdaa
open Go.RowKit

/-! ### Get, Set over every outcome -/
instance (M : Hp) (x : Nat) (K : Int) : Decidable (M.isnt x K) := by
  unfold Hp.isnt
  cases M.objOf x with
  | none => exact .isTrue (.inl rfl)
  | some p => exact (if h : ((M.typ x : Nat) : Int) ≠ K then .isTrue (.inr h) else .isFalse (fun h2 => by rcases h2 with h2 | h2; cases h2; exact h h2))

def Hp.getR (M : Hp) (x : Nat) (K I : Int) : Nat × Nat :=
  if M.isnt x K then (0, 3) else if I < 0 ∨ ((M.len x : Nat) : Int) ≤ I then (0, 4) else ((M.get x K.toNat I.toNat).getD 0, 0)

theorem Hp.not_isnt {M : Hp} {x : Nat} {K : Int} (h : ¬ M.isnt x K) : ∃ a n m, M.objOf x = some (a, M.typ x, n, m) ∧ ((M.typ x : Nat) : Int) = K ∧ M.len x = n := by
  unfold Hp.isnt at h
  cases ho : M.objOf x with
  | none => exact absurd (.inl ho) h
  | some p =>
    obtain ⟨a, k, n, m⟩ := p
    have ht : M.typ x = k := by unfold Hp.typ; rw [ho]
    exact ⟨a, n, m, by rw [ht], by by_cases e : ((M.typ x : Nat) : Int) = K; exact e; exact absurd (.inr e) h, by unfold Hp.len; rw [ho]⟩

theorem Hp.get_in {M : Hp} (o : M.Ok) {x : Nat} {K I : Int} (h : ¬ M.isnt x K) (h2 : ¬ (I < 0 ∨ ((M.len x : Nat) : Int) ≤ I)) : ∃ v, M.get x K.toNat I.toNat = some v := by
  obtain ⟨a, n, m, h3, h4, h5⟩ := Hp.not_isnt h
  have hf : M.fld x K.toNat I.toNat = some (a + 1 + I.toNat) := by
    unfold Hp.fld
    rw [h3]
    simp only
    rw [if_pos ⟨by omega, by omega⟩]
  obtain ⟨v, hv⟩ := Hp.fld_rd o hf
  exact ⟨v, by unfold Hp.get; rw [hf]; exact hv⟩

theorem get_any {hb : HB} {M : Hp} {w : World} (r : Rep hb M w) (x : Nat) (hx : x < 18446744073709551616) (K I : Int) {v e : Nat} (h : M.getR x K I = (v, e)) :
    Calls Try.prog 41 #[.pointer (some ⟨hb.h, 0, none⟩), .int .u64 x, .int .i64 K, .int .i64 I] w fun en w' => en = .returned (.tuple #[.int .u64 v, .int .i64 e]) ∧ Below w.heap.size w w' := by
  unfold Hp.getR at h
  split at h
  · cases h; exact get_type r x hx K I ‹_›
  · rename_i h1
    split at h
    · cases h
      obtain ⟨a, n, m, h3, h4, h5⟩ := Hp.not_isnt h1
      exact get_range r x hx K I (by rw [h3]; simp) h4 ‹_›
    · rename_i h2
      obtain ⟨u, hu⟩ := Hp.get_in r.ok h1 h2
      rw [hu] at h
      cases h
      obtain ⟨a, n, m, h3, h4, h5⟩ := Hp.not_isnt h1
      exact get_ok r x hx K I K.toNat I.toNat (by omega) (by omega) hu

def Hp.setR (M : Hp) (x : Nat) (K I : Int) (v : Nat) : Nat × Hp :=
  if M.isnt x K then (3, M) else if I < 0 ∨ ((M.len x : Nat) : Int) ≤ I then (4, M) else (0, (M.setF x K.toNat I.toNat v).getD M)

theorem set_any {hb : HB} {M M' : Hp} {w : World} (r : Rep hb M w) (x v : Nat) (hx : x < 18446744073709551616) (hv : v < 18446744073709551616) (K I : Int) {e : Nat} (h : M.setR x K I v = (e, M')) :
    Calls Try.prog 35 #[.pointer (some ⟨hb.h, 0, none⟩), .int .u64 x, .int .i64 K, .int .i64 I, .int .u64 v] w fun en w' => en = .returned (.int .i64 e) ∧ Rep hb M' w' ∧ Moves hb w w' := by
  unfold Hp.setR at h
  split at h
  · cases h; exact (set_type r x v hx K I ‹_›).mono fun e w' ⟨h1, h2⟩ => ⟨h1, r.below h2, .of_below h2⟩
  · rename_i h1
    obtain ⟨a, n, m, h3, h4, h5⟩ := Hp.not_isnt h1
    split at h
    · cases h
      exact (set_range r x v hx K I (by rw [h3]; simp) h4 ‹_›).mono fun e w' ⟨h1, h2⟩ => ⟨h1, r.below h2, .of_below h2⟩
    · rename_i h2
      have hf : M.fld x K.toNat I.toNat = some (a + 1 + I.toNat) := by
        unfold Hp.fld
        rw [h3]
        simp only
        rw [if_pos ⟨by omega, by omega⟩]
      have hs : M.setF x K.toNat I.toNat v = some (M.wr (a + 1 + I.toNat) v) := by unfold Hp.setF; rw [hf]; rfl
      rw [hs] at h
      cases h
      exact set_ok r x hx K I K.toNat I.toNat v hv (by omega) (by omega) hs

/-! ### is, Count, Fields -/
def Hp.frIs (M : Hp) (x k l : Nat) : Bool := decide (M.typ x = k) && decide (l ≤ M.len x)

set_option maxHeartbeats 400000 in
theorem fris_any {hb : HB} {M : Hp} {w : World} (r : Rep hb M w) (x : Nat) (hx : x < 18446744073709551616) (K L : Int) (k l : Nat) (hK : K = k) (hL : L = l) :
    Calls Try.prog 66 #[.pointer (some ⟨hb.h, 0, none⟩), .int .u64 x, .int .i64 K, .int .i64 L] w fun e w' => e = .returned (.bool (M.frIs x k l)) ∧ Below w.heap.size w w' := by
  have hT := type_any r x hx
  subst hK hL
  unfold Hp.frIs
  by_cases h : M.typ x = k
  · have hb1 : (((M.typ x : Nat) : Int) == (k : Int)) = true := by rw [beq_iff_eq]; omega
    rw [decide_eq_true h]
    have R := Lib.hid r
    generalize M.typ x = t at *
    clear r h
    go_enter Try.func66, Try.ntmps66
    go_wp2_with fail
    refine hT.mono ?_
    rintro e w1 ⟨rfl, b1⟩
    have hN := len_any (R.out.below b1) x hx
    clear hT R
    go_wp2_with fail
    refine hN.mono ?_
    rintro e w2 ⟨rfl, b2⟩
    clear hN
    go_wp2_with fail
    go_ret
    exact ⟨ret_b (by simp), b1.trans (b2.mono b1.size)⟩
  · have hb1 : (((M.typ x : Nat) : Int) == (k : Int)) = false := by rw [beq_eq_false_iff_ne]; omega
    rw [decide_eq_false h]
    generalize M.typ x = t at *
    clear r h
    go_enter Try.func66, Try.ntmps66
    go_wp2_with fail
    refine hT.mono ?_
    rintro e w1 ⟨rfl, b1⟩
    clear hT
    go_wp2_with fail
    go_ret
    exact ⟨ret_b (by simp), b1⟩

def Hp.frCount (M : Hp) (x : Nat) : Nat := if M.frIs x 7 1 then M.len x - 1 else 0
def Hp.frFields (M : Hp) (x : Nat) : Nat := if M.frIs x 8 2 then M.len x - 2 else 0

theorem Hp.len_le {M : Hp} {x : Nat} : M.len x ≤ 62 := by
  unfold Hp.len
  split
  · rename_i ho; exact (Hp.objOf_lt ho).2.1
  · omega

theorem Hp.frIs_len {M : Hp} {x k l : Nat} (h : M.frIs x k l = true) : M.typ x = k ∧ l ≤ M.len x := by
  unfold Hp.frIs at h
  simpa using h

set_option maxHeartbeats 400000 in
theorem count_any {hb : HB} {M : Hp} {w : World} (r : Rep hb M w) (x : Nat) (hx : x < 18446744073709551616) :
    Calls Try.prog 25 #[.pointer (some ⟨hb.h, 0, none⟩), .int .u64 x] w fun e w' => e = .returned (.int .i64 (M.frCount x : Nat)) ∧ Below w.heap.size w w' := by
  have hI := fris_any r x hx 7 1 7 1 rfl rfl
  unfold Hp.frCount
  cases h : M.frIs x 7 1 with
  | false =>
    rw [h] at hI
    clear r h
    go_enter Try.func25, Try.ntmps25
    go_wp2_with fail
    refine hI.mono ?_
    rintro e w1 ⟨rfl, b1⟩
    clear hI
    go_wp2_with fail
    go_ret
    exact ⟨rfl, b1⟩
  | true =>
    rw [h] at hI
    obtain ⟨_, hl⟩ := Hp.frIs_len h
    have hl62 := M.len_le (x := x)
    have R := Lib.hid r
    clear r h
    go_enter Try.func25, Try.ntmps25
    go_wp2_with fail
    refine hI.mono ?_
    rintro e w1 ⟨rfl, b1⟩
    have hN := len_any (R.out.below b1) x hx
    clear hI R
    generalize hn : M.len x = n at *
    have HN := Lib.hid hn
    clear hn
    go_wp2_with fail
    refine hN.mono ?_
    rintro e w2 ⟨rfl, b2⟩
    clear hN
    go_wp2_with fail
    go_ret
    exact ⟨ret_i (by have := HN.out; omega), b1.trans (b2.mono b1.size)⟩

set_option maxHeartbeats 400000 in
theorem fields_any {hb : HB} {M : Hp} {w : World} (r : Rep hb M w) (x : Nat) (hx : x < 18446744073709551616) :
    Calls Try.prog 20 #[.pointer (some ⟨hb.h, 0, none⟩), .int .u64 x] w fun e w' => e = .returned (.int .i64 (M.frFields x : Nat)) ∧ Below w.heap.size w w' := by
  have hI := fris_any r x hx 8 2 8 2 rfl rfl
  unfold Hp.frFields
  cases h : M.frIs x 8 2 with
  | false =>
    rw [h] at hI
    clear r h
    go_enter Try.func20, Try.ntmps20
    go_wp2_with fail
    refine hI.mono ?_
    rintro e w1 ⟨rfl, b1⟩
    clear hI
    go_wp2_with fail
    go_ret
    exact ⟨rfl, b1⟩
  | true =>
    rw [h] at hI
    obtain ⟨_, hl⟩ := Hp.frIs_len h
    have hl62 := M.len_le (x := x)
    have R := Lib.hid r
    clear r h
    go_enter Try.func20, Try.ntmps20
    go_wp2_with fail
    refine hI.mono ?_
    rintro e w1 ⟨rfl, b1⟩
    have hN := len_any (R.out.below b1) x hx
    clear hI R
    generalize hn : M.len x = n at *
    have HN := Lib.hid hn
    clear hn
    go_wp2_with fail
    refine hN.mono ?_
    rintro e w2 ⟨rfl, b2⟩
    clear hN
    go_wp2_with fail
    go_ret
    exact ⟨ret_i (by have := HN.out; omega), b1.trans (b2.mono b1.size)⟩

/-! ### Kind, Next, Field -/
def Hp.frKind (M : Hp) (x : Nat) : Nat × Nat :=
  if (M.getR x 8 0).2 = 0 ∧ tagOf (M.getR x 8 0).1 = 0 ∧ 0 ≤ numOf (M.getR x 8 0).1 ∧ numOf (M.getR x 8 0).1 ≤ 2147483647 ∧ 2 ≤ M.len x then ((numOf (M.getR x 8 0).1).toNat, 0) else (0, 3)

theorem Hp.getR_lt {M : Hp} (o : M.Ok) {x : Nat} {K I : Int} : (M.getR x K I).1 < 18446744073709551616 := by
  unfold Hp.getR
  split
  · simp
  · split
    · simp
    · rename_i h1 h2
      obtain ⟨v, hv⟩ := Hp.get_in o h1 h2
      rw [hv]
      unfold Hp.get at hv
      cases hf : M.fld x K.toNat I.toNat with
      | none => rw [hf] at hv; cases hv
      | some a =>
        rw [hf] at hv
        obtain ⟨s, h3, h4⟩ := Hp.rd_some hv
        exact o.word _ _ h3 v (List.mem_of_getElem? h4)

theorem numOf_lt {x : Nat} (hx : x < 18446744073709551616) : -1152921504606846976 ≤ numOf x ∧ numOf x < 1152921504606846976 := by
  unfold numOf
  split <;> omega

set_option maxRecDepth 10000 in
set_option maxHeartbeats 800000 in
theorem kind_any {hb : HB} {M : Hp} {w : World} (r : Rep hb M w) (x : Nat) (hx : x < 18446744073709551616) {k e : Nat} (h : M.frKind x = (k, e)) :
    Calls Try.prog 17 #[.pointer (some ⟨hb.h, 0, none⟩), .int .u64 x] w fun en w' => en = .returned (.tuple #[.int .i64 k, .int .i64 e]) ∧ Below w.heap.size w w' := by
  obtain ⟨v, e0, hg⟩ : ∃ v e0, M.getR x 8 0 = (v, e0) := ⟨_, _, rfl⟩
  have hG := get_any r x hx 8 0 hg
  have hv : v < 18446744073709551616 := by have := Hp.getR_lt (x := x) (K := 8) (I := 0) r.ok; rw [hg] at this; exact this
  unfold Hp.frKind at h
  rw [hg] at h
  simp only at h
  by_cases c0 : e0 = 0
  · subst c0
    by_cases c1 : tagOf v = 0
    · have hI := fun w => int_yes v hv c1 w
      obtain ⟨N, hN⟩ : ∃ N, numOf v = N := ⟨_, rfl⟩
      have hNb := numOf_lt hv
      rw [hN] at h hI hNb
      have hL := fun (w' : World) (b : Below w.heap.size w w') => len_any (r.below b) x hx
      have HL := Lib.hid hL
      have hl62 := M.len_le (x := x)
      generalize M.len x = n at *
      clear hL hg r hN
      by_cases c2 : 0 ≤ N
      · by_cases c3 : N ≤ 2147483647
        · by_cases c4 : 2 ≤ n
          · rw [if_pos ⟨rfl, c1, c2, c3, c4⟩] at h
            cases h
            clear c1
            go_enter Try.func17, Try.ntmps17
            go_wp2_with fail
            refine hG.mono ?_
            rintro en w1 ⟨rfl, b1⟩
            clear hG
            go_wp2_with fail
            refine (hI _).mono ?_
            rintro en w2 ⟨rfl, rfl⟩
            clear hI
            go_wp2_with fail
            refine (HL.out _ b1).mono ?_
            rintro en w3 ⟨rfl, b3⟩
            clear HL
            go_wp2_with fail
            go_ret2
            exact ⟨by simp; omega, b1.trans (b3.mono b1.size)⟩
          · rw [if_neg (fun hc => c4 hc.2.2.2.2)] at h
            cases h
            clear c1
            go_enter Try.func17, Try.ntmps17
            go_wp2_with fail
            refine hG.mono ?_
            rintro en w1 ⟨rfl, b1⟩
            clear hG
            go_wp2_with fail
            refine (hI _).mono ?_
            rintro en w2 ⟨rfl, rfl⟩
            clear hI
            go_wp2_with fail
            refine (HL.out _ b1).mono ?_
            rintro en w3 ⟨rfl, b3⟩
            clear HL
            go_wp2_with fail
            go_ret2
            exact ⟨by simp, b1.trans (b3.mono b1.size)⟩
        · rw [if_neg (fun hc => c3 hc.2.2.2.1)] at h
          cases h
          clear c1 HL
          go_enter Try.func17, Try.ntmps17
          go_wp2_with fail
          refine hG.mono ?_
          rintro en w1 ⟨rfl, b1⟩
          clear hG
          go_wp2_with fail
          refine (hI _).mono ?_
          rintro en w2 ⟨rfl, rfl⟩
          clear hI
          go_wp2_with fail
          go_ret2
          exact ⟨by simp, b1⟩
      · rw [if_neg (fun hc => c2 hc.2.2.1)] at h
        cases h
        clear c1 HL
        go_enter Try.func17, Try.ntmps17
        go_wp2_with fail
        refine hG.mono ?_
        rintro en w1 ⟨rfl, b1⟩
        clear hG
        go_wp2_with fail
        refine (hI _).mono ?_
        rintro en w2 ⟨rfl, rfl⟩
        clear hI
        go_wp2_with fail
        go_ret2
        exact ⟨by simp, b1⟩
    · rw [if_neg (fun hc => c1 hc.2.1)] at h
      cases h
      have hI := fun w => int_no v hv c1 w
      clear c1 r hg
      go_enter Try.func17, Try.ntmps17
      go_wp2_with fail
      refine hG.mono ?_
      rintro en w1 ⟨rfl, b1⟩
      clear hG
      go_wp2_with fail
      refine (hI _).mono ?_
      rintro en w2 ⟨rfl, rfl⟩
      clear hI
      go_wp2_with fail
      go_ret2
      exact ⟨by simp, b1⟩
  · rw [if_neg (fun hc => c0 hc.1)] at h
    cases h
    have hne : ((e0 : Int) != 0) = true := by rw [bne_iff_ne]; omega
    have hI : ∀ w, ∃ N b, Calls Try.prog 65 #[.int .u64 v] w fun e w' => e = .returned (.tuple #[.int .i64 N, .bool b]) ∧ w' = w := by
      intro w
      by_cases c1 : tagOf v = 0
      · exact ⟨_, _, int_yes v hv c1 w⟩
      · exact ⟨_, _, int_no v hv c1 w⟩
    have HI := Lib.hid hI
    clear r hg hI c0
    go_enter Try.func17, Try.ntmps17
    go_wp2_with fail
    refine hG.mono ?_
    rintro en w1 ⟨rfl, b1⟩
    obtain ⟨N, b, hN⟩ := HI.out w1
    clear hG HI
    go_wp2_with fail
    refine hN.mono ?_
    rintro en w2 ⟨rfl, rfl⟩
    clear hN
    go_wp2_with fail
    go_ret2
    exact ⟨by simp, b1⟩
end Go.Proofs.Ytecemlamoiepdaa
