/- The contracts of card's Store (no card is marked: all is of one generation), and of obj's stores. -/
import Derived.Test.YtecemlamoiepdaaPair
import Derived.Deep.RegionHeld3
namespace Go.Proofs.Ytecemlamoiepdaa
open Go.RowKit

set_option maxHeartbeats 400000 in
theorem cnone_no {hb : HB} {M : Hp} {w : World} (r : Rep hb M w) :
    Calls Try.prog 105 #[.pointer (some ⟨hb.c, 0, none⟩)] w fun e w' => e = .returned (.bool false) ∧ w' = w := by
  have c0 := r.c0
  have s0 := r.s0
  clear r
  go_enter Try.func105, Try.ntmps105
  go_wp2
  go_ret
  exact ⟨rfl, rfl⟩

/-- is there a thing? -/
def Hp.genOf (M : Hp) (x : Nat) : Bool := addrOk x && !decide (tagOf x = 6) && decide (x / 8 / 64 < M.segs.length)

set_option maxHeartbeats 800000 in
theorem gen_any {hb : HB} {M : Hp} {w : World} (r : Rep hb M w) (x : Nat) (hx : x < 18446744073709551616) :
    Calls Try.prog 62 #[.pointer (some ⟨hb.c, 0, none⟩), .int .u64 x] w fun e w' => e = .returned (.tuple #[.int .i64 0, .bool (M.genOf x)]) ∧ Below w.heap.size w w' := by
  cases h1 : addrOk x with
  | false =>
    have hE : M.genOf x = false := by unfold Hp.genOf; rw [h1]; rfl
    have hA := addr_no x hx h1 w
    rw [hE]
    clear h1 hE
    go_enter Try.func62, Try.ntmps62
    go_wp2_with fail
    refine hA.mono ?_
    rintro e w1 ⟨rfl, b1⟩
    have hN := cnone_no (r.below b1)
    clear hA r
    go_wp2_with fail
    refine hN.mono ?_
    rintro e w2 ⟨rfl, rfl⟩
    clear hN
    go_wp2_with fail
    go_ret2
    exact ⟨by simp, b1⟩
  | true =>
    have hlt := addrOk_lt h1
    have hA := addr_yes x hx h1 w
    by_cases h2 : tagOf x = 6
    · have hE : M.genOf x = false := by unfold Hp.genOf; rw [h2]; simp
      have hG := fun w => tag_eq x 6 6 rfl h2 hx w
      rw [hE]
      clear h1 hE h2
      go_enter Try.func62, Try.ntmps62
      go_wp2_with fail
      refine hA.mono ?_
      rintro e w1 ⟨rfl, b1⟩
      have hN := cnone_no (r.below b1)
      clear hA r
      go_wp2_with fail
      refine hN.mono ?_
      rintro e w2 ⟨rfl, rfl⟩
      clear hN
      go_wp2_with fail
      refine (hG _).mono ?_
      rintro e w2 ⟨rfl, rfl⟩
      clear hG
      go_wp2_with fail
      go_ret2
      exact ⟨by simp, b1⟩
    · have hE : M.genOf x = decide (x / 8 / 64 < M.segs.length) := by unfold Hp.genOf; rw [h1]; simp [h2]
      have h5 : (((tagOf x : Nat) : Int) == 6) = false := by rw [beq_eq_false_iff_ne]; omega
      have hG := tag_any x hx
      rw [hE]
      clear hE h2 h1
      by_cases h3 : x / 8 / 64 < M.segs.length
      · rw [decide_eq_true h3]
        obtain ⟨s, hs⟩ : ∃ s, M.segs[x / 8 / 64]? = some s := ⟨_, List.getElem?_eq_getElem h3⟩
        go_enter Try.func62, Try.ntmps62
        go_wp2_with fail
        refine hA.mono ?_
        rintro e w1 ⟨rfl, b1⟩
        have r1 := r.below b1
        have hN := cnone_no r1
        have hS := seg_yes r1 ((x / 8 : Nat) / 64 : Int) (s := s) (by omega) (by rw [show (((x / 8 : Nat) : Int) / 64).toNat = x / 8 / 64 by omega]; exact hs)
        have c2 := r1.c0
        have c3 := r1.s0
        have B1 := Lib.hid b1
        clear hA r r1 hs h3 b1
        generalize x / 8 = q at *
        go_wp2_with fail
        refine hN.mono ?_
        rintro e w2 ⟨rfl, rfl⟩
        clear hN
        go_wp2_with fail
        refine (hG _).mono ?_
        rintro e w2 ⟨rfl, rfl⟩
        clear hG
        go_wp2_with fail
        refine hS.mono ?_
        rintro e w3 ⟨rfl, b3⟩
        have B3 := Lib.hid b3
        unfold Sg.told
        clear hS b3
        go_wp2
        go_ret2
        exact ⟨by simp, (B1.out.trans (B3.out.mono B1.out.size)).alloc (Nat.le_trans B1.out.size B3.out.size) _⟩
      · rw [decide_eq_false h3]
        go_enter Try.func62, Try.ntmps62
        go_wp2_with fail
        refine hA.mono ?_
        rintro e w1 ⟨rfl, b1⟩
        have r1 := r.below b1
        have hN := cnone_no r1
        have hS := seg_no r1 ((x / 8 : Nat) / 64 : Int) (.inr (by rw [show (((x / 8 : Nat) : Int) / 64).toNat = x / 8 / 64 by omega]; omega))
        have c2 := r1.c0
        have c3 := r1.s0
        have B1 := Lib.hid b1
        clear hA r r1 h3 b1
        generalize x / 8 = q at *
        go_wp2_with fail
        refine hN.mono ?_
        rintro e w2 ⟨rfl, rfl⟩
        clear hN
        go_wp2_with fail
        refine (hG _).mono ?_
        rintro e w2 ⟨rfl, rfl⟩
        clear hG
        go_wp2_with fail
        refine hS.mono ?_
        rintro e w3 ⟨rfl, b3⟩
        have B3 := Lib.hid b3
        clear hS b3
        go_wp2
        go_ret2
        exact ⟨by simp, (B1.out.trans (B3.out.mono B1.out.size)).alloc (Nat.le_trans B1.out.size B3.out.size) _⟩

set_option maxHeartbeats 800000 in
theorem younger_any {hb : HB} {M : Hp} {w : World} (r : Rep hb M w) (s : Sg) (x : Nat) (hx : x < 18446744073709551616) (m : Int) :
    Calls Try.prog 115 #[.pointer (some ⟨hb.c, 0, none⟩), s.told, .int .u64 x, .int .i64 m] w fun e w' => e = .returned (.int .i64 m) ∧ Below w.heap.size w w' := by
  have hG := gen_any (r.alloc (.cells #[.int .i64 0, .int .i64 s.kind, .int .i64 s.words.length, .int .i64 5, .int .i64 5, .int .i64 5, .int .i64 5] 175)) x hx
  unfold Sg.told
  clear r hx
  cases hg : M.genOf x with
  | false =>
    rw [hg] at hG
    clear hg
    go_enter Try.func115, Try.ntmps115
    go_wp2_with fail
    refine hG.mono ?_
    rintro e w1 ⟨rfl, b1⟩
    clear hG
    go_wp2_with fail
    go_ret
    exact ⟨rfl, ((Below.refl _ _).alloc (Nat.le_refl _) _).trans (b1.mono (by simp))⟩
  | true =>
    rw [hg] at hG
    clear hg
    by_cases hk : s.kind = 3
    all_goals
      first
        | (have hk2 : ((s.kind : Int) != 3) = false := by rw [bne_eq_false_iff_eq]; omega)
        | (have hk2 : ((s.kind : Int) != 3) = true := by rw [bne_iff_ne]; omega)
      clear hk
      go_enter Try.func115, Try.ntmps115
      go_wp2_with fail
      refine hG.mono ?_
      rintro e w1 ⟨rfl, b1⟩
      obtain ⟨hc, hf⟩ := bcell b1
      have c0 := (hc w.heap.size 0 (by simp)).trans (World.cell?_alloc_new (w := w) #[.int .i64 0, .int .i64 s.kind, .int .i64 s.words.length, .int .i64 5, .int .i64 5, .int .i64 5, .int .i64 5] 175 0)
      have c1 := (hc w.heap.size 1 (by simp)).trans (World.cell?_alloc_new (w := w) #[.int .i64 0, .int .i64 s.kind, .int .i64 s.words.length, .int .i64 5, .int .i64 5, .int .i64 5, .int .i64 5] 175 1)
      simp at c0 c1
      have B1 := Lib.hid b1
      clear hG hc hf b1
      go_wp2_with fail
      go_ret
      exact ⟨rfl, ((Below.refl _ _).alloc (Nat.le_refl _) _).trans (B1.out.mono (by simp))⟩

set_option maxHeartbeats 800000 in
theorem mark_ok {hb : HB} {M : Hp} {w : World} (r : Rep hb M w) (k i : Int) {s : Sg} (h0 : 0 ≤ k) (hk : M.segs[k.toNat]? = some s) (hi0 : 0 ≤ i) (hi4 : i < 4) :
    Calls Try.prog 114 #[.pointer (some ⟨hb.m, 0, none⟩), .int .i64 k, .int .i64 i, .int .i64 5] w fun e w' => e = .returned (.int .i64 0) ∧ Rep hb M w' ∧ Moves hb w w' := by
  have ha := at_yes r k h0 hk
  obtain ⟨j, rfl⟩ := Int.eq_ofNat_of_zero_le hi0
  have ck := r.gk hk (3 + j) (by omega) (by omega)
  have cf := r.fg (k.toNat * 72 + 3 + j)
  rw [← Nat.add_assoc] at ck
  have hfin : Rep hb M (w.setCell ⟨hb.g, k.toNat * 72 + 3 + j, none⟩ (.int .i64 5)) := by
    have h := r.store (j := 3 + j) hk (by omega) s (.int .i64 5) rfl (r.ok.room _ _ hk) (r.ok.word _ _ hk) (r.ok.even _ _ hk) (by
      intro q hq
      split
      · rename_i e
        subst e
        unfold Sg.cell
        rw [if_neg (by omega), if_neg (by omega), if_neg (by omega), if_pos (by omega)]
      · rfl)
    have hu : M.upd k.toNat s = M := by
      unfold Hp.upd
      have : M.segs.set k.toNat s = M.segs := by
        apply List.ext_getElem?
        intro q
        rw [List.getElem?_set]
        split
        · rename_i e; subst e; rw [hk, if_pos (r.seg_lt hk)]
        · rfl
      rw [this]
    rw [hu, ← Nat.add_assoc] at h
    exact h
  have Hf := Lib.hid hfin
  have Hm := Lib.hid ((Moves.refl hb w).setCell (p := ⟨hb.g, k.toNat * 72 + 3 + j, none⟩) (.inr (.inr (.inr (.inr rfl)))) (.int .i64 5))
  generalize k.toNat * 72 = p at *
  clear r h0 hk hfin
  go_enter Try.func114, Try.ntmps114
  go_wp2_with fail
  refine ha.mono ?_
  rintro e w2 ⟨rfl, rfl⟩
  clear ha
  go_wp2_with fail
  go_ret
  exact ⟨rfl, Hf.out, Hm.out⟩

set_option maxHeartbeats 1000000 in
theorem store_ok {hb : HB} {M : Hp} {w : World} (r : Rep hb M w) (a : Int) (x : Nat) {v : Nat} (ha0 : 0 ≤ a) (ha : M.rd a.toNat = some v) (hx : x < 18446744073709551616) :
    Calls Try.prog 74 #[.pointer (some ⟨hb.c, 0, none⟩), .int .i64 a, .int .u64 x] w fun e w' => e = .returned (.int .i64 0) ∧ Rep hb (M.wr a.toNat x) w' ∧ Moves hb w w' := by
  have hN := cnone_no r
  have hW := write_yes r a ha0 ha hx
  have c0 := r.c0
  have s0 := r.s0
  obtain ⟨q, rfl⟩ := Int.eq_ofNat_of_zero_le ha0
  rw [Int.toNat_natCast] at *
  have hq : q < 65536 := by
    obtain ⟨s, h1, h2⟩ := Hp.rd_some ha
    have := r.seg_lt h1
    have := r.ok.len
    have := r.ok.lim
    omega
  obtain ⟨s, hs⟩ : ∃ s, (M.wr q x).segs[q / 64]? = some s := by
    obtain ⟨s, h1, h2⟩ := Hp.rd_some ha
    have hl := r.seg_lt h1
    refine ⟨_, List.getElem?_eq_getElem ?_⟩
    unfold Hp.wr
    rw [h1]
    simpa [Hp.upd] using hl
  clear r ha0 ha
  go_enter Try.func74, Try.ntmps74
  go_wp2_with fail
  refine hN.mono ?_
  rintro e w2 ⟨rfl, rfl⟩
  clear hN
  go_wp2_with fail
  refine hW.mono ?_
  rintro e w3 ⟨rfl, r3, v3⟩
  have hS := seg_yes r3 ((q : Int) / 64) (s := s) (by omega) (by rw [show ((q : Int) / 64).toNat = q / 64 by omega]; exact hs)
  have c3 := r3.c0
  have s3 := r3.s0
  have R3 := Lib.hid r3
  have V3 := Lib.hid v3
  clear hW c0 s0 r3 v3
  go_wp2_with fail
  refine hS.mono ?_
  rintro e w4 ⟨rfl, b4⟩
  have r4 := R3.out.below b4
  have B4 := Lib.hid b4
  clear hS c3 s3 b4
  unfold Sg.told
  go_wp2
  obtain ⟨W, hW⟩ : ∃ W, w4.alloc (.cells #[.int .i64 0, .int .i64 s.kind, .int .i64 s.words.length, .int .i64 5, .int .i64 5, .int .i64 5, .int .i64 5] 175) = W := ⟨_, rfl⟩
  have rW : Rep hb (M.wr q x) W := hW ▸ r4.alloc _
  have e0 : ∀ i, W.cell? ⟨w4.heap.size, i, none⟩ = (#[.int .i64 0, .int .i64 s.kind, .int .i64 s.words.length, .int .i64 5, .int .i64 5, .int .i64 5, .int .i64 5] : Array Value)[i]? := by
    intro i
    rw [← hW]
    simp
  have hsz : w4.heap.size < W.heap.size := by rw [← hW]; simp
  have vW : Moves hb w4 W := hW ▸ (Moves.refl hb w4).alloc _
  have nb : ¬ hb.has w4.heap.size := fun hc => Nat.lt_irrefl _ (r4.lt _ hc)
  rw [hW]
  obtain ⟨j, hj⟩ : ∃ j : Nat, (q : Int) % 64 / 16 = (j : Int) := ⟨q % 64 / 16, by omega⟩
  rw [hj]
  have hj4 : j < 4 := by omega
  have fj : W.cell? ⟨w4.heap.size, 3 + j, none⟩ = some (.int .i64 5) := by
    rw [e0]
    match j, hj4 with
    | 0, _ | 1, _ | 2, _ | 3, _ => rfl
  have hj5 : (0 : Int) ≤ (j : Int) := by omega
  have hj6 : (j : Int) < 4 := by omega
  have HJ := Lib.hid hj
  clear hj
  have f0 := e0 0
  have f1 := e0 1
  have f2 := e0 2
  have f3 := e0 3
  have f4 := e0 4
  have f5 := e0 5
  have f6 := e0 6
  simp only [List.getElem?_toArray, List.getElem?_cons_zero, List.getElem?_cons_succ] at f0 f1 f2 f3 f4 f5 f6
  have RW := Lib.hid rW
  have VW := Lib.hid vW
  have NB := Lib.hid nb
  have hY := fun (W' : World) (r' : Rep hb (M.wr q x) W') => younger_any r' s x hx 5
  unfold Sg.told at hY
  have HY := Lib.hid hY
  have gc := rW.c0
  have gs := rW.s0
  have hcl := rW.lt hb.c (.inr (.inl rfl))
  have hsl := rW.lt hb.s (.inr (.inr (.inl rfl)))
  clear hY rW vW nb e0 hW r4
  generalize w4.heap.size = B at *
  go_region_held3 (fun W' => W'.cell? ⟨hb.c, 0, none⟩ = some (.pointer (some ⟨hb.s, 0, none⟩)) ∧ W'.cell? ⟨hb.s, 0, none⟩ = some (.pointer (some ⟨hb.m, 0, none⟩)) ∧ W'.cell? ⟨B, 0, none⟩ = some (.int .i64 0) ∧ W'.cell? ⟨B, 1, none⟩ = some (.int .i64 s.kind) ∧ W'.cell? ⟨B, 2, none⟩ = some (.int .i64 s.words.length) ∧
      W'.cell? ⟨B, 3, none⟩ = some (.int .i64 5) ∧ W'.cell? ⟨B, 4, none⟩ = some (.int .i64 5) ∧ W'.cell? ⟨B, 5, none⟩ = some (.int .i64 5) ∧ W'.cell? ⟨B, 6, none⟩ = some (.int .i64 5) ∧ W'.cell? ⟨B, 3 + j, none⟩ = some (.int .i64 5)) (go_keep) (first
    | (go_at_call 115; refine (HY.out _ RW.out.drew).mono ?_; rintro e w5 ⟨rfl, b5⟩; have hc5 : ∀ b o, b < W.heap.size → w5.cell? ⟨b, o, none⟩ = W.cell? ⟨b, o, none⟩ := fun b o h => b5.cell (p := ⟨b, o, none⟩) h; have r5 := RW.out.drew.below b5; have hB5 : B < w5.heap.size := Nat.lt_of_lt_of_le hsz b5.size)
    | (go_at_call 114; refine (mark_ok (by assumption) _ _ (s := s) (by omega) (by assumption) (by omega) (by omega)).mono ?_; rintro e w6 ⟨rfl, r6, v6⟩; have q1 := r6.c0; have q2 := r6.s0; have hc6 : ∀ o, w6.cell? ⟨B, o, none⟩ = w5.cell? ⟨B, o, none⟩ := fun o => v6.cell (p := ⟨B, o, none⟩) hB5 NB.out))
  have R6 := Lib.hid r6
  have V6 := Lib.hid ((((V3.out.trans (.of_below B4.out)).trans VW.out).drew.trans (.of_below b5)).trans v6)
  clear r6 v6 b5 q1 q2
  go_wp2
  go_ret
  exact ⟨rfl, R6.out, V6.out⟩

/-! ### set, SetCar, SetCdr -/
def Hp.setHalf (M : Hp) (x i v : Nat) : Option Hp := (M.pairOf x).map fun a => M.wr (a + i) v

set_option maxHeartbeats 400000 in
theorem hset_ok {hb : HB} {M M' : Hp} {w : World} (r : Rep hb M w) (x v : Nat) (hx : x < 18446744073709551616) (hv : v < 18446744073709551616) (I : Int) (i : Nat) (hI : I = i) (hi : i < 2) (h : M.setHalf x i v = some M') :
    Calls Try.prog 86 #[.pointer (some ⟨hb.h, 0, none⟩), .int .u64 x, .int .i64 I, .int .u64 v] w fun e w' => e = .returned (.int .i64 0) ∧ Rep hb M' w' ∧ Moves hb w w' := by
  unfold Hp.setHalf at h
  cases hp : M.pairOf x with
  | none => rw [hp] at h; cases h
  | some a =>
    rw [hp] at h
    cases h
    subst hI
    have ha := Hp.pairOf_lt hp
    obtain ⟨u, hu⟩ := Hp.pairOf_rd r.ok hp i hi
    have hA := hpair_hit r x hx hp
    clear hp
    go_enter Try.func86, Try.ntmps86
    go_wp2_with fail
    refine hA.mono ?_
    rintro e w1 ⟨rfl, b1⟩
    have r1 := r.below b1
    have hB := store_ok r1 ((a : Int) + (i : Int)) v (v := u) (by omega) (by rw [show ((a : Int) + (i : Int)).toNat = a + i by omega]; exact hu) hv
    rw [show ((a : Int) + (i : Int)).toNat = a + i by omega] at hB
    have c1 := r1.h0
    have B1 := Lib.hid b1
    clear hA r r1 hu b1
    go_wp2_with fail
    refine hB.mono ?_
    rintro e w2 ⟨rfl, r2, v2⟩
    have R2 := Lib.hid r2
    have V2 := Lib.hid v2
    clear hB r2 v2
    go_wp2_with fail
    go_ret
    exact ⟨rfl, R2.out, (Moves.of_below B1.out).trans V2.out⟩

set_option maxHeartbeats 400000 in
theorem hset_no {hb : HB} {M : Hp} {w : World} (r : Rep hb M w) (x v : Nat) (hx : x < 18446744073709551616) (I : Int) (h : M.pairOf x = none) :
    Calls Try.prog 86 #[.pointer (some ⟨hb.h, 0, none⟩), .int .u64 x, .int .i64 I, .int .u64 v] w fun e w' => e = .returned (.int .i64 3) ∧ Below w.heap.size w w' := by
  have hA := hpair_miss r x hx h
  clear r h
  go_enter Try.func86, Try.ntmps86
  go_wp2_with fail
  refine hA.mono ?_
  rintro e w1 ⟨q, rfl, b1⟩
  clear hA
  go_wp2_with fail
  go_ret
  exact ⟨rfl, b1⟩
end Go.Proofs.Ytecemlamoiepdaa
