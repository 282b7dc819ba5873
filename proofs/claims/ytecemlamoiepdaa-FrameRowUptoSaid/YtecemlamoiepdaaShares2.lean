/- The walk of morainelaw20.FrameShares. -/
import Derived.Test.YtecemlamoiepdaaShares
namespace Go.Proofs.Ytecemlamoiepdaa
open Go.ChangeShapes Go.WideShapes Go.ChangeAt Go.RowKit

theorem numOf8 (k : Nat) (h : k < 1152921504606846976) : numOf (k * 8) = (k : Int) := by unfold numOf; rw [if_pos (by omega)]; omega

theorem Hp.Has.frKind {M : Hp} (o : M.Ok) {x k nx : Nat} {fs : List Nat} (h : M.Has x 8 0 (k * 8 :: nx :: fs)) (hk : k ≤ 2147483647) : M.frKind x = (k, 0) := by
  unfold Hp.frKind
  rw [h.getR o 8 0 rfl (by omega) (v := k * 8) rfl]
  have : tagOf (k * 8) = 0 := by unfold tagOf; omega
  simp only [numOf8 k (by omega), h.len, this]
  rw [if_pos ⟨trivial, trivial, by omega, by omega, by simp⟩]
  simp

theorem Hp.Has.frIs8 {M : Hp} {x : Nat} {ws : List Nat} (h : M.Has x 8 0 ws) (hl : 2 ≤ ws.length) : M.frIs x 8 2 = true := by
  unfold Hp.frIs
  rw [h.typ, h.len]
  simp [hl]

theorem Hp.Has.frNext {M : Hp} (o : M.Ok) {x k nx : Nat} {fs : List Nat} (h : M.Has x 8 0 (k :: nx :: fs)) : M.frNext x = (nx, 0) := by
  unfold Hp.frNext
  rw [h.frIs8 (by simp), if_pos rfl]
  exact h.getR o 8 1 rfl (by omega) rfl

theorem Hp.Chain.append {M : Hp} {ks ls : List Nat} {c d : Nat → Nat} {f g : Nat → List Nat} (h : M.Chain ks c f) (k : M.Chain ls d g) (e : d 0 = c ks.length) :
    M.Chain (ks ++ ls) (fun j => if j ≤ ks.length then c j else d (j - ks.length)) (fun j => if j < ks.length then f j else g (j - ks.length)) := by
  intro i z hz
  by_cases hi : i < ks.length
  · rw [List.getElem?_append_left hi] at hz
    simpa [show i + 1 ≤ ks.length by omega, show i ≤ ks.length by omega, hi] using h i z hz
  · rw [List.getElem?_append_right (by omega)] at hz
    have := k _ z hz
    by_cases h2 : i = ks.length
    · subst h2
      rw [Nat.sub_self, e] at this
      simp only [show ¬ ks.length + 1 ≤ ks.length by omega, Nat.le_refl, Nat.lt_irrefl, if_false, if_true, Nat.sub_self, show ks.length + 1 - ks.length = 0 + 1 by omega]
      exact this
    · simp only [show ¬ i + 1 ≤ ks.length by omega, show ¬ i ≤ ks.length by omega, hi, if_false]
      rw [show i + 1 - ks.length = i - ks.length + 1 by omega]
      exact this

theorem E_u16 : Elem Try.prog 22 33 1 2 := Elem.of (z := .int .u16 0) Try.underlying22 (by kernel_rfl) rfl (by decide)

theorem own_none (w : World) (e : TypeId) : (w.alloc (.cells #[] e)).ownsRow 0 e 1 (.slice (some ⟨w.heap.size, 0, none⟩) 0 0) 0 [] :=
  ⟨rfl, .inr ⟨w.heap.size, 0, #[], rfl, Nat.zero_le _, heap_alloc_new w _, Nat.le_refl _, by decide, rfl, rfl⟩⟩

theorem chain_both {M : Hp} {z3 z1 : List Int} {c d : Nat → Nat} {f g : Nat → List Nat} (h : M.Chain (z3.map Int.toNat) c f) (k : M.Chain (z1.map Int.toNat) d g) (e : d 0 = c z3.length) (h0 : c 0 = 20) :
    ∃ cc ff, cc (z3.length + z1.length) = d z1.length ∧ cc z3.length = c z3.length ∧ cc 0 = 20 ∧ M.Chain ((z3 ++ z1).map Int.toNat) cc ff := by
  have := h.append k (by rw [List.length_map]; exact e)
  rw [← List.map_append] at this
  refine ⟨_, _, ?_, ?_, ?_, this⟩
  · simp only [List.length_map]
    by_cases hz : z1.length = 0
    · rw [hz, if_pos (by omega), e]; rfl
    · rw [if_neg (by omega)]; congr 1; omega
  · simp
  · simp [h0]

set_option maxRecDepth 10000 in
set_option maxHeartbeats 1600000 in
theorem shares_walk (v1 v2 v3 : Value) (z1 z2 z3 : List Int) (W : World) (i1 : IntsAt .u16 W v1 z1) (i2 : IntsAt .u16 W v2 z2) (i3 : IntsAt .u16 W v3 z3)
    (b1 : ∀ z ∈ z1, 0 ≤ z ∧ z < 65536) (b2 : ∀ z ∈ z2, 0 ≤ z ∧ z < 65536) (b3 : ∀ z ∈ z3, 0 ≤ z ∧ z < 65536) :
    Calls Try.prog 3 #[v1, v2, v3] W fun e w' => e = .returned (.bool true) ∧ Below W.heap.size W w' := by
  have hN := new_ok 400 400 rfl (by omega) (by omega) W
  obtain ⟨a1, c1, hv1⟩ := i1.len.2
  obtain ⟨a2, c2, hv2⟩ := i2.len.2
  obtain ⟨a3, c3, hv3⟩ := i3.len.2
  by_cases l1 : 60 < z1.length
  · subst hv1
    clear i1 i2 i3
    go_enter Try.func3, Try.ntmps3
    go_wp2_with fail
    refine hN.mono ?_
    rintro e w1 ⟨hb, rfl, r1, b1, hh⟩
    clear hN
    go_wp2_with fail
    refine (awakef w1).mono ?_
    rintro e w2 ⟨rfl, b2⟩
    go_wp2_with fail
    go_ret
    exact ⟨rfl, b1.trans (b2.mono b1.size)⟩
  · by_cases l2 : 60 < z2.length
    · subst hv1 hv2
      clear i1 i2 i3
      go_enter Try.func3, Try.ntmps3
      go_wp2_with fail
      refine hN.mono ?_
      rintro e w1 ⟨hb, rfl, r1, b1, hh⟩
      clear hN
      go_wp2_with fail
      refine (awakef w1).mono ?_
      rintro e w2 ⟨rfl, b2⟩
      go_wp2_with fail
      go_ret
      exact ⟨rfl, b1.trans (b2.mono b1.size)⟩
    · by_cases l3 : 60 < z3.length
      · subst hv1 hv2 hv3
        clear i1 i2 i3
        go_enter Try.func3, Try.ntmps3
        go_wp2_with fail
        refine hN.mono ?_
        rintro e w1 ⟨hb, rfl, r1, b1, hh⟩
        clear hN
        go_wp2_with fail
        refine (awakef w1).mono ?_
        rintro e w2 ⟨rfl, b2⟩
        go_wp2_with fail
        go_ret
        exact ⟨rfl, b1.trans (b2.mono b1.size)⟩
      · have I1 := Lib.hid i1
        have I2 := Lib.hid i2
        have I3 := Lib.hid i3
        have B1 := Lib.hid b1
        have B2 := Lib.hid b2
        have B3 := Lib.hid b3
        clear i1 i2 i3 b1 b2 b3
        subst hv1 hv2 hv3
        go_enter Try.func3, Try.ntmps3
        go_wp2_with fail
        refine hN.mono ?_
        rintro e w1 ⟨hb, rfl, r1, b1, hh⟩
        have R1 := Lib.hid r1
        have W1 := Lib.hid b1
        have HH := Lib.hid hh
        clear hN r1 b1 hh
        go_wp2_with fail
        refine (row_ok R1.out _ z3 (I3.out.stays W1.out HH.out) B3.out (by omega) 20 (by omega) (.inl rfl) (by simp [Hp.empty]; omega)).mono ?_
        rintro e w2 ⟨c, M2, rfl, r2, m2, g2, e2, k2, s2, t2, u2⟩
        have R2 := Lib.hid r2
        have W2 := Lib.hid (m2.below_of W1.out HH.out)
        have G2 := Lib.hid g2
        have K2 := Lib.hid k2
        have T2 := Lib.hid t2
        have S2 := Lib.hid s2
        have E2 := Lib.hid e2
        clear r2 m2 g2 k2 t2 s2 e2 R1
        go_wp2_with fail
        have L2 : M2.segs.length ≤ z3.length := by have := S2.out; simp [Hp.empty] at this; omega
        have L2' : M2.limit = 400 := G2.out.1
        refine (row_ok R2.out _ z1 (I1.out.stays W2.out HH.out) B1.out (by omega) _ u2 T2.out (by omega)).mono ?_
        rintro e w3 ⟨d1, M3, rfl, r3, m3, g3, e3, k3, s3, t3, u3⟩
        have R3 := Lib.hid r3
        have W3 := Lib.hid (m3.below_of W2.out HH.out)
        have K23 := Lib.hid (K2.out.grown g3)
        have K3 := Lib.hid k3
        have E3 := Lib.hid e3
        have L3 : M3.segs.length ≤ z3.length + z1.length := by omega
        have L3' : M3.limit = 400 := by rw [g3.1]; exact L2'
        have T3 : Hid (c z3.length = 20 ∨ M3.typ (c z3.length) = 8) := by
          refine Lib.hid ?_
          by_cases hz : z3.length = 0
          · rw [hz, E2.out]; exact .inl rfl
          · obtain ⟨z, hz'⟩ : ∃ z, (z3.map Int.toNat)[z3.length - 1]? = some z := ⟨_, List.getElem?_eq_getElem (by simp; omega)⟩
            have := (K23.out _ z hz').typ
            rw [show z3.length - 1 + 1 = z3.length by omega] at this
            exact .inr this
        clear r3 m3 g3 k3 t3 s3 e3 R2 K2 T2 S2 G2 W2 L2 L2'
        go_wp2_with fail
        refine (row_ok R3.out _ z2 (I2.out.stays W3.out HH.out) B2.out (by omega) _ u2 T3.out (by omega)).mono ?_
        rintro e w4 ⟨d2, M4, rfl, r4, m4, g4, e4, k4, s4, t4, u4⟩
        have R4 := Lib.hid r4
        have W4 := Lib.hid (m4.below_of W3.out HH.out)
        have K2 := Lib.hid (K23.out.grown g4)
        have KK3 := Lib.hid (K3.out.grown g4)
        have K4 := Lib.hid k4
        have E4 := Lib.hid e4
        clear r4 m4 g4 k4 t4 s4 e4 R3 K23 K3 T3 W3 L3 L3'
        go_wp2_with fail
        obtain ⟨t, ht⟩ : ∃ t, t = c z3.length := ⟨_, rfl⟩
        obtain ⟨x1, hx1⟩ : ∃ x1, x1 = d1 z1.length := ⟨_, rfl⟩
        obtain ⟨x2, hx2⟩ : ∃ x2, x2 = d2 z2.length := ⟨_, rfl⟩
        go_loopw [12] (fun i wr => ∃ (k : Nat), k ≤ 2 ∧ i = .int .i64 k ∧ Rep hb M4 wr ∧ Below W.heap.size W wr) (fun i _ => 2 - (intOf i).toNat)
        case atStart => exact ⟨0, by omega, rfl, R4.out, W4.out⟩
        case round =>
          obtain ⟨k, hk, rfl, hR, hB⟩ := hrel
          have RR := Lib.hid hR
          have HB := Lib.hid hB
          clear hR hB
          rcases (show k = 0 ∨ k = 1 ∨ k = 2 by omega) with rfl | rfl | rfl
          · have hO := own_none wr 33
            have hC3 : IntsAt .u16 (wr.alloc (.cells #[] 33)) (.slice a3 z3.length c3) z3 := (I3.out.below HB.out).below ((Below.refl _ _).alloc (Nat.le_refl _) _)
            have hC1 : ∀ w6, Below W.heap.size W w6 → IntsAt .u16 w6 (.slice a1 z1.length c1) z1 := fun w6 b6 => I1.out.below b6
            have hBe : Below W.heap.size W (wr.alloc (.cells #[] 33)) := HB.out.alloc (HB.out.size) _
            have hS := HB.out.size
            have hfr : ∀ k, some wr.heap.size = some k → ¬ hb.has k := by intro k hk; cases hk; intro hx; exact Nat.lt_irrefl _ (RR.out.lt _ hx)
            have HC1 := Lib.hid hC1
            have HO := Lib.hid hO
            have HC3 := Lib.hid hC3
            have HBe := Lib.hid hBe
            have HFR := Lib.hid hfr
            clear hO hC3 hC1 hBe hfr
            go_wp2_with (first
              | (at_builtin; refine wpList_at E_u16 rfl _ _ rfl (.slice (some ⟨wr.heap.size, 0, none⟩) 0 0) 0 [] rfl HO.out .u16 _ z3 rfl HC3.out (by unfold maxLen; omega) (by omega) ?_; intro v5 w5 hown hgrow hat; have hb5 := grown_below HBe.out hgrow (by intro k hk; cases hk; exact hS))
              | (at_builtin; refine wpList_at E_u16 rfl _ _ rfl v5 (0 + z3.length) ([] ++ z3.map (.int .u16)) rfl hown .u16 _ z1 rfl (HC1.out _ hb5) (by unfold maxLen; omega) (by omega) ?_; intro v6 w6 hown2 hgrow2 hat2; have hOI := own_ints (zs := z3 ++ z1) (by simpa using hown2) (by simp) (by simp; unfold maxLen; omega); obtain ⟨ga, gc, rfl⟩ := hOI.len.2))
            have hrow : ∀ k, v5.ownBlock = some k → wr.heap.size ≤ k := by
              intro k hk
              rcases hat with h | h
              · rw [h] at hk; cases hk; exact Nat.le_refl _
              · rw [h] at hk; cases hk; simp
            have R6 : Hid (Rep hb M4 w6) := Lib.hid (((RR.out.alloc _).grown hgrow HFR.out).grown hgrow2 (by intro k hk hx; have := RR.out.lt _ hx; have := hrow k hk; omega))
            have W6 : Hid (Below W.heap.size W w6) := Lib.hid (grown_below hb5 hgrow2 (by intro k hk; have := hrow k hk; omega))
            have OI := Lib.hid hOI
            obtain ⟨cc, ff, q1, q2, q3, q4⟩ := chain_both K2.out KK3.out E3.out E2.out
            have QC := Lib.hid q4
            have Q1 := Lib.hid q1
            have Q2 := Lib.hid q2
            have Q3 := Lib.hid q3
            obtain ⟨n, hn⟩ : ∃ n, n = z3.length + z1.length := ⟨_, rfl⟩
            have HNN := Lib.hid hn
            have hn120 : n ≤ 120 := by omega
            clear hrow hOI hown hgrow hat hown2 hgrow2 hat2 hb5 q1 q2 q3 q4 hn HO HC3 HBe HFR HC1 hS
            go_loopw [14, 16] (fun u i wr => ∃ (j : Nat), j ≤ n ∧ u = .int .u64 (cc j) ∧ i = .int .i64 ((j : Int) - 1) ∧ Below w6.heap.size w6 wr) (fun _ i _ => (intOf i + 1).toNat)
            case atStart => exact ⟨n, Nat.le_refl _, by rw [← Q1.out, HNN.out], by rw [HNN.out]; simp, Below.refl _ _⟩
            case round =>
              obtain ⟨j, hj, rfl, hi, hb6⟩ := hrel
              have B6 := Lib.hid hb6
              clear hb6
              cases j with
              | zero =>
                generalize hI : (((0 : Nat) : Int) - 1) = I at hi
                have hIn : I < 0 := by omega
                have hI1 : I + 1 = 0 := by omega
                clear hI
                subst hi
                rw [Q3.out]
                go_wp2_with fail
                go_roundw
                case rel => exact ⟨1, by omega, by go_num, R6.out.below B6.out, W6.out.trans (B6.out.mono W6.out.size)⟩
                case measure => simp [intOf]
              | succ m =>
                rw [show (((m + 1 : Nat) : Int) - 1) = (m : Int) by omega] at hi
                subst hi
                have hlen : (z3 ++ z1).length = n := by rw [HNN.out]; simp
                obtain ⟨z, hz⟩ : ∃ z, (z3 ++ z1)[m]? = some z := ⟨_, List.getElem?_eq_getElem (by omega)⟩
                have hzb : 0 ≤ z ∧ z < 65536 := by
                  have := List.mem_of_getElem? hz
                  rcases List.mem_append.1 this with h | h
                  · exact B3.out z h
                  · exact B1.out z h
                have hz0 := hzb.1
                have hz1 := hzb.2
                have hh := QC.out m z.toNat (by rw [List.getElem?_map, hz]; rfl)
                have R7 := R6.out.below B6.out
                have hlt : cc (m + 1) < 18446744073709551616 := by have := hh.lt; omega
                have hK := kind_any R7 (cc (m + 1)) hlt (hh.frKind R7.ok (by omega))
                rw [show ((z.toNat : Nat) : Int) = z by omega] at hK
                have hX := Lib.hid (fun (w' : World) (b : Below wr.heap.size wr w') => next_any (R7.below b) (cc (m + 1)) hlt (hh.frNext R7.ok))
                have hcell : ∃ b o cap', Value.slice ga (z3 ++ z1).length gc = .slice (some ⟨b, o, none⟩) (z3 ++ z1).length cap' ∧ b < wr.heap.size ∧ wr.cell? ⟨b, o + m, none⟩ = some (.int .u16 z) := by
                  obtain ⟨b', o, cap', h1, h2, h3⟩ := (OI.out.below B6.out).form (by omega)
                  exact ⟨b', o, cap', h1, h2, h3 m z hz⟩
                obtain ⟨b, o, cap', e1, e2, e3⟩ := hcell
                obtain ⟨rfl, rfl⟩ : ga = some ⟨b, o, none⟩ ∧ gc = cap' := by
                  simp only [Value.slice.injEq] at e1
                  exact ⟨e1.1, e1.2.2⟩
                have HC9 := Lib.hid (fun (w' : World) (b9 : Below wr.heap.size wr w') => (World.cell?_of_block (w := wr) (a := ⟨b, o + m, none⟩) (b9.block b e2)).trans e3)
                have hmn : m < z3.length + z1.length := by have := HNN.out; omega
                clear R7 e1 e2 e3 hh hzb hlen
                have t1 : ((z : Int) != z) = false := by simp
                have t0 : decide ((0 : Int) ≤ (m : Int)) = true := by rw [decide_eq_true_eq]; omega
                obtain ⟨y, hy⟩ : ∃ y, y = cc (m + 1) := ⟨_, rfl⟩
                rw [← hy] at hK hX hlt ⊢
                by_cases hm1 : m + 1 = z3.length
                · have t2a : decide ((m : Int) < (z3.length : Int)) = true := by rw [decide_eq_true_eq]; omega
                  have t3 : ((m : Int) == (z3.length : Int) - 1) = true := by rw [beq_iff_eq]; omega
                  have t2 : m < z3.length := by omega
                  have t4 : (((y : Nat) : Int) != ((c z3.length : Nat) : Int)) = false := by rw [hy, hm1, Q2.out]; simp
                  have HY := Lib.hid hy
                  clear hy hm1
                  go_wp2_with fail
                  refine hK.mono ?_
                  rintro e w7 ⟨rfl, b7⟩
                  have c9 := HC9.out _ b7
                  have B7 := Lib.hid b7
                  clear hK HC9 b7
                  go_wp2_with fail
                  refine (hX.out _ B7.out).mono ?_
                  rintro e w8 ⟨rfl, b8⟩
                  have B8 : Hid (Below w6.heap.size w6 w8) := Lib.hid (B6.out.trans ((B7.out.trans (b8.mono B7.out.size)).mono B6.out.size))
                  clear hX b8 c9
                  go_wp2_with fail
                  go_roundw
                  case rel => exact ⟨m, by omega, rfl, by go_num, B8.out⟩
                  case measure => simp [intOf]
                · by_cases hm2 : m < z3.length
                  · have t2a : decide ((m : Int) < (z3.length : Int)) = true := by rw [decide_eq_true_eq]; omega
                    have t3 : ((m : Int) == (z3.length : Int) - 1) = false := by rw [beq_eq_false_iff_ne]; omega
                    have HY := Lib.hid hy
                    clear hy hm1
                    go_wp2_with fail
                    refine hK.mono ?_
                    rintro e w7 ⟨rfl, b7⟩
                    have c9 := HC9.out _ b7
                    have B7 := Lib.hid b7
                    clear hK HC9 b7
                    go_wp2_with fail
                    refine (hX.out _ B7.out).mono ?_
                    rintro e w8 ⟨rfl, b8⟩
                    have B8 : Hid (Below w6.heap.size w6 w8) := Lib.hid (B6.out.trans ((B7.out.trans (b8.mono B7.out.size)).mono B6.out.size))
                    clear hX b8 c9
                    go_wp2_with fail
                    go_roundw
                    case rel => exact ⟨m, by omega, rfl, by go_num, B8.out⟩
                    case measure => simp [intOf]
                  · have t2a : decide ((m : Int) < (z3.length : Int)) = false := by rw [decide_eq_false_iff_not]; omega
                    have HY := Lib.hid hy
                    clear hy hm1
                    go_wp2_with fail
                    refine hK.mono ?_
                    rintro e w7 ⟨rfl, b7⟩
                    have c9 := HC9.out _ b7
                    have B7 := Lib.hid b7
                    clear hK HC9 b7
                    go_wp2_with fail
                    refine (hX.out _ B7.out).mono ?_
                    rintro e w8 ⟨rfl, b8⟩
                    have B8 : Hid (Below w6.heap.size w6 w8) := Lib.hid (B6.out.trans ((B7.out.trans (b8.mono B7.out.size)).mono B6.out.size))
                    clear hX b8 c9
                    go_wp2_with fail
                    go_roundw
                    case rel => exact ⟨m, by omega, rfl, by go_num, B8.out⟩
                    case measure => simp [intOf]
          · have hO := own_none wr 33
            have hC3 : IntsAt .u16 (wr.alloc (.cells #[] 33)) (.slice a3 z3.length c3) z3 := (I3.out.below HB.out).below ((Below.refl _ _).alloc (Nat.le_refl _) _)
            have hC2 : ∀ w6, Below W.heap.size W w6 → IntsAt .u16 w6 (.slice a2 z2.length c2) z2 := fun w6 b6 => I2.out.below b6
            have hBe : Below W.heap.size W (wr.alloc (.cells #[] 33)) := HB.out.alloc (HB.out.size) _
            have hS := HB.out.size
            have hfr : ∀ k, some wr.heap.size = some k → ¬ hb.has k := by intro k hk; cases hk; intro hx; exact Nat.lt_irrefl _ (RR.out.lt _ hx)
            have HC2 := Lib.hid hC2
            have HO := Lib.hid hO
            have HC3 := Lib.hid hC3
            have HBe := Lib.hid hBe
            have HFR := Lib.hid hfr
            clear hO hC3 hC2 hBe hfr
            go_wp2_with (first
              | (at_builtin; refine wpList_at E_u16 rfl _ _ rfl (.slice (some ⟨wr.heap.size, 0, none⟩) 0 0) 0 [] rfl HO.out .u16 _ z3 rfl HC3.out (by unfold maxLen; omega) (by omega) ?_; intro v5 w5 hown hgrow hat; have hb5 := grown_below HBe.out hgrow (by intro k hk; cases hk; exact hS))
              | (at_builtin; refine wpList_at E_u16 rfl _ _ rfl v5 (0 + z3.length) ([] ++ z3.map (.int .u16)) rfl hown .u16 _ z2 rfl (HC2.out _ hb5) (by unfold maxLen; omega) (by omega) ?_; intro v6 w6 hown2 hgrow2 hat2; have hOI := own_ints (zs := z3 ++ z2) (by simpa using hown2) (by simp) (by simp; unfold maxLen; omega); obtain ⟨ga, gc, rfl⟩ := hOI.len.2))
            have hrow : ∀ k, v5.ownBlock = some k → wr.heap.size ≤ k := by
              intro k hk
              rcases hat with h | h
              · rw [h] at hk; cases hk; exact Nat.le_refl _
              · rw [h] at hk; cases hk; simp
            have R6 : Hid (Rep hb M4 w6) := Lib.hid (((RR.out.alloc _).grown hgrow HFR.out).grown hgrow2 (by intro k hk hx; have := RR.out.lt _ hx; have := hrow k hk; omega))
            have W6 : Hid (Below W.heap.size W w6) := Lib.hid (grown_below hb5 hgrow2 (by intro k hk; have := hrow k hk; omega))
            have OI := Lib.hid hOI
            obtain ⟨cc, ff, q1, q2, q3, q4⟩ := chain_both K2.out K4.out E4.out E2.out
            have QC := Lib.hid q4
            have Q1 := Lib.hid q1
            have Q2 := Lib.hid q2
            have Q3 := Lib.hid q3
            obtain ⟨n, hn⟩ : ∃ n, n = z3.length + z2.length := ⟨_, rfl⟩
            have HNN := Lib.hid hn
            have hn120 : n ≤ 120 := by omega
            clear hrow hOI hown hgrow hat hown2 hgrow2 hat2 hb5 q1 q2 q3 q4 hn HO HC3 HBe HFR HC2 hS
            go_loopw [14, 16] (fun u i wr => ∃ (j : Nat), j ≤ n ∧ u = .int .u64 (cc j) ∧ i = .int .i64 ((j : Int) - 1) ∧ Below w6.heap.size w6 wr) (fun _ i _ => (intOf i + 1).toNat)
            case atStart => exact ⟨n, Nat.le_refl _, by rw [← Q1.out, HNN.out], by rw [HNN.out]; simp, Below.refl _ _⟩
            case round =>
              obtain ⟨j, hj, rfl, hi, hb6⟩ := hrel
              have B6 := Lib.hid hb6
              clear hb6
              cases j with
              | zero =>
                generalize hI : (((0 : Nat) : Int) - 1) = I at hi
                have hIn : I < 0 := by omega
                have hI2 : I + 1 = 0 := by omega
                clear hI
                subst hi
                rw [Q3.out]
                go_wp2_with fail
                go_roundw
                case rel => exact ⟨2, by omega, by go_num, R6.out.below B6.out, W6.out.trans (B6.out.mono W6.out.size)⟩
                case measure => simp [intOf]
              | succ m =>
                rw [show (((m + 1 : Nat) : Int) - 1) = (m : Int) by omega] at hi
                subst hi
                have hlen : (z3 ++ z2).length = n := by rw [HNN.out]; simp
                obtain ⟨z, hz⟩ : ∃ z, (z3 ++ z2)[m]? = some z := ⟨_, List.getElem?_eq_getElem (by omega)⟩
                have hzb : 0 ≤ z ∧ z < 65536 := by
                  have := List.mem_of_getElem? hz
                  rcases List.mem_append.1 this with h | h
                  · exact B3.out z h
                  · exact B2.out z h
                have hz0 := hzb.1
                have hz2 := hzb.2
                have hh := QC.out m z.toNat (by rw [List.getElem?_map, hz]; rfl)
                have R7 := R6.out.below B6.out
                have hlt : cc (m + 1) < 18446744073709551616 := by have := hh.lt; omega
                have hK := kind_any R7 (cc (m + 1)) hlt (hh.frKind R7.ok (by omega))
                rw [show ((z.toNat : Nat) : Int) = z by omega] at hK
                have hX := Lib.hid (fun (w' : World) (b : Below wr.heap.size wr w') => next_any (R7.below b) (cc (m + 1)) hlt (hh.frNext R7.ok))
                have hcell : ∃ b o cap', Value.slice ga (z3 ++ z2).length gc = .slice (some ⟨b, o, none⟩) (z3 ++ z2).length cap' ∧ b < wr.heap.size ∧ wr.cell? ⟨b, o + m, none⟩ = some (.int .u16 z) := by
                  obtain ⟨b', o, cap', h1, h2, h3⟩ := (OI.out.below B6.out).form (by omega)
                  exact ⟨b', o, cap', h1, h2, h3 m z hz⟩
                obtain ⟨b, o, cap', e1, e2, e3⟩ := hcell
                obtain ⟨rfl, rfl⟩ : ga = some ⟨b, o, none⟩ ∧ gc = cap' := by
                  simp only [Value.slice.injEq] at e1
                  exact ⟨e1.1, e1.2.2⟩
                have HC9 := Lib.hid (fun (w' : World) (b9 : Below wr.heap.size wr w') => (World.cell?_of_block (w := wr) (a := ⟨b, o + m, none⟩) (b9.block b e2)).trans e3)
                have hmn : m < z3.length + z2.length := by have := HNN.out; omega
                clear R7 e1 e2 e3 hh hzb hlen
                have t1 : ((z : Int) != z) = false := by simp
                have t0 : decide ((0 : Int) ≤ (m : Int)) = true := by rw [decide_eq_true_eq]; omega
                obtain ⟨y, hy⟩ : ∃ y, y = cc (m + 1) := ⟨_, rfl⟩
                rw [← hy] at hK hX hlt ⊢
                by_cases hm1 : m + 1 = z3.length
                · have t2a : decide ((m : Int) < (z3.length : Int)) = true := by rw [decide_eq_true_eq]; omega
                  have t3 : ((m : Int) == (z3.length : Int) - 1) = true := by rw [beq_iff_eq]; omega
                  have t2 : m < z3.length := by omega
                  have t4 : (((y : Nat) : Int) != ((c z3.length : Nat) : Int)) = false := by rw [hy, hm1, Q2.out]; simp
                  have HY := Lib.hid hy
                  clear hy hm1
                  go_wp2_with fail
                  refine hK.mono ?_
                  rintro e w7 ⟨rfl, b7⟩
                  have c9 := HC9.out _ b7
                  have B7 := Lib.hid b7
                  clear hK HC9 b7
                  go_wp2_with fail
                  refine (hX.out _ B7.out).mono ?_
                  rintro e w8 ⟨rfl, b8⟩
                  have B8 : Hid (Below w6.heap.size w6 w8) := Lib.hid (B6.out.trans ((B7.out.trans (b8.mono B7.out.size)).mono B6.out.size))
                  clear hX b8 c9
                  go_wp2_with fail
                  go_roundw
                  case rel => exact ⟨m, by omega, rfl, by go_num, B8.out⟩
                  case measure => simp [intOf]
                · by_cases hm2 : m < z3.length
                  · have t2a : decide ((m : Int) < (z3.length : Int)) = true := by rw [decide_eq_true_eq]; omega
                    have t3 : ((m : Int) == (z3.length : Int) - 1) = false := by rw [beq_eq_false_iff_ne]; omega
                    have HY := Lib.hid hy
                    clear hy hm1
                    go_wp2_with fail
                    refine hK.mono ?_
                    rintro e w7 ⟨rfl, b7⟩
                    have c9 := HC9.out _ b7
                    have B7 := Lib.hid b7
                    clear hK HC9 b7
                    go_wp2_with fail
                    refine (hX.out _ B7.out).mono ?_
                    rintro e w8 ⟨rfl, b8⟩
                    have B8 : Hid (Below w6.heap.size w6 w8) := Lib.hid (B6.out.trans ((B7.out.trans (b8.mono B7.out.size)).mono B6.out.size))
                    clear hX b8 c9
                    go_wp2_with fail
                    go_roundw
                    case rel => exact ⟨m, by omega, rfl, by go_num, B8.out⟩
                    case measure => simp [intOf]
                  · have t2a : decide ((m : Int) < (z3.length : Int)) = false := by rw [decide_eq_false_iff_not]; omega
                    have HY := Lib.hid hy
                    clear hy hm1
                    go_wp2_with fail
                    refine hK.mono ?_
                    rintro e w7 ⟨rfl, b7⟩
                    have c9 := HC9.out _ b7
                    have B7 := Lib.hid b7
                    clear hK HC9 b7
                    go_wp2_with fail
                    refine (hX.out _ B7.out).mono ?_
                    rintro e w8 ⟨rfl, b8⟩
                    have B8 : Hid (Below w6.heap.size w6 w8) := Lib.hid (B6.out.trans ((B7.out.trans (b8.mono B7.out.size)).mono B6.out.size))
                    clear hX b8 c9
                    go_wp2_with fail
                    go_roundw
                    case rel => exact ⟨m, by omega, rfl, by go_num, B8.out⟩
                    case measure => simp [intOf]
          · clear I1 I2 I3
            go_wp2_with fail
            refine (awakef wr).mono ?_
            rintro e w9 ⟨rfl, b9⟩
            go_wp2_with fail
            go_ret
            exact ⟨rfl, HB.out.trans (b9.mono HB.out.size)⟩
end Go.Proofs.Ytecemlamoiepdaa
