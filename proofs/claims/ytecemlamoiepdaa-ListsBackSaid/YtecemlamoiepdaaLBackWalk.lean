/- morainelaw22.ListsBack: whatever the numbers. -/
import Derived.Test.YtecemlamoiepdaaLists7
import Derived.BigQuiet
namespace Go.Proofs.Ytecemlamoiepdaa
open Go.RowKit

set_option maxRecDepth 100000 in
set_option maxHeartbeats 8000000 in
theorem lists_back_any (sv sv2 : Value) (xs ys : List Int) (w : World) (hz : IntsAt .i32 w sv xs) (hz2 : IntsAt .i32 w sv2 ys) (hr : ∀ z ∈ xs, -2147483648 ≤ z ∧ z < 2147483648) (hr2 : ∀ z ∈ ys, -2147483648 ≤ z ∧ z < 2147483648) :
    Calls Try.prog 10 #[sv, sv2] w fun e w' => e = .returned (.bool true) ∧ Below w.heap.size w w' := by
  have hN := new_ok 400 400 rfl (by omega) (by omega) w
  obtain ⟨hml, sa, sc, hsv⟩ := hz.len
  obtain ⟨hml2, sa2, sc2, hsv2⟩ := hz2.len
  obtain ⟨m, hm⟩ : ∃ m, m = xs.length := ⟨_, rfl⟩
  obtain ⟨m2, hm2⟩ : ∃ m, m = ys.length := ⟨_, rfl⟩
  rw [← hm] at hsv hml
  rw [← hm2] at hsv2 hml2
  subst hsv hsv2
  have HZ := Lib.hid hz
  have HZ2 := Lib.hid hz2
  have HR := Lib.hid hr
  have HR2 := Lib.hid hr2
  have HM := Lib.hid hm
  have HM2 := Lib.hid hm2
  clear hz hz2 hr hr2 hm hm2
  go_enter Try.func10, Try.ntmps10
  go_wp2_with fail
  refine hN.mono ?_
  rintro e w1 ⟨hb, rfl, r1, b1, hh⟩
  clear hN
  have HB := Lib.hid (fun (a : World) (mv : Moves hb w1 a) => mv.below_of b1 hh)
  have R1 := Lib.hid r1
  have B1 := Lib.hid b1
  have HH := Lib.hid hh
  clear r1 b1 hh
  by_cases hbig : 500 < m ∨ 500 < m2
  · by_cases h1 : 500 < m
    · clear hbig
      go_wp2_with fail
      refine (awake22 w1).mono ?_
      rintro e w7 ⟨rfl, b7⟩
      have B7 := Lib.hid (B1.out.trans (b7.mono B1.out.size))
      clear b7
      go_wp2_with fail
      go_ret
      exact ⟨rfl, B7.out⟩
    · have h2 : 500 < m2 := by omega
      clear hbig
      go_wp2_with fail
      refine (awake22 w1).mono ?_
      rintro e w7 ⟨rfl, b7⟩
      have B7 := Lib.hid (B1.out.trans (b7.mono B1.out.size))
      clear b7
      go_wp2_with fail
      go_ret
      exact ⟨rfl, B7.out⟩
  · have h1 : m ≤ 500 := by omega
    have h2 : m2 ≤ 500 := by omega
    clear hbig
    have hf1 := fixes_any (.slice sa m sc) xs w1 (HZ.out.below B1.out) HR.out (by rw [← HM.out]; omega)
    go_wp2_with fail
    refine hf1.mono ?_
    rintro e w2 ⟨u0, rfl, o2, b2, k2⟩
    have hf2 := fixes_any (.slice sa2 m2 sc2) ys w2 ((HZ2.out.below B1.out).below (b2.mono (Nat.le_refl _))) HR2.out (by rw [← HM2.out]; omega)
    have K2 : Hid (Kept hb w2 u0 (fixL xs)) := Lib.hid (Kept.own R1.out o2 k2)
    have R2 := Lib.hid (R1.out.below b2)
    have V2 : Hid (Moves hb w1 w2) := Lib.hid (.of_below b2)
    clear o2 b2 k2 hf1
    go_wp2_with fail
    refine hf2.mono ?_
    rintro e w3 ⟨u1, rfl, o3, b3, k3⟩
    have K3 : Hid (Kept hb w3 u1 (fixL ys)) := Lib.hid (Kept.own R2.out o3 k3)
    have K3a : Hid (Kept hb w3 u0 (fixL xs)) := Lib.hid (K2.out.moves (.of_below b3))
    have G3 : Hid (Grew hb (Hp.empty 400) 0 w3 (Hp.empty 400) 0 w3) := Lib.hid (.refl (R2.out.below b3) (PK.empty 400))
    have V3 : Hid (Moves hb w1 w3) := Lib.hid (V2.out.trans (.of_below b3))
    clear o3 b3 k3 hf2 K2 R2 V2
    obtain ⟨A, hA⟩ : ∃ A, A = fixL xs := ⟨_, rfl⟩
    obtain ⟨C, hC⟩ : ∃ C, C = fixL ys := ⟨_, rfl⟩
    rw [← hC] at K3
    rw [← hA] at K3a
    have HA : Hid (A.length = m ∧ ∀ x ∈ A, x < 18446744073709551616) := Lib.hid ⟨by rw [hA, fixL_len, HM.out], by rw [hA]; exact fixL_lt⟩
    have HC : Hid (C.length = m2 ∧ ∀ x ∈ C, x < 18446744073709551616) := Lib.hid ⟨by rw [hC, fixL_len, HM2.out], by rw [hC]; exact fixL_lt⟩
    clear hA hC
    have hlim : (Hp.empty 400).limit = 400 := rfl
    have HL := Lib.hid hlim
    clear hlim
    have c4 := g_of G3.out u0 A K3a.out HA.out.2 (by rw [HL.out, HA.out.1]; omega)
    rw [HA.out.1] at c4
    obtain ⟨a0, cp0, hu0⟩ := K3a.out.sl.slice
    obtain ⟨a1, cp1, hu1⟩ := K3.out.sl.slice
    rw [HA.out.1] at hu0
    rw [HC.out.1] at hu1
    subst hu0 hu1
    go_wp2_with fail
    refine c4.mono ?_
    rintro e w4 ⟨M1, p, rfl, g4, l4, gr4, mv4⟩
    have c5 := g_of g4 _ C (K3.out.moves mv4) HC.out.2 (by rw [HL.out, HC.out.1]; omega)
    rw [HC.out.1] at c5
    have L4 := Lib.hid l4
    clear c4 g4 l4 gr4 mv4
    go_wp2_with fail
    refine c5.mono ?_
    rintro e w5 ⟨M2, q, rfl, g5, l5, gr5, mv5⟩
    have LP : Hid (LSeg M2 p (rowL 0 A) 20) := Lib.hid (L4.out.grown gr5)
    have LQ := Lib.hid l5
    have hlp : (rowL 0 A).length = m := by rw [rowL_len, HA.out.1]
    have c6 := g_rev g5 LP.out (by rw [HL.out, hlp]; omega) 29
    rw [hlp, rowL_snd'] at c6
    have G5 := Lib.hid g5
    clear c5 g5 l5 gr5 mv5 L4 hlp
    go_wp2_with fail
    refine c6.mono ?_
    rintro e w6 ⟨M3, rr, rfl, g6, l6, gr6, mv6⟩
    have c7 := g_rev g6 l6 (by rw [HL.out, rowL_len, List.length_reverse, HA.out.1]; omega) 29
    rw [rowL_snd', rowL_len, List.length_reverse, HA.out.1, List.reverse_reverse] at c7
    have LR := Lib.hid l6
    have GR6 := Lib.hid gr6
    clear c6 g6 l6 gr6 mv6
    go_wp2_with fail
    refine c7.mono ?_
    rintro e w7 ⟨M4, ss, rfl, g7, l7, gr7, mv7⟩
    have LP4 : Hid (LSeg M4 p (rowL 0 A) 20) := Lib.hid ((LP.out.grown GR6.out).grown gr7)
    have LQ4 : Hid (LSeg M4 q (rowL (0 + m) C) 20) := Lib.hid ((LQ.out.grown GR6.out).grown gr7)
    have LR4 := Lib.hid (LR.out.grown gr7)
    have LS4 := Lib.hid l7
    have hlp : (rowL 0 A).length = m := by rw [rowL_len, HA.out.1]
    have c8 := g_app g7 LP4.out LQ4.out (by rw [HL.out, hlp]; omega) 29
    rw [hlp, rowL_snd'] at c8
    clear c7 g7 l7 gr7 mv7 LR GR6 LP LQ hlp
    go_wp2_with fail
    refine c8.mono ?_
    rintro e w8 ⟨M5, tt, rfl, g8, l8, gr8, mv8⟩
    have hlt : (rowL (0 + m + m2 + m + m) A ++ rowL (0 + m) C).length = m + m2 := by rw [List.length_append, rowL_len, rowL_len, HA.out.1, HC.out.1]
    have LR8 := Lib.hid (LR4.out.grown gr8)
    have LS8 := Lib.hid (LS4.out.grown gr8)
    have LQ8 := Lib.hid (LQ4.out.grown gr8)
    have LT8 := Lib.hid l8
    have HLT := Lib.hid hlt
    have c9 := g_len g8 l8 (by rw [hlt]; omega) 29
    rw [hlt] at c9
    clear c8 g8 l8 gr8 mv8 LR4 LS4 LQ4 LP4 hlt
    obtain ⟨n8, hn8⟩ : ∃ n8, n8 = (m + m2) * 8 := ⟨_, rfl⟩
    rw [← hn8] at c9
    have hne : (((n8 : Nat) : Int) != (((m : Nat) : Int) + ((m2 : Nat) : Int)) * 8) = false := by rw [bne_eq_false_iff_eq]; omega
    have HN8 := Lib.hid hn8
    clear hn8
    go_wp2_with fail
    refine c9.mono ?_
    rintro e w9 ⟨rfl, g9, mv9⟩
    have c10 := g_list g9 LR8.out (by rw [rowL_len, List.length_reverse, HA.out.1]; omega)
    rw [rowL_snd'] at c10
    clear c9 g9 mv9
    go_wp2_with fail
    refine c10.mono ?_
    rintro e w10 ⟨u, rfl, ou, ku, g10, mv10⟩
    obtain ⟨ua, uc, hu⟩ := ou.slice'
    rw [List.length_reverse, HA.out.1] at hu
    subst hu
    have KU := Lib.hid ku
    have G10 := Lib.hid g10
    have K10 := Lib.hid (K3a.out.moves g10.mv)
    have K10b := Lib.hid (K3.out.moves g10.mv)
    clear c10 ou ku g10 mv10
    go_wp2_with fail
    go_loopw [22] (fun iv wr => ∃ k : Nat, k ≤ m ∧ iv = .int .i64 k ∧ Below w10.heap.size w10 wr) (fun iv _ => m - (intOf iv).toNat)
    case atStart => exact ⟨0, Nat.zero_le _, rfl, Below.refl _ _⟩
    case round =>
      obtain ⟨k, hk, rfl, hbw⟩ := hrel
      have BW := Lib.hid hbw
      clear hbw
      by_cases hkm : k < m
      · obtain ⟨j, hj⟩ : ∃ j, j = m - 1 - k := ⟨_, rfl⟩
        obtain ⟨x, hx⟩ : ∃ x, A[j]? = some x := ⟨_, List.getElem?_eq_getElem (by rw [HA.out.1]; omega)⟩
        have hx2 : A.reverse[k]? = some x := by rw [List.getElem?_reverse (by rw [HA.out.1]; exact hkm), HA.out.1, ← hj]; exact hx
        obtain ⟨b3, o3, p3, e3, l3, q3, k3⟩ := (KU.out.sl.below BW.out).form (by rw [List.length_reverse, HA.out.1]; omega)
        obtain ⟨b4, o4, p4, e4, l4, q4, k4⟩ := (K10.out.sl.below BW.out).form (by rw [HA.out.1]; omega)
        simp only [Value.slice.injEq] at e3 e4
        obtain ⟨rfl, e5, rfl⟩ := e3
        obtain ⟨rfl, e6, rfl⟩ := e4
        have c3 := k3 k x hx2
        have c4 := k4 j x hx
        have hji : ((m : Nat) : Int) - 1 - ((k : Nat) : Int) = ((j : Nat) : Int) := by omega
        have hjm : j < m := by omega
        have hxx : (((x : Nat) : Int) != ((x : Nat) : Int)) = false := by simp
        clear k3 k4 hx hx2 e5 e6 l3 q3 l4 q4 hj
        go_wp2_with fail
        go_quiet (fail)
        go_wp2_with fail
        go_roundw
        case rel => exact ⟨k + 1, by omega, by go_num, ⟨BW.out.os, BW.out.tape, BW.out.output, BW.out.size, BW.out.block⟩⟩
        case measure => simp [intOf]; omega
      · obtain rfl : m = k := by omega
        have g11 := G10.out.below BW.out
        have c11 := g_list g11 LS8.out (by rw [rowL_len, HA.out.1]; omega)
        rw [rowL_snd'] at c11
        have K11 := Lib.hid (K3a.out.moves g11.mv)
        have K11b := Lib.hid (K3.out.moves g11.mv)
        clear g11
        go_wp2_with fail
        refine c11.mono ?_
        rintro e w12 ⟨ub, rfl, ou, ku, g12, mv12⟩
        have c12 := g_list g12 LT8.out (by rw [HLT.out]; omega)
        rw [List.map_append, rowL_snd', rowL_snd'] at c12
        have KB := Lib.hid ku
        have K12 := Lib.hid (K11.out.moves mv12)
        have K12b := Lib.hid (K11b.out.moves mv12)
        clear c11 ou ku g12 mv12 K11 K11b
        go_wp2_with fail
        refine c12.mono ?_
        rintro e w13 ⟨uc2, rfl, ou, ku, g13, mv13⟩
        have KC := Lib.hid ku
        have KB13 := Lib.hid (KB.out.moves mv13)
        have K13 := Lib.hid (K12.out.moves mv13)
        have K13b := Lib.hid (K12b.out.moves mv13)
        have G13 := Lib.hid g13
        have c13 := same_any ub _ A A w13 KB13.out.sl K13.out.sl (by rw [HA.out.1]; omega) (by rw [HA.out.1]; omega)
        rw [decide_eq_true rfl] at c13
        clear c12 ou ku g13 mv13 K12 K12b KB
        go_wp2_with fail
        refine c13.mono ?_
        rintro e w14 ⟨rfl, b14⟩
        have K14 := Lib.hid (K13.out.moves (.of_below b14))
        have K14b := Lib.hid (K13b.out.moves (.of_below b14))
        have KC14 := Lib.hid (KC.out.moves (.of_below b14))
        have G14 := Lib.hid (G13.out.below b14)
        clear b14 c13 K13 K13b KC KB13 G13
        have hom := World.ownsRow_made (base := 0) (e := 29) (size := 1) w14 #[] 0 (Nat.zero_le _) (by unfold maxLen; omega) rfl
        have OM := Lib.hid hom
        have S14 := Lib.hid ((K14.out.moves (.of_below ((Below.refl _ _).alloc (Nat.le_refl _) (.cells #[] 29)))).sl.cells)
        clear hom
        go_wp2_with first
          | (at_builtin; refine wpList_app_g E_word (by rfl) _ _ rfl (.slice (some ⟨w14.heap.size, 0, none⟩) 0 0) 0 [] rfl OM.out (.slice a0 m cp0) m (A.map wv) rfl (by have h := S14.out; rw [HA.out.1] at h; exact h) (by simp [HA.out.1]) (by intro y hy; obtain ⟨z, _, rfl⟩ := List.mem_map.1 hy; rfl) (by unfold maxLen; omega) (by omega) ?_; intro v15 w15 hown hgrow hat; have OW15 := Lib.hid hown; have V15 : Hid (Below w14.heap.size w14 w15) := Lib.hid (grown_below (W := w14) ((Below.refl _ _).alloc (Nat.le_refl _) _) hgrow (by intro k hk; cases hk; exact Nat.le_refl _)); have S15 := Lib.hid (K14b.out.moves (.of_below V15.out)).sl.cells; have AT15 := Lib.hid hat; clear hown hgrow hat)
          | (at_builtin; refine wpList_app_g E_word (by rfl) _ _ rfl v15 (0 + m) ([] ++ A.map wv) rfl OW15.out (.slice a1 m2 cp1) m2 (C.map wv) rfl (by have h := S15.out; rw [HC.out.1] at h; exact h) (by simp [HC.out.1]) (by intro y hy; obtain ⟨z, _, rfl⟩ := List.mem_map.1 hy; rfl) (by unfold maxLen; omega) (by omega) ?_; intro v16 w16 hown hgrow hat; have V16 : Hid (Below w14.heap.size w14 w16) := Lib.hid (grown_below (W := w14) V15.out hgrow (by intro k hk; rcases AT15.out with h | h; (rw [h] at hk; cases hk; exact Nat.le_refl _); (rw [h] at hk; cases hk; simp))); have OW16 := Lib.hid hown; clear hown hgrow hat)
        have O16 : Hid (OwnW w16 v16 (A ++ C)) := Lib.hid (by
          have h := OW16.out
          rw [List.nil_append, Nat.zero_add, ← HA.out.1, ← HC.out.1, ← List.map_append, ← List.length_append] at h
          exact h)
        have c16 := same_any uc2 v16 (A ++ C) (A ++ C) w16 (KC14.out.moves (.of_below V16.out)).sl O16.out.sl (by rw [List.length_append, HA.out.1, HC.out.1]; omega) (by rw [List.length_append, HA.out.1, HC.out.1]; omega)
        rw [decide_eq_true rfl] at c16
        have K16 := Lib.hid (K14.out.moves (.of_below V16.out))
        have K16b := Lib.hid (K14b.out.moves (.of_below V16.out))
        refine c16.mono ?_
        rintro e w17 ⟨rfl, b17⟩
        have K17 := Lib.hid (K16.out.moves (.of_below b17))
        have g17 := (G14.out.below V16.out).below b17
        have G17 := Lib.hid g17
        clear b17 c16 K16 K16b OW16 O16 AT15 S15 V15 V16 OW15 S14 OM g17 K14 K14b KC14
        go_wp2_with fail
        go_loopw [27] (fun iv wr => ∃ k : Nat, k ≤ m ∧ iv = .int .i64 k ∧ Grew hb (Hp.empty 400) 0 w3 M5 (0 + m + m2 + m + m + m) wr ∧ Moves hb w17 wr) (fun iv _ => m - (intOf iv).toNat)
        case atStart => exact ⟨0, Nat.zero_le _, rfl, G17.out, .refl _ _⟩
        case round =>
          obtain ⟨k, hk, rfl, hg, hmv⟩ := hrel
          have HG := Lib.hid hg
          have HMV := Lib.hid hmv
          clear hg hmv
          by_cases hkm : k < m
          · obtain ⟨x, hx⟩ : ∃ x, A[k]? = some x := ⟨_, List.getElem?_eq_getElem (by rw [HA.out.1]; omega)⟩
            have c18 := g_ref HG.out LT8.out (by rw [HLT.out]; omega) k x (by rw [List.map_append, rowL_snd', rowL_snd', List.getElem?_append_left (by rw [HA.out.1]; exact hkm)]; exact hx) 29
            rw [show ((k * 8 : Nat) : Int) = (k : Int) * 8 by omega] at c18
            obtain ⟨b4, o4, p4, e4, l4, q4, k4⟩ := (K17.out.moves HMV.out).sl.form (by rw [HA.out.1]; omega)
            simp only [Value.slice.injEq] at e4
            obtain ⟨rfl, e6, rfl⟩ := e4
            have HX := Lib.hid hx
            have hxx : (((x : Nat) : Int) != ((x : Nat) : Int)) = false := by simp
            clear k4 hx e6 l4 q4
            go_wp2_with fail
            refine c18.mono ?_
            rintro e w18 ⟨rfl, g18, mv18⟩
            have mv18' := HMV.out.trans mv18
            obtain ⟨b5, o5, p5, e5, l5, q5, k5⟩ := (K17.out.moves mv18').sl.form (by rw [HA.out.1]; omega)
            simp only [Value.slice.injEq] at e5
            obtain ⟨e5, e7, e8⟩ := e5
            injection e5 with e5
            injection e5 with e9 e10
            subst e9 e10
            have c5 := k5 k x HX.out
            have G18 := Lib.hid g18
            have V18 := Lib.hid mv18'
            clear k5 c18 g18 mv18 mv18' e7 e8 l5 q5
            go_wp2_with fail
            go_roundw
            case rel => exact ⟨k + 1, by omega, by go_num, G18.out, V18.out⟩
            case measure => simp [intOf]; omega
          · obtain rfl : m = k := by omega
            have c18 := g_tail HG.out LT8.out (by rw [HLT.out]; omega) m (by rw [HLT.out]; omega) 29
            rw [show ((m * 8 : Nat) : Int) = (m : Int) * 8 by omega] at c18
            have hq : LSeg.at' 20 (rowL (0 + m + m2 + m + m) A ++ rowL (0 + m) C) m = q := by
              have h := LQ8.out.head
              rw [h]
              unfold LSeg.at'
              rw [List.getElem?_append_right (by rw [rowL_len, HA.out.1]; exact Nat.le_refl _), rowL_len, HA.out.1, Nat.sub_self]
            rw [hq] at c18
            have hqq : (((q : Nat) : Int) == ((q : Nat) : Int)) = true := by simp
            clear hq
            go_wp2_with fail
            refine c18.mono ?_
            rintro e w18 ⟨rfl, g18, mv18⟩
            have V18 : Hid (Moves hb w1 w18) := Lib.hid (V3.out.trans g18.mv)
            clear c18 g18 mv18
            go_wp2_with fail
            refine (awake22 w18).mono ?_
            rintro e w19 ⟨rfl, b19⟩
            have V19 : Hid (Moves hb w1 w19) := Lib.hid (V18.out.trans (.of_below b19))
            clear b19
            go_wp2_with fail
            go_ret
            exact ⟨rfl, HB.out _ V19.out⟩
end Go.Proofs.Ytecemlamoiepdaa
