/- The walk of morainelaw20.FrameRow, of rows of at most 1048576 fields each. -/
import Derived.Test.YtecemlamoiepdaaShares2
import Derived.Test.YtecemlamoiepdaaOwn
namespace Go.Proofs.Ytecemlamoiepdaa
open Go.ChangeShapes Go.WideShapes Go.ChangeAt Go.RowKit

theorem Hp.Has.frFields {M : Hp} {x k nx : Nat} {fs : List Nat} (h : M.Has x 8 0 (k :: nx :: fs)) : M.frFields x = fs.length := by
  unfold Hp.frFields
  rw [h.frIs8 (by simp), if_pos rfl, h.len]
  simp

theorem Hp.Has.frField {M : Hp} (o : M.Ok) {x k nx : Nat} {fs : List Nat} (h : M.Has x 8 0 (k :: nx :: fs)) (i v : Nat) (hi : fs[i]? = some v) : M.frField x i = (v, 0) := by
  have hl : i < fs.length := (List.getElem?_eq_some_iff.1 hi).1
  unfold Hp.frField
  rw [h.frIs8 (by simp), if_pos rfl, h.frFields, if_neg (by omega)]
  exact h.getR o 8 (i + 2) rfl (by omega) (by rw [show ((i : Int) + 2).toNat = i + 2 by omega]; simpa using hi)

theorem frNext_nil {M : Hp} : M.frNext 20 = (0, 3) := by
  have h1 : ∀ k, M.objIn 20 k = none := by
    intro k
    unfold Hp.objIn Hp.atOf
    rw [if_neg (by unfold tagOf; simp)]
  have h2 : M.objOf 20 = none := by unfold Hp.objOf; rw [h1, h1]
  unfold Hp.frNext Hp.frIs Hp.typ
  rw [h2]
  simp

set_option maxRecDepth 10000 in
set_option maxHeartbeats 4000000 in
theorem frrow_walk (v1 v2 : Value) (zs : List Int) (rows : List (List Int)) (W : World) (i1 : IntsAt .i64 W v1 zs) (i2 : RowsAt .u32 W v2 rows)
    (hb : ∀ r ∈ rows, ∀ n ∈ r, 0 ≤ n ∧ n < 4294967296) (hl : ∀ r ∈ rows, r.length ≤ 1048576) :
    Calls Try.prog 4 #[v1, v2] W fun e w' => e = .returned (.bool true) ∧ Below W.heap.size W w' := by
  have hN := new_ok 400 400 rfl (by omega) (by omega) W
  obtain ⟨a1, c1, hv1⟩ := i1.len.2
  obtain ⟨a2, c2, hv2⟩ := i2.len.2
  by_cases l1 : 100 < zs.length
  · subst hv1
    clear i1 i2
    go_enter Try.func4, Try.ntmps4
    go_wp2_with fail
    refine hN.mono ?_
    rintro e w1 ⟨hb, rfl, r1, b1, hh⟩
    clear hN
    go_wp2_with fail
    refine (awakef w1).mono ?_
    rintro e w2 ⟨rfl, b2⟩
    go_wp2_with fail
    go_ret
    exact ⟨rfl, b1.trans (b2.mono b1.size)⟩
  · by_cases l2 : 100 < rows.length
    · subst hv1 hv2
      clear i1 i2
      go_enter Try.func4, Try.ntmps4
      go_wp2_with fail
      refine hN.mono ?_
      rintro e w1 ⟨hb, rfl, r1, b1, hh⟩
      clear hN
      go_wp2_with fail
      refine (awakef w1).mono ?_
      rintro e w2 ⟨rfl, b2⟩
      go_wp2_with fail
      go_ret
      exact ⟨rfl, b1.trans (b2.mono b1.size)⟩
    · have I1 := Lib.hid i1
      have I2 := Lib.hid i2
      have HBD := Lib.hid hb
      have HLD := Lib.hid hl
      obtain ⟨n1, hn1⟩ : ∃ n, n = zs.length := ⟨_, rfl⟩
      obtain ⟨n2, hn2⟩ : ∃ n, n = rows.length := ⟨_, rfl⟩
      rw [← hn1] at hv1 l1
      rw [← hn2] at hv2 l2
      have HN1 := Lib.hid hn1
      have HN2 := Lib.hid hn2
      clear i1 i2 hb hl hn1 hn2
      subst hv1 hv2
      go_enter Try.func4, Try.ntmps4
      go_wp2_with fail
      refine hN.mono ?_
      rintro e w1 ⟨hb, rfl, r1, b1, hh⟩
      have R1 := Lib.hid r1
      have W1 := Lib.hid b1
      have HH := Lib.hid hh
      clear hN r1 b1 hh
      go_wp2_with fail
      go_loopw [7, 8] (fun u i wr => ∃ (k : Nat) (c : Nat → Nat) (Mr : Hp), k ≤ n1 ∧ k ≤ n2 ∧ i = .int .i64 k ∧ u = .int .u64 (c k) ∧ Rep hb Mr wr ∧ Below W.heap.size W wr ∧ c 0 = 20 ∧
        Mr.Chain ((zs.take k).map fun z => (z % 65536).toNat) c (fun i => fld8 (rows.getD i [])) ∧ Mr.segs.length ≤ k ∧ Mr.limit = 400 ∧ (c k = 20 ∨ Mr.typ (c k) = 8) ∧ c k < 18446744073709551616) (fun _ i _ => n1 - (intOf i).toNat)
      case atStart => exact ⟨0, fun _ => 20, _, Nat.zero_le _, Nat.zero_le _, rfl, rfl, R1.out, W1.out, rfl, by intro i z hz; simp at hz, by simp [Hp.empty], rfl, .inl rfl, by show (20 : Nat) < _; omega⟩
      case round =>
        obtain ⟨k, c, Mr, hk1, hk2, rfl, rfl, hR, hB, h0, hC, hS, hL, h8, hc⟩ := hrel
        by_cases hlt : k < n1 ∧ k < n2
        · obtain ⟨hlt1, hlt2⟩ := hlt
          obtain ⟨w5, hw5⟩ : ∃ w5, w5 = wr := ⟨_, rfl⟩
          subst hw5
          obtain ⟨b1, o1, p1, e1, s1, k1⟩ := (I1.out.below hB).form (by rw [← HN1.out]; omega)
          obtain ⟨b2, o2, p2, e2, s2, k2⟩ := (I2.out.below hB).form (by rw [← HN2.out]; omega)
          obtain ⟨z, hz⟩ : ∃ z, zs[k]? = some z := ⟨_, List.getElem?_eq_getElem (by rw [← HN1.out]; omega)⟩
          obtain ⟨r, hr⟩ : ∃ r, rows[k]? = some r := ⟨_, List.getElem?_eq_getElem (by rw [← HN2.out]; omega)⟩
          obtain ⟨u, k3, k4⟩ := k2 k r hr
          obtain ⟨hrm, ua, uc, rfl⟩ := k4.len
          have k5 := k1 k z hz
          have hrb := HBD.out r (List.mem_of_getElem? hr)
          have hrl := HLD.out r (List.mem_of_getElem? hr)
          obtain ⟨rfl, rfl⟩ : a1 = some ⟨b1, o1, none⟩ ∧ c1 = p1 := by
            simp only [Value.slice.injEq] at e1
            exact ⟨e1.1, e1.2.2⟩
          obtain ⟨rfl, rfl⟩ : a2 = some ⟨b2, o2, none⟩ ∧ c2 = p2 := by
            simp only [Value.slice.injEq] at e2
            exact ⟨e2.1, e2.2.2⟩
          have RR := Lib.hid hR
          have HB := Lib.hid hB
          have HC := Lib.hid hC
          have HL := Lib.hid hL
          have H8 := Lib.hid h8
          have HS := Lib.hid hS
          have C1 := Lib.hid (fun (w' : World) (b9 : Below w5.heap.size w5 w') => (World.cell?_of_block (w := w5) (a := ⟨b1, o1 + k, none⟩) (b9.block b1 s1)).trans k5)
          have C2 := Lib.hid (fun (w' : World) (b9 : Below w5.heap.size w5 w') => (World.cell?_of_block (w := w5) (a := ⟨b2, o2 + k, none⟩) (b9.block b2 s2)).trans k3)
          have C3 := Lib.hid k4
          have HRB := Lib.hid hrb
          have HZ := Lib.hid hz
          have HRr := Lib.hid hr
          obtain ⟨m, hm⟩ : ∃ m, m = r.length := ⟨_, rfl⟩
          rw [← hm] at hrl C2 C3
          have HM := Lib.hid hm
          clear e1 e2 s1 s2 k1 k2 k3 k4 k5 hrb hR hB hC hL h8 hS hz hr hrm hm
          go_wp2_with fail
          go_loopw [9, 10] (fun v i wr => ∃ n : Nat, n ≤ m ∧ i = .int .i64 n ∧ OwnW wr v (fld8 (r.take n)) ∧ Below w5.heap.size w5 wr ∧ ∀ g, v.ownBlock = some g → w5.heap.size ≤ g) (fun _ i _ => m - (intOf i).toNat)
          case atStart => exact ⟨0, Nat.zero_le _, rfl, OwnW.nil _, Below.refl _ _, by intro g hg; cases hg⟩
          case round =>
            obtain ⟨n, hn, rfl, hO, hB5, hg⟩ := hrel
            have c2 := C2.out _ hB5
            by_cases hnm : n < m
            · obtain ⟨b3, o3, p3, e3, s3, k3⟩ := (C3.out.below hB5).form (by rw [← HM.out]; omega)
              obtain ⟨x, hx⟩ : ∃ x, r[n]? = some x := ⟨_, List.getElem?_eq_getElem (by rw [← HM.out]; omega)⟩
              have c3 := k3 n x hx
              have hx0 := (HRB.out x (List.mem_of_getElem? hx)).1
              have hx1 := (HRB.out x (List.mem_of_getElem? hx)).2
              obtain ⟨rfl, rfl⟩ : ua = some ⟨b3, o3, none⟩ ∧ uc = p3 := by
                simp only [Value.slice.injEq] at e3
                exact ⟨e3.1, e3.2.2⟩
              have hlen : (fld8 (r.take n)).length = n := by unfold fld8; rw [List.length_map, List.length_take]; have := HM.out; omega
              have hO1 := hO
              unfold OwnW at hO1
              rw [hlen] at hO1
              have O1 := Lib.hid (hO1.alloc (.cells #[.int .u64 (x * 8)] 29))
              have G := Lib.hid hg
              have B5 := Lib.hid hB5
              have X := Lib.hid hx
              have OC := Lib.hid (one_cell wr (.int .u64 (x * 8)) 29)
              have hk2' : k < n2 := hlt2
              clear hO hO1 hg hB5 hx e3 s3 k3 hlen
              go_wp2_with (at_builtin; refine wpList_app E_word rfl _ _ rfl u9 n ((fld8 (r.take n)).map wv) rfl O1.out _ 1 [.int .u64 (x * 8)] rfl OC.out (by simp) (by simp [Value.oneCell']) (by unfold maxLen; omega) (by omega) ?_; intro v' w6 hown hgrow hat)
              go_roundw
              case rel =>
                refine ⟨n + 1, by omega, by go_num, ?_, grown_below (W := w5) (B5.out.alloc B5.out.size _) hgrow (fun g hg => G.out g hg), ?_⟩
                · have hlen : (fld8 (r.take n)).length = n := by unfold fld8; rw [List.length_map, List.length_take]; have := HM.out; omega
                  unfold OwnW
                  rw [fld8_snoc X.out, List.map_append, List.length_append, hlen]
                  show w6.ownsRow 0 29 1 v' (n + 1) (_ ++ [wv (x.toNat * 8)])
                  rw [wv_mul hx0]
                  exact hown
                · intro g hg
                  rcases hat with h | h
                  · rw [h] at hg; exact G.out g hg
                  · rw [h] at hg; cases hg; have := B5.out.size; simp; omega
              case measure => simp [intOf]; omega
            · obtain rfl : n = m := by omega
              have hO1 := hO
              rw [HM.out, List.take_length] at hO1
              have hlen : (fld8 r).length = n := by unfold fld8; rw [List.length_map, HM.out]
              obtain ⟨ga, gc, rfl⟩ := hO1.slice
              rw [hlen] at hO1 hg ⊢
              have O1 := Lib.hid hO1
              have G := Lib.hid hg
              have B5 := Lib.hid hB5
              have HLEN := Lib.hid hlen
              clear hO hO1 hg hB5 hlen
              by_cases h50 : 50 < n
              · clear C1 C3
                go_wp2_with fail
                refine (awakef wr).mono ?_
                rintro e w7 ⟨rfl, b7⟩
                go_wp2_with fail
                go_ret
                exact ⟨rfl, HB.out.trans ((B5.out.trans (b7.mono B5.out.size)).mono HB.out.size)⟩
              · have c1' := C1.out _ B5.out
                have hz0 : 0 ≤ z % 65536 := by omega
                have hz1 : z % 65536 < 65536 := by omega
                have hRw := RR.out.below B5.out
                obtain ⟨x', M', hp, g', hh', hs'⟩ := Hp.push_has hRw.ok (K := z % 65536) (k := (z % 65536).toNat) (nx := c k) (fs := fld8 r) (by omega) (by omega) H8.out (by rw [HLEN.out]; omega) (by have := HS.out; have := HL.out; omega)
                have HP := Lib.hid hp
                have HH' := Lib.hid (And.intro g' (And.intro hh' hs'))
                have RW := Lib.hid hRw
                have SL := Lib.hid (O1.out.sl)
                clear hp g' hh' hs' hRw C1 C3
                go_wp2_with fail
                rw [i64_and16]
                refine (push_any RW.out (z % 65536) (c k) hc _ (fld8 r) SL.out (by rw [HLEN.out]; omega) (by
                  intro y hy
                  unfold fld8 at hy
                  obtain ⟨x, hx, rfl⟩ := List.mem_map.1 hy
                  have := HRB.out x hx
                  omega) HP.out).mono ?_
                rintro e w8 ⟨rfl, r8, m8⟩
                have R8 := Lib.hid r8
                have M8 : Hid (Below W.heap.size W w8) := Lib.hid (m8.below_of (HB.out.trans (B5.out.mono HB.out.size)) HH.out)
                clear r8 m8 c1' SL
                go_wp2_with fail
                go_roundw
                case rel =>
                  obtain ⟨g', hh', hs'⟩ := HH'.out
                  have hS9 := HS.out
                  refine ⟨k + 1, fun j => if j = k + 1 then x' else c j, M', by omega, by omega, by go_num, by simp, R8.out, M8.out, by simp [h0], ?_, by omega, by rw [g'.1]; exact HL.out, ?_, ?_⟩
                  · intro i y hy
                    by_cases hi : i = k
                    · subst hi
                      rw [List.getElem?_map, List.getElem?_take_of_lt (by omega), HZ.out] at hy
                      cases hy
                      simpa [HRr.out] using hh'
                    · have hi2 : i < k := by
                        have := (List.getElem?_eq_some_iff.1 hy).1
                        simp at this
                        omega
                      have hy2 : ((zs.take k).map fun z => (z % 65536).toNat)[i]? = some y := by
                        rw [List.getElem?_map, List.getElem?_take_of_lt (by omega)] at hy ⊢
                        exact hy
                      have := (HC.out i y hy2).grown g'
                      simpa [show ¬ i = k + 1 by omega, hi] using this
                  · right; simp only [if_pos]; exact hh'.typ
                  · simp only [if_pos]; have := hh'.lt; omega
                case measure => simp [intOf]; omega
        · have hm : ∃ m, m = k ∧ (m = n1 ∨ m = n2) := ⟨k, rfl, by omega⟩
          have RR := Lib.hid hR
          have HB := Lib.hid hB
          have HC := Lib.hid hC
          clear hR hB hC h8 hm
          have hk3 : k = n1 ∨ k = n2 := by omega
          have ZL : Hid (k ≤ zs.length) := Lib.hid (by rw [← HN1.out]; exact hk1)
          have RL : Hid (k ≤ rows.length) := Lib.hid (by rw [← HN2.out]; exact hk2)
          rcases (show k = n1 ∨ (k < n1 ∧ k = n2) by omega) with rfl | ⟨hk4, rfl⟩
          · go_wp2_with fail
            obtain ⟨w5, hw5⟩ : ∃ w5, w5 = wr := ⟨_, rfl⟩
            subst hw5
            go_loopw [7, 12] (fun u i wr => ∃ (j : Nat), j ≤ k ∧ u = .int .u64 (c j) ∧ i = .int .i64 ((j : Int) - 1) ∧ Below w5.heap.size w5 wr) (fun _ i _ => (intOf i + 1).toNat)
            case atStart => exact ⟨k, Nat.le_refl _, rfl, rfl, Below.refl _ _⟩
            case round =>
              obtain ⟨j, hj, rfl, hi, hb6⟩ := hrel
              have B6 := Lib.hid hb6
              clear hb6
              cases j with
              | zero =>
                generalize hI : (((0 : Nat) : Int) - 1) = I at hi
                have hIn : I < 0 := by omega
                clear hI
                subst hi
                rw [h0]
                have hX := next_any (RR.out.below B6.out) 20 (by omega) frNext_nil
                go_wp2_with fail
                refine hX.mono ?_
                rintro e w7 ⟨rfl, b7⟩
                clear hX
                go_wp2_with fail
                refine (awakef w7).mono ?_
                rintro e w8 ⟨rfl, b8⟩
                go_wp2_with fail
                go_ret
                exact ⟨rfl, HB.out.trans ((B6.out.trans ((b7.trans (b8.mono b7.size)).mono B6.out.size)).mono HB.out.size)⟩
              | succ m =>
                rw [show (((m + 1 : Nat) : Int) - 1) = (m : Int) by omega] at hi
                subst hi
                obtain ⟨b1, o1, p1, e1, s1, k1⟩ := (I1.out.below HB.out).form (by have := ZL.out; omega)
                obtain ⟨b2, o2, p2, e2, s2, k2⟩ := (I2.out.below HB.out).form (by have := RL.out; omega)
                obtain ⟨z, hz⟩ : ∃ z, zs[m]? = some z := ⟨_, List.getElem?_eq_getElem (by have := ZL.out; omega)⟩
                obtain ⟨r, hr⟩ : ∃ r, rows[m]? = some r := ⟨_, List.getElem?_eq_getElem (by have := RL.out; omega)⟩
                obtain ⟨u, k3, k4⟩ := k2 m r hr
                obtain ⟨hrm, ua, uc, rfl⟩ := k4.len
                have k5 := k1 m z hz
                have hrb := HBD.out r (List.mem_of_getElem? hr)
                have hrl := HLD.out r (List.mem_of_getElem? hr)
                obtain ⟨rfl, rfl⟩ : a1 = some ⟨b1, o1, none⟩ ∧ c1 = p1 := by
                  simp only [Value.slice.injEq] at e1
                  exact ⟨e1.1, e1.2.2⟩
                obtain ⟨rfl, rfl⟩ : a2 = some ⟨b2, o2, none⟩ ∧ c2 = p2 := by
                  simp only [Value.slice.injEq] at e2
                  exact ⟨e2.1, e2.2.2⟩
                have hh := HC.out m (z % 65536).toNat (by rw [List.getElem?_map, List.getElem?_take_of_lt (by omega), hz]; rfl)
                have hgd : rows.getD m [] = r := by rw [List.getD_eq_getElem?_getD, hr]; rfl
                simp only [hgd] at hh
                have hlt : c (m + 1) < 18446744073709551616 := by have := hh.lt; omega
                have R6 := RR.out.below B6.out
                have hK := kind_any R6 (c (m + 1)) hlt (hh.frKind R6.ok (by omega))
                rw [show (((z % 65536).toNat : Nat) : Int) = z % 65536 by omega] at hK
                have hFl : Mr.frFields (c (m + 1)) = r.length := by rw [hh.frFields]; unfold fld8; simp
                have hF : ∀ w', Below w5.heap.size w5 w' → Calls Try.prog 20 #[.pointer (some ⟨hb.h, 0, none⟩), .int .u64 (c (m + 1) : Nat)] w' fun e w'' => e = .returned (.int .i64 (r.length : Nat)) ∧ Below w'.heap.size w' w'' := by
                  intro w' b'
                  have := fields_any (RR.out.below b') (c (m + 1)) hlt
                  rw [hFl] at this
                  exact this
                have C1 := Lib.hid (fun (w' : World) (b9 : Below w5.heap.size w5 w') => (World.cell?_of_block (w := w5) (a := ⟨b1, o1 + m, none⟩) (b9.block b1 s1)).trans k5)
                have C2 := Lib.hid (fun (w' : World) (b9 : Below w5.heap.size w5 w') => (World.cell?_of_block (w := w5) (a := ⟨b2, o2 + m, none⟩) (b9.block b2 s2)).trans k3)
                have C3 := Lib.hid k4
                have HF := Lib.hid hF
                have HHH := Lib.hid hh
                have HLT := Lib.hid hlt
                have hm1 : m < k := by omega
                have hmz : m < zs.length := by have := ZL.out; omega
                have hmr : m < rows.length := by have := RL.out; omega
                have HRB := Lib.hid hrb
                obtain ⟨y, hy⟩ : ∃ y, y = c (m + 1) := ⟨_, rfl⟩
                obtain ⟨n, hn⟩ : ∃ n, n = r.length := ⟨_, rfl⟩
                rw [← hy] at hK HF HHH HLT ⊢
                rw [← hn] at HF C2 C3 hrl
                have HY := Lib.hid hy
                have HNR := Lib.hid hn
                clear e1 e2 s1 s2 k1 k2 k3 k4 k5 hrb R6 hh hFl hF hz hr hgd hlt hrm hy hn
                go_wp2_with fail
                refine hK.mono ?_
                rintro e w7 ⟨rfl, b7⟩
                have B7 : Hid (Below w5.heap.size w5 w7) := Lib.hid (B6.out.trans (b7.mono B6.out.size))
                have c1' := C1.out _ B7.out
                have c2' := C2.out _ B7.out
                have t1 : ((z % 65536 : Int) != bits .and .i64 z 65535) = false := by rw [i64_and16]; simp
                clear hK b7
                go_wp2_with fail
                have F7 : Hid (Calls Try.prog 20 #[.pointer (some ⟨hb.h, 0, none⟩), .int .u64 (y : Nat)] w7.drew fun e w'' => e = .returned (.int .i64 (n : Nat)) ∧ Below w7.drew.heap.size w7.drew w'') := Lib.hid (HF.out _ ⟨B7.out.os, B7.out.tape, B7.out.output, B7.out.size, B7.out.block⟩)
                have hmn : m < n2 := by omega
                have S1 : b1 < w7.heap.size := cell_lt c1'
                have S2 : b2 < w7.heap.size := cell_lt c2'
                go_region_held3 (fun W' => W'.cell? ⟨b1, o1 + m, none⟩ = some (.int .i64 z) ∧ W'.cell? ⟨b2, o2 + m, none⟩ = some (.slice ua n uc)) (go_keep) (first | (go_at_call 20; refine F7.out.mono ?_; rintro e w8 ⟨rfl, b8⟩; have q1 : w8.cell? ⟨b1, o1 + m, none⟩ = some (.int .i64 z) := (b8.cell (p := ⟨b1, o1 + m, none⟩) S1).trans c1'; have q2 : w8.cell? ⟨b2, o2 + m, none⟩ = some (.slice ua n uc) := (b8.cell (p := ⟨b2, o2 + m, none⟩) S2).trans c2'))
                have B8 : Hid (Below w5.heap.size w5 w8) := Lib.hid (Below.trans (b := w7.drew) ⟨B7.out.os, B7.out.tape, B7.out.output, B7.out.size, B7.out.block⟩ (b8.mono B7.out.size))
                clear F7 S1 S2 q1 q2 b8 c1' c2' t1 HF
                go_wp2_with fail
                go_loopw [15] (fun i wr => ∃ (q : Nat), q ≤ n ∧ i = .int .i64 q ∧ Below w5.heap.size w5 wr) (fun i _ => n - (intOf i).toNat)
                case atStart => exact ⟨0, Nat.zero_le _, rfl, B8.out⟩
                case round =>
                  obtain ⟨q, hq, rfl, hb9⟩ := hrel
                  have B9 := Lib.hid hb9
                  have c2' := C2.out _ hb9
                  clear hb9
                  by_cases hqn : q < n
                  · obtain ⟨b3, o3, p3, e3, s3, k3⟩ := (C3.out.below B9.out).form (by rw [← HNR.out]; omega)
                    obtain ⟨x, hx⟩ : ∃ x, r[q]? = some x := ⟨_, List.getElem?_eq_getElem (by rw [← HNR.out]; omega)⟩
                    have k4 := k3 q x hx
                    have hx0 := (HRB.out x (List.mem_of_getElem? hx)).1
                    have hx1 := (HRB.out x (List.mem_of_getElem? hx)).2
                    obtain ⟨rfl, rfl⟩ : ua = some ⟨b3, o3, none⟩ ∧ uc = p3 := by
                      simp only [Value.slice.injEq] at e3
                      exact ⟨e3.1, e3.2.2⟩
                    have hfv : (fld8 r)[q]? = some (x.toNat * 8) := by unfold fld8; rw [List.getElem?_map, hx]; rfl
                    have R9 := RR.out.below B9.out
                    have hFd := field_any R9 y HLT.out q (HHH.out.frField R9.ok q _ hfv)
                    have hxe : (((x.toNat * 8 : Nat) : Int)) = x * 8 := by omega
                    rw [hxe] at hFd
                    have K4 := Lib.hid (fun (w' : World) (b9 : Below wr.heap.size wr w') => (World.cell?_of_block (w := wr) (a := ⟨b3, o3 + q, none⟩) (b9.block b3 s3)).trans k4)
                    have t1 : ((x * 8 : Int) != x * 8) = false := by simp
                    clear R9 hfv hx e3 s3 k3 k4 hxe
                    go_wp2_with fail
                    refine hFd.mono ?_
                    rintro e w9 ⟨rfl, b9⟩
                    have B10 : Hid (Below w5.heap.size w5 w9) := Lib.hid (B9.out.trans (b9.mono B9.out.size))
                    have c2'' := C2.out _ B10.out
                    have c3'' := K4.out _ b9
                    clear hFd b9 K4 c2'
                    go_wp2_with fail
                    go_roundw
                    case rel => exact ⟨q + 1, by omega, by go_num, B10.out⟩
                    case measure => simp [intOf]; omega
                  · obtain rfl : q = n := by omega
                    have hX := next_any (RR.out.below B9.out) y HLT.out (HHH.out.frNext (RR.out.below B9.out).ok)
                    go_wp2_with fail
                    refine hX.mono ?_
                    rintro e w9 ⟨rfl, b9⟩
                    have B10 : Hid (Below w5.heap.size w5 w9) := Lib.hid (B9.out.trans (b9.mono B9.out.size))
                    clear hX b9 c2'
                    go_wp2_with fail
                    go_roundw
                    case rel => exact ⟨m, by omega, rfl, by go_num, B10.out⟩
                    case measure => simp [intOf]
          · go_wp2_with fail
            obtain ⟨w5, hw5⟩ : ∃ w5, w5 = wr := ⟨_, rfl⟩
            subst hw5
            go_loopw [7, 12] (fun u i wr => ∃ (j : Nat), j ≤ k ∧ u = .int .u64 (c j) ∧ i = .int .i64 ((j : Int) - 1) ∧ Below w5.heap.size w5 wr) (fun _ i _ => (intOf i + 1).toNat)
            case atStart => exact ⟨k, Nat.le_refl _, rfl, rfl, Below.refl _ _⟩
            case round =>
              obtain ⟨j, hj, rfl, hi, hb6⟩ := hrel
              have B6 := Lib.hid hb6
              clear hb6
              cases j with
              | zero =>
                generalize hI : (((0 : Nat) : Int) - 1) = I at hi
                have hIn : I < 0 := by omega
                clear hI
                subst hi
                rw [h0]
                have hX := next_any (RR.out.below B6.out) 20 (by omega) frNext_nil
                go_wp2_with fail
                refine hX.mono ?_
                rintro e w7 ⟨rfl, b7⟩
                clear hX
                go_wp2_with fail
                refine (awakef w7).mono ?_
                rintro e w8 ⟨rfl, b8⟩
                go_wp2_with fail
                go_ret
                exact ⟨rfl, HB.out.trans ((B6.out.trans ((b7.trans (b8.mono b7.size)).mono B6.out.size)).mono HB.out.size)⟩
              | succ m =>
                rw [show (((m + 1 : Nat) : Int) - 1) = (m : Int) by omega] at hi
                subst hi
                obtain ⟨b1, o1, p1, e1, s1, k1⟩ := (I1.out.below HB.out).form (by have := ZL.out; omega)
                obtain ⟨b2, o2, p2, e2, s2, k2⟩ := (I2.out.below HB.out).form (by have := RL.out; omega)
                obtain ⟨z, hz⟩ : ∃ z, zs[m]? = some z := ⟨_, List.getElem?_eq_getElem (by have := ZL.out; omega)⟩
                obtain ⟨r, hr⟩ : ∃ r, rows[m]? = some r := ⟨_, List.getElem?_eq_getElem (by have := RL.out; omega)⟩
                obtain ⟨u, k3, k4⟩ := k2 m r hr
                obtain ⟨hrm, ua, uc, rfl⟩ := k4.len
                have k5 := k1 m z hz
                have hrb := HBD.out r (List.mem_of_getElem? hr)
                have hrl := HLD.out r (List.mem_of_getElem? hr)
                obtain ⟨rfl, rfl⟩ : a1 = some ⟨b1, o1, none⟩ ∧ c1 = p1 := by
                  simp only [Value.slice.injEq] at e1
                  exact ⟨e1.1, e1.2.2⟩
                obtain ⟨rfl, rfl⟩ : a2 = some ⟨b2, o2, none⟩ ∧ c2 = p2 := by
                  simp only [Value.slice.injEq] at e2
                  exact ⟨e2.1, e2.2.2⟩
                have hh := HC.out m (z % 65536).toNat (by rw [List.getElem?_map, List.getElem?_take_of_lt (by omega), hz]; rfl)
                have hgd : rows.getD m [] = r := by rw [List.getD_eq_getElem?_getD, hr]; rfl
                simp only [hgd] at hh
                have hlt : c (m + 1) < 18446744073709551616 := by have := hh.lt; omega
                have R6 := RR.out.below B6.out
                have hK := kind_any R6 (c (m + 1)) hlt (hh.frKind R6.ok (by omega))
                rw [show (((z % 65536).toNat : Nat) : Int) = z % 65536 by omega] at hK
                have hFl : Mr.frFields (c (m + 1)) = r.length := by rw [hh.frFields]; unfold fld8; simp
                have hF : ∀ w', Below w5.heap.size w5 w' → Calls Try.prog 20 #[.pointer (some ⟨hb.h, 0, none⟩), .int .u64 (c (m + 1) : Nat)] w' fun e w'' => e = .returned (.int .i64 (r.length : Nat)) ∧ Below w'.heap.size w' w'' := by
                  intro w' b'
                  have := fields_any (RR.out.below b') (c (m + 1)) hlt
                  rw [hFl] at this
                  exact this
                have C1 := Lib.hid (fun (w' : World) (b9 : Below w5.heap.size w5 w') => (World.cell?_of_block (w := w5) (a := ⟨b1, o1 + m, none⟩) (b9.block b1 s1)).trans k5)
                have C2 := Lib.hid (fun (w' : World) (b9 : Below w5.heap.size w5 w') => (World.cell?_of_block (w := w5) (a := ⟨b2, o2 + m, none⟩) (b9.block b2 s2)).trans k3)
                have C3 := Lib.hid k4
                have HF := Lib.hid hF
                have HHH := Lib.hid hh
                have HLT := Lib.hid hlt
                have hm1 : m < k := by omega
                have hmz : m < zs.length := by have := ZL.out; omega
                have hmr : m < rows.length := by have := RL.out; omega
                have HRB := Lib.hid hrb
                obtain ⟨y, hy⟩ : ∃ y, y = c (m + 1) := ⟨_, rfl⟩
                obtain ⟨n, hn⟩ : ∃ n, n = r.length := ⟨_, rfl⟩
                rw [← hy] at hK HF HHH HLT ⊢
                rw [← hn] at HF C2 C3 hrl
                have HY := Lib.hid hy
                have HNR := Lib.hid hn
                clear e1 e2 s1 s2 k1 k2 k3 k4 k5 hrb R6 hh hFl hF hz hr hgd hlt hrm hy hn
                go_wp2_with fail
                refine hK.mono ?_
                rintro e w7 ⟨rfl, b7⟩
                have B7 : Hid (Below w5.heap.size w5 w7) := Lib.hid (B6.out.trans (b7.mono B6.out.size))
                have c1' := C1.out _ B7.out
                have c2' := C2.out _ B7.out
                have t1 : ((z % 65536 : Int) != bits .and .i64 z 65535) = false := by rw [i64_and16]; simp
                clear hK b7
                go_wp2_with fail
                have F7 : Hid (Calls Try.prog 20 #[.pointer (some ⟨hb.h, 0, none⟩), .int .u64 (y : Nat)] w7.drew fun e w'' => e = .returned (.int .i64 (n : Nat)) ∧ Below w7.drew.heap.size w7.drew w'') := Lib.hid (HF.out _ ⟨B7.out.os, B7.out.tape, B7.out.output, B7.out.size, B7.out.block⟩)
                have hmn : m < n1 := by omega
                have S1 : b1 < w7.heap.size := cell_lt c1'
                have S2 : b2 < w7.heap.size := cell_lt c2'
                go_region_held3 (fun W' => W'.cell? ⟨b1, o1 + m, none⟩ = some (.int .i64 z) ∧ W'.cell? ⟨b2, o2 + m, none⟩ = some (.slice ua n uc)) (go_keep) (first | (go_at_call 20; refine F7.out.mono ?_; rintro e w8 ⟨rfl, b8⟩; have q1 : w8.cell? ⟨b1, o1 + m, none⟩ = some (.int .i64 z) := (b8.cell (p := ⟨b1, o1 + m, none⟩) S1).trans c1'; have q2 : w8.cell? ⟨b2, o2 + m, none⟩ = some (.slice ua n uc) := (b8.cell (p := ⟨b2, o2 + m, none⟩) S2).trans c2'))
                have B8 : Hid (Below w5.heap.size w5 w8) := Lib.hid (Below.trans (b := w7.drew) ⟨B7.out.os, B7.out.tape, B7.out.output, B7.out.size, B7.out.block⟩ (b8.mono B7.out.size))
                clear F7 S1 S2 q1 q2 b8 c1' c2' t1 HF
                go_wp2_with fail
                go_loopw [15] (fun i wr => ∃ (q : Nat), q ≤ n ∧ i = .int .i64 q ∧ Below w5.heap.size w5 wr) (fun i _ => n - (intOf i).toNat)
                case atStart => exact ⟨0, Nat.zero_le _, rfl, B8.out⟩
                case round =>
                  obtain ⟨q, hq, rfl, hb9⟩ := hrel
                  have B9 := Lib.hid hb9
                  have c2' := C2.out _ hb9
                  clear hb9
                  by_cases hqn : q < n
                  · obtain ⟨b3, o3, p3, e3, s3, k3⟩ := (C3.out.below B9.out).form (by rw [← HNR.out]; omega)
                    obtain ⟨x, hx⟩ : ∃ x, r[q]? = some x := ⟨_, List.getElem?_eq_getElem (by rw [← HNR.out]; omega)⟩
                    have k4 := k3 q x hx
                    have hx0 := (HRB.out x (List.mem_of_getElem? hx)).1
                    have hx1 := (HRB.out x (List.mem_of_getElem? hx)).2
                    obtain ⟨rfl, rfl⟩ : ua = some ⟨b3, o3, none⟩ ∧ uc = p3 := by
                      simp only [Value.slice.injEq] at e3
                      exact ⟨e3.1, e3.2.2⟩
                    have hfv : (fld8 r)[q]? = some (x.toNat * 8) := by unfold fld8; rw [List.getElem?_map, hx]; rfl
                    have R9 := RR.out.below B9.out
                    have hFd := field_any R9 y HLT.out q (HHH.out.frField R9.ok q _ hfv)
                    have hxe : (((x.toNat * 8 : Nat) : Int)) = x * 8 := by omega
                    rw [hxe] at hFd
                    have K4 := Lib.hid (fun (w' : World) (b9 : Below wr.heap.size wr w') => (World.cell?_of_block (w := wr) (a := ⟨b3, o3 + q, none⟩) (b9.block b3 s3)).trans k4)
                    have t1 : ((x * 8 : Int) != x * 8) = false := by simp
                    clear R9 hfv hx e3 s3 k3 k4 hxe
                    go_wp2_with fail
                    refine hFd.mono ?_
                    rintro e w9 ⟨rfl, b9⟩
                    have B10 : Hid (Below w5.heap.size w5 w9) := Lib.hid (B9.out.trans (b9.mono B9.out.size))
                    have c2'' := C2.out _ B10.out
                    have c3'' := K4.out _ b9
                    clear hFd b9 K4 c2'
                    go_wp2_with fail
                    go_roundw
                    case rel => exact ⟨q + 1, by omega, by go_num, B10.out⟩
                    case measure => simp [intOf]; omega
                  · obtain rfl : q = n := by omega
                    have hX := next_any (RR.out.below B9.out) y HLT.out (HHH.out.frNext (RR.out.below B9.out).ok)
                    go_wp2_with fail
                    refine hX.mono ?_
                    rintro e w9 ⟨rfl, b9⟩
                    have B10 : Hid (Below w5.heap.size w5 w9) := Lib.hid (B9.out.trans (b9.mono B9.out.size))
                    clear hX b9 c2'
                    go_wp2_with fail
                    go_roundw
                    case rel => exact ⟨m, by omega, rfl, by go_num, B10.out⟩
                    case measure => simp [intOf]
end Go.Proofs.Ytecemlamoiepdaa
