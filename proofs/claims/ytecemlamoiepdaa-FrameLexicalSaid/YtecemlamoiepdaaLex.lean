/- The walk of morainelaw20.FrameLexical. -/
import Derived.Test.YtecemlamoiepdaaEnv
import Derived.Test.YtecemlamoiepdaaAwakeF
import Derived.Deep.RegionHeld3
import Derived.Deep.CutRange
import Derived.Deep.AppendLies
import Derived.Deep.RegionLaw
import Derived.Deep.CutBlock
import Derived.StillTailTactics
namespace Go.Proofs.Ytecemlamoiepdaa
open Go.ChangeShapes Go.WideShapes Go.ChangeAt Go.RowKit

set_option maxRecDepth 100000 in
set_option maxHeartbeats 4000000 in
theorem lex_walk (v0 : Value) (S : List St) (W : World) (i0 : StepsAt W v0 S) (hok : ∀ s ∈ S, s.Ok) :
    Calls Try.prog 5 #[v0] W fun e w' => e = .returned (.bool true) ∧ Below W.heap.size W w' := by
  have hN := new_ok 400 400 rfl (by omega) (by omega) W
  obtain ⟨a0, c0, hv0⟩ := i0.len.2
  by_cases l1 : 100 < S.length
  · subst hv0
    clear i0
    go_enter Try.func5, Try.ntmps5
    go_wp2_with fail
    refine hN.mono ?_
    rintro e w1 ⟨hb, rfl, r1, b1, hh⟩
    clear hN
    go_wp2_with fail
    refine (awakef w1).mono ?_
    rintro e w2 ⟨rfl, b2⟩
    go_wp2_with fail
    go_ret
    exact ⟨rfl, b1.trans (b2.mono b1.size)⟩
  · have I0 := Lib.hid i0
    have HOK := Lib.hid hok
    obtain ⟨n, hn⟩ : ∃ n, n = S.length := ⟨_, rfl⟩
    rw [← hn] at hv0 l1
    have HN := Lib.hid hn
    clear i0 hok hn
    subst hv0
    go_enter Try.func5, Try.ntmps5
    go_wp2_with fail
    refine hN.mono ?_
    rintro e w1 ⟨hb, rfl, r1, b1, hh⟩
    have R1 := Lib.hid r1
    have W1 := Lib.hid b1
    have HH := Lib.hid hh
    clear hN r1 b1 hh
    go_wp2_with fail
    go_loopw [5, 6] (fun u i wr => ∃ (k : Nat) (G : List Sc) (vs : List Value) (M : Hp), k ≤ n ∧ i = .int .i64 k ∧ G.length ≤ k ∧ Env hb W.heap.size wr u G vs ∧ Rep hb M wr ∧ Scs M G ∧ M.segs.length ≤ k ∧ M.limit = 400 ∧ Below W.heap.size W wr) (fun _ i _ => n - (intOf i).toNat)
    case atStart => exact ⟨0, [], [], _, Nat.zero_le _, rfl, by simp, Env.nil _ _ _, R1.out, Scs.nil _, by simp [Hp.empty], rfl, W1.out⟩
    case round =>
      obtain ⟨k, G, vs, M, hk, rfl, hGk, hE, hR, hS, hM, hL, hB⟩ := hrel
      by_cases hlt : k < n
      · obtain ⟨b, o, cap, e, hbl, hc⟩ := (I0.out.below hB).form (by rw [← HN.out]; omega)
        obtain ⟨s, hs⟩ : ∃ s, S[k]? = some s := ⟨_, List.getElem?_eq_getElem (by rw [← HN.out]; omega)⟩
        obtain ⟨x1, x2, x3, x4, x5, x6, x7⟩ := hc k s hs
        obtain ⟨⟨p1, p2⟩, ⟨p3, p4⟩, ⟨p5, p6⟩, ⟨p7, p8⟩, p9, ⟨pa, pb⟩⟩ := HOK.out s (List.mem_of_getElem? hs)
        obtain ⟨rfl, rfl⟩ : a0 = some ⟨b, o, none⟩ ∧ c0 = cap := by
          simp only [Value.slice.injEq] at e
          exact ⟨e.1, e.2.2⟩
        obtain ⟨sput, sat, sup, si, slv, sl, sv⟩ := s
        simp only at x1 x2 x3 x4 x5 x6 x7 p1 p2 p3 p4 p5 p6 p7 p8 p9 pa pb
        obtain ⟨hsm, la, lc, rfl⟩ := x7.len
        have XL := Lib.hid x7
        have PL := Lib.hid p9
        obtain ⟨m, hm⟩ : ∃ m, m = sl.length := ⟨_, rfl⟩
        rw [← hm] at hsm x5 XL
        have HM := Lib.hid hm
        have EE := Lib.hid hE
        have RR := Lib.hid hR
        have SS := Lib.hid hS
        have HMS := Lib.hid hM
        have HL := Lib.hid hL
        have HB := Lib.hid hB
        clear x7 p9 hm hE hR hS hM hL hB hc hs e
        unfold maxLen at hsm
        by_cases h50 : 50 < m
        · go_wp2_with fail
          refine (awakef _).mono ?_
          rintro e w7 ⟨rfl, b7⟩
          go_wp2_with fail
          go_ret
          exact ⟨rfl, (HB.out.alloc HB.out.size _).trans (b7.mono (by simp; have := HB.out.size; omega))⟩
        · obtain ⟨q, hq⟩ : ∃ q, q = G.length := ⟨_, rfl⟩
          obtain ⟨ua, uc, hu⟩ := EE.out.slice
          rw [← hq] at hu hGk
          subst hu
          have HQ := Lib.hid hq
          clear hq
          obtain ⟨kk, hkk, hkq⟩ : ∃ kk : Nat, (bits .and .i64 sat 65535).tmod ((q : Int) + 1) = (kk : Int) ∧ kk ≤ q := by
            rw [i64_and16]
            refine ⟨((sat % 65536).tmod ((q : Int) + 1)).toNat, ?_, ?_⟩ <;> rw [Int.tmod_eq_emod_of_nonneg (by omega)]
            · have := Int.emod_nonneg (sat % 65536) (show ((q : Int) + 1) ≠ 0 by omega); omega
            · have := Int.emod_lt_of_pos (sat % 65536) (show (0 : Int) < (q : Int) + 1 by omega); omega
          have hbox : ∀ j v, #[Value.int .i64 sput, .int .i64 sat, .int .i64 sup, .int .i64 si, .slice la m lc, .int .u32 sv][j]? = some v →
              (wr.alloc (.cells #[Value.int .i64 sput, .int .i64 sat, .int .i64 sup, .int .i64 si, .slice la m lc, .int .u32 sv] 50)).cell? ⟨wr.heap.size, j, none⟩ = some v := by
            intro j v hv
            exact (World.cell?_alloc_new _ _ _ j).trans hv
          by_cases hput : 0 < sput
          · as_aux_lemma =>
            go_upto_block 2 with fail
            obtain ⟨wx, hwx⟩ : ∃ wx, wx = wr.alloc (.cells #[Value.int .i64 sput, .int .i64 sat, .int .i64 sup, .int .i64 si, .slice la m lc, .int .u32 sv] 50) := ⟨_, rfl⟩
            rw [← hwx] at hbox ⊢
            have hbx : Below wr.heap.size wr wx := by rw [hwx]; exact (Below.refl _ _).alloc (Nat.le_refl _) _
            have hsz : wr.heap.size < wx.heap.size := by rw [hwx]; simp
            have EX := Lib.hid (EE.out.below hbx)
            have RX := Lib.hid (RR.out.below hbx)
            have BX : Hid (Below W.heap.size W wx) := Lib.hid (HB.out.trans (hbx.mono HB.out.size))
            have y2 := hbox 2 _ rfl
            have y3 := hbox 3 _ rfl
            obtain ⟨bx, hbxe⟩ : ∃ bx, bx = wr.heap.size := ⟨_, rfl⟩
            rw [← hbxe] at y2 y3 hsz ⊢
            have hbW : W.heap.size ≤ bx := by rw [hbxe]; exact HB.out.size
            have hbH : ¬ hb.has bx := by rw [hbxe]; exact fun hc => Nat.lt_irrefl _ (RR.out.lt _ hc)
            have hfar : ∀ (i : Nat) (v : Value) (g : Nat), vs[i]? = some v → v.ownBlock = some g → g ≠ bx := by
              intro i v g h1 h2 h3
              have hi : i < G.length := by rw [← EE.out.len]; exact (List.getElem?_eq_some_iff.1 h1).1
              have := ((EE.out.own i _ v (List.getElem?_eq_getElem hi) h1).lt g h2).2
              omega
            have HFAR := Lib.hid hfar
            clear hbox hbx EE RR HB hbxe hwx hfar
            clear x1 x2 x3 x4 x5 x6
            go_cut [10] from 45 to 210 (fun s10 wc => wx = wc ∧ ∃ T : Int, s10 = .int .i64 T ∧ (kk < q → T = anc G (min sup.toNat 1000) kk))
            case first =>
              go_wp2_with fail
              go_loop [10, 11] (fun tv nn => ∃ j : Nat, j ≤ 1000 ∧ nn = .int .i64 j ∧ ((j : Int) ≤ sup ∨ j = 0) ∧ tv = .int .i64 (anc G j kk)) (fun _ nn => 1000 - (intOf nn).toNat)
              case atStart => exact ⟨0, by omega, rfl, .inr rfl, rfl⟩
              case round =>
                obtain ⟨j, hj, rfl, hjs, rfl⟩ := hrel
                obtain ⟨t, ht⟩ : ∃ t, t = anc G j kk := ⟨_, rfl⟩
                rw [← ht]
                have HT := Lib.hid ht
                clear ht
                by_cases d1 : (j : Int) < sup
                · by_cases d2 : j < 1000
                  · by_cases d3 : t < q
                    · by_cases d4 : 0 ≤ t
                      · obtain ⟨tn, rfl⟩ := Int.eq_ofNat_of_zero_le d4
                        obtain ⟨g, cp, e, hg, hcs⟩ := EX.out.form (by rw [← HQ.out]; omega)
                        rw [← HQ.out] at e
                        obtain ⟨rfl, rfl⟩ : ua = some ⟨g, 0, none⟩ ∧ uc = cp := by
                          simp only [Value.slice.injEq] at e
                          exact ⟨e.1, e.2.2⟩
                        obtain ⟨sc, hsc⟩ : ∃ sc, G[tn]? = some sc := ⟨_, List.getElem?_eq_getElem (by rw [← HQ.out]; omega)⟩
                        obtain ⟨sa, scp, z0, z1, z2, z3⟩ := hcs tn sc hsc
                        have HSC := Lib.hid hsc
                        clear e hcs hsc z3
                        go_wp2_with fail
                        go_round
                        case rel =>
                          refine ⟨j + 1, by omega, by go_num, .inl (by omega), ?_⟩
                          rw [anc_add j 1, ← HT.out, anc_succ (k := (tn : Int)) (by omega) (by rw [Int.toNat_natCast]; exact HSC.out)]
                          rfl
                        case measure => simp [intOf]; omega
                      · go_wp2_with fail
                        go_meet
                        case rel =>
                          refine ⟨rfl, _, rfl, fun _ => ?_⟩
                          have h1 := HT.out
                          have h2 : anc G (j + (min sup.toNat 1000 - j)) kk = t := by rw [anc_add, ← h1, anc_neg (by omega)]
                          rw [← h2]
                          congr 1
                          omega
                    · go_wp2_with fail
                      go_meet
                      case rel =>
                        refine ⟨rfl, _, rfl, fun hc => ?_⟩
                        have := anc_lt SS.out j kk (by rw [← HQ.out]; omega)
                        have := HQ.out
                        have := HT.out
                        omega
                  · go_wp2_with fail
                    go_meet
                    case rel =>
                      refine ⟨rfl, _, rfl, fun _ => ?_⟩
                      rw [HT.out]
                      congr 1
                      omega
                · go_wp2_with fail
                  go_meet
                  case rel =>
                    refine ⟨rfl, _, rfl, fun _ => ?_⟩
                    rw [HT.out]
                    congr 1
                    omega
            case rest =>
              obtain ⟨rfl, T, rfl, hT⟩ := hcut
              have HT := Lib.hid hT
              clear hT
              obtain ⟨vn, rfl⟩ := Int.eq_ofNat_of_zero_le pa
              have PB := Lib.hid pb
              clear pa pb
              by_cases hkq2 : kk = q
              · subst hkq2
                go_wp2_with fail
                go_roundw
                case rel => exact ⟨k + 1, G, vs, M, by omega, by go_num, by rw [← HQ.out]; omega, EX.out, RX.out, SS.out, by have := HMS.out; omega, HL.out, BX.out⟩
                case measure => simp [intOf]; omega
              · have hklt : kk < q := by omega
                have hbool : ((kk : Int) == (q : Int)) = false := by rw [beq_eq_false_iff_ne]; omega
                clear p1 p2 p3 p4 p5 p6 p7 p8
                have hT := HT.out hklt
                have hTq : T < q := by rw [hT, HQ.out]; exact anc_lt SS.out _ _ (by rw [← HQ.out]; omega)
                have hT1 : -1 ≤ T := by rw [hT]; exact anc_ge SS.out _ _ (by rw [← HQ.out]; omega) (by omega)
                obtain ⟨sk, hsk⟩ : ∃ sk, G[kk]? = some sk := ⟨_, List.getElem?_eq_getElem (by rw [← HQ.out]; omega)⟩
                have HTT := Lib.hid hT
                have HSK := Lib.hid hsk
                obtain ⟨g, cp, e, hg, hcs⟩ := EX.out.form (by rw [← HQ.out]; omega)
                rw [← HQ.out] at e
                obtain ⟨rfl, rfl⟩ : ua = some ⟨g, 0, none⟩ ∧ uc = cp := by
                  simp only [Value.slice.injEq] at e
                  exact ⟨e.1, e.2.2⟩
                obtain ⟨ka, kcp, z0, z1, z2, z3⟩ := hcs kk sk hsk
                have hskl := Lib.hid (SS.out.lt hsk)
                clear e hcs hsk hT z1 z2 z3 HT
                by_cases hth : 0 ≤ sup ∧ sup < 1000 ∧ 0 ≤ T ∧ 0 ≤ si ∧ ∃ t, G[T.toNat]? = some t ∧ si < t.l.length
                · as_aux_lemma =>
                  obtain ⟨d1, d2, d3, d4, t, ht, d5⟩ := hth
                  obtain ⟨tn, rfl⟩ := Int.eq_ofNat_of_zero_le d3
                  obtain ⟨sn, rfl⟩ := Int.eq_ofNat_of_zero_le d4
                  rw [Int.toNat_natCast] at ht
                  obtain ⟨M', hp1, hp2, hp3, hp4⟩ := SS.out.put RX.out.ok kk sk HSK.out sup (sn : Int) (vn * 8) (by have := PB.out; omega) (by omega) (by omega) tn t (by rw [HTT.out]; congr 1; omega) ht (by omega) d5
                  rw [Int.toNat_natCast] at hp2
                  have HP := Lib.hid hp1
                  have HP2 := Lib.hid hp2
                  have HP3 := Lib.hid hp3
                  have HP4 := Lib.hid hp4
                  have HTn := Lib.hid ht
                  clear hp1 hp2 hp3 hp4 ht d3 d4 hT1
                  go_wp2_with fail
                  go_still_tail 11, (by kernel_rfl)
                  change wpList _ _ _ _ _ wx.drew
                  go_wp2_with fail
                  rw [show ((vn : Int) * 8) = ((vn * 8 : Nat) : Int) by omega]
                  refine (frput_any RX.out.drew sk.w (vn * 8) hskl.out (by have := PB.out; omega) sup (sn : Int) HP.out).mono ?_
                  rintro e w8 ⟨rfl, r8, m8⟩
                  have hE8 : Env hb W.heap.size w8 (.slice (some ⟨g, 0, none⟩) q uc) G vs := (EX.out.keep (w' := wx.drew) fun _ _ _ _ => rfl).moves m8
                  obtain ⟨g8, cp8, e8, hg8, hcs8⟩ := hE8.form (by rw [← HQ.out]; omega)
                  obtain ⟨rfl, rfl⟩ : g = g8 ∧ uc = cp8 := by
                    simp only [Value.slice.injEq, Option.some.injEq, Addr.mk.injEq] at e8
                    exact ⟨e8.1.1, e8.2.2⟩
                  obtain ⟨ta, tcp, v0, v1, v2, v3⟩ := hcs8 tn t HTn.out
                  obtain ⟨g2, rfl, k2, k3, k4, ⟨kx, k5⟩, k6, k7⟩ := hE8.put tn sn (vn * 8) t ta tcp HTn.out v3 (by omega)
                  have y2' := (m8.cell (p := ⟨bx, 2, none⟩) hsz hbH).trans y2
                  have y3' := (m8.cell (p := ⟨bx, 3, none⟩) hsz hbH).trans y3
                  have E9 := Lib.hid k7
                  have R9 : Hid (Rep hb M' (w8.setCell ⟨g2, sn, none⟩ (.int .u64 (vn * 8 : Nat)))) := Lib.hid (r8.other k3 _)
                  have B9 : Hid (Below W.heap.size W (w8.setCell ⟨g2, sn, none⟩ (.int .u64 (vn * 8 : Nat)))) := Lib.hid ((m8.below_of (W := W) (w := wx.drew) (BX.out.trans ⟨rfl, rfl, rfl, Nat.le_refl _, fun _ _ => rfl⟩) HH.out).setCell k4 _)
                  have O9 := Lib.hid r8.ok
                  have hmx : max (tn : Int) 0 = tn := by omega
                  have hdl : decide (sn < t.l.length) = true := by rw [decide_eq_true_eq]; omega
                  generalize ht5 : t.l.length = tl at *
                  have HT5 := Lib.hid ht5
                  clear hE8 e8 hcs8 v0 v1 v3 k3 k4 k7 y2 y3 r8 m8 z0 ht5 hg8
                  go_wp2_with fail
                  go_quiet (fail)
                  go_wp2_with fail
                  have E10 : Hid (Env hb W.heap.size ((w8.drewN nq).setCell ⟨g2, sn, none⟩ (.int .u64 (vn * 8 : Nat))) (.slice (some ⟨g, 0, none⟩) q uc) (Scs.setL G tn sn (vn * 8)) vs) := Lib.hid (E9.out.keep fun _ _ _ _ => rfl)
                  have R10 : Hid (Rep hb M' ((w8.drewN nq).setCell ⟨g2, sn, none⟩ (.int .u64 (vn * 8 : Nat)))) := Lib.hid (R9.out.drewN nq)
                  have B10 : Hid (Below W.heap.size W ((w8.drewN nq).setCell ⟨g2, sn, none⟩ (.int .u64 (vn * 8 : Nat)))) := Lib.hid (bdn (n := nq) B9.out)
                  have v2d : (w8.drewN nq).cell? ⟨g, tn * 3 + 2, none⟩ = some (.slice (some ⟨g2, 0, none⟩) tl tcp) := v2
                  have y3d : (w8.drewN nq).cell? ⟨bx, 3, none⟩ = some (.int .i64 sn) := y3'
                  have k5d : (w8.drewN nq).cell? ⟨g2, sn, none⟩ = some (.int .u64 kx) := k5
                  have k6d : (w8.drewN nq).frozen? ⟨g2, sn, none⟩ = false := k6
                  clear v2 y3' y2' k5 k6 k2 E9 R9 B9 PB hdl
                  generalize w8.drewN nq = wd at *
                  go_still_tail 9, (by kernel_rfl)
                  change wpList _ _ _ _ _ wd.drew
                  go_wp2_with fail
                  go_roundw
                  case rel => exact ⟨k + 1, _, vs, M', by omega, by go_num, by unfold Scs.setL; rw [List.length_modify, ← HQ.out]; omega, E10.out.keep fun _ _ _ _ => rfl, R10.out.drewN 1, HP2.out O9.out, by rw [HP3.out]; have := HMS.out; omega, by rw [HP4.out]; exact HL.out, bdn (n := 1) B10.out⟩
                  case measure => simp [intOf]; omega
                · as_aux_lemma =>
                  have hc : sup < 0 ∨ (0 ≤ sup ∧ 1000 ≤ sup) ∨ (0 ≤ sup ∧ sup < 1000 ∧ T < 0) ∨ (0 ≤ sup ∧ sup < 1000 ∧ 0 ≤ T ∧ si < 0) ∨ (0 ≤ sup ∧ sup < 1000 ∧ 0 ≤ T ∧ 0 ≤ si ∧ ∃ t, G[T.toNat]? = some t ∧ (t.l.length : Int) ≤ si) := by
                    by_cases f1 : sup < 0
                    · exact .inl f1
                    by_cases f2 : 1000 ≤ sup
                    · exact .inr (.inl ⟨by omega, f2⟩)
                    by_cases f3 : T < 0
                    · exact .inr (.inr (.inl ⟨by omega, by omega, f3⟩))
                    by_cases f4 : si < 0
                    · exact .inr (.inr (.inr (.inl ⟨by omega, by omega, by omega, f4⟩)))
                    refine .inr (.inr (.inr (.inr ⟨by omega, by omega, by omega, by omega, ?_⟩)))
                    obtain ⟨t, ht⟩ : ∃ t, G[T.toNat]? = some t := ⟨_, List.getElem?_eq_getElem (by have := HQ.out; omega)⟩
                    refine ⟨t, ht, ?_⟩
                    by_cases f5 : si < t.l.length
                    · exact absurd ⟨by omega, by omega, by omega, by omega, t, ht, f5⟩ hth
                    · omega
                  have hput9 : ∃ en, en ≠ 0 ∧ M.frPut sk.w sup si (vn * 8) = (en, M) := by
                    apply SS.out.put_no RX.out.ok kk sk HSK.out
                    rcases hc with f | ⟨f1, f2⟩ | ⟨f1, f2, f3⟩ | ⟨f1, f2, f3, f4⟩ | ⟨f1, f2, f3, f4, t, f5, f6⟩
                    · exact .inl f
                    · right; right; left
                      have := anc_deep SS.out sup.toNat kk (by have := HQ.out; omega) (by omega) (by have := HQ.out; omega)
                      omega
                    · right; right; left
                      have := HTT.out
                      rw [show min sup.toNat 1000 = sup.toNat by omega] at this
                      omega
                    · exact .inr (.inr (.inr (.inl f4)))
                    · right; right; right; right
                      intro t' ht'
                      have := HTT.out
                      rw [show min sup.toNat 1000 = sup.toNat by omega] at this
                      rw [← this, f5] at ht'
                      cases ht'
                      exact f6
                  obtain ⟨en, hen, hpe⟩ := hput9
                  have HP := Lib.hid hpe
                  have HC := Lib.hid hc
                  clear hpe hc hth
                  go_wp2_with fail
                  go_still_tail 11, (by kernel_rfl)
                  change wpList _ _ _ _ _ wx.drew
                  go_wp2_with fail
                  rw [show ((vn : Int) * 8) = ((vn * 8 : Nat) : Int) by omega]
                  refine (frput_any RX.out.drew sk.w (vn * 8) hskl.out (by have := PB.out; omega) sup si HP.out).mono ?_
                  rintro e w8 ⟨rfl, r8, m8⟩
                  have hE8 : Env hb W.heap.size w8 (.slice (some ⟨g, 0, none⟩) q uc) G vs := (EX.out.keep (w' := wx.drew) fun _ _ _ _ => rfl).moves m8
                  have y2' := (m8.cell (p := ⟨bx, 2, none⟩) hsz hbH).trans y2
                  have y3' := (m8.cell (p := ⟨bx, 3, none⟩) hsz hbH).trans y3
                  have E8 := Lib.hid hE8
                  have R8 := Lib.hid r8
                  have B8 : Hid (Below W.heap.size W w8) := Lib.hid (m8.below_of (W := W) (w := wx.drew) (BX.out.trans ⟨rfl, rfl, rfl, Nat.le_refl _, fun _ _ => rfl⟩) HH.out)
                  clear hE8 r8 m8 y2 y3 z0 hg
                  go_upto_region 21 with fail
                  go_cut [13] from 45 to 210 (fun s13 wc => s13 = .bool false ∧ ∃ nn, wc = w8.drewN nn)
                  case first =>
                    rcases HC.out with f | ⟨f1, f2⟩ | ⟨f1, f2, f3⟩ | ⟨f1, f2, f3, f4⟩ | ⟨f1, f2, f3, f4, t, f5, f6⟩
                    · have e1 : decide (0 ≤ sup) = false := by rw [decide_eq_false_iff_not]; omega
                      go_quiet (fail)
                      go_wp2_with fail
                      go_meet
                      case rel => exact ⟨rfl, _, rfl⟩
                    · have e1 : decide (sup < 1000) = false := by rw [decide_eq_false_iff_not]; omega
                      go_quiet (fail)
                      go_wp2_with fail
                      go_meet
                      case rel => exact ⟨rfl, _, rfl⟩
                    · have e1 : decide (0 ≤ T) = false := by rw [decide_eq_false_iff_not]; omega
                      go_quiet (fail)
                      go_wp2_with fail
                      go_meet
                      case rel => exact ⟨rfl, _, rfl⟩
                    · have e1 : decide (0 ≤ si) = false := by rw [decide_eq_false_iff_not]; omega
                      go_quiet (fail)
                      go_wp2_with fail
                      go_meet
                      case rel => exact ⟨rfl, _, rfl⟩
                    · obtain ⟨tn, rfl⟩ := Int.eq_ofNat_of_zero_le f3
                      obtain ⟨sn, rfl⟩ := Int.eq_ofNat_of_zero_le f4
                      rw [Int.toNat_natCast] at f5
                      obtain ⟨g8, cp8, e8, hg8, hcs8⟩ := E8.out.form (by rw [← HQ.out]; omega)
                      obtain ⟨rfl, rfl⟩ : g = g8 ∧ uc = cp8 := by
                        simp only [Value.slice.injEq, Option.some.injEq, Addr.mk.injEq] at e8
                        exact ⟨e8.1.1, e8.2.2⟩
                      obtain ⟨ta, tcp, v0, v1, v2, v3⟩ := hcs8 tn t f5
                      have hmx : max (tn : Int) 0 = tn := by omega
                      have hdl : decide (sn < t.l.length) = false := by rw [decide_eq_false_iff_not]; omega
                      clear e8 hcs8 v0 v1 v3 f5
                      go_quiet (fail)
                      go_wp2_with fail
                      go_meet
                      case rel => exact ⟨rfl, _, rfl⟩
                  case rest =>
                    obtain ⟨rfl, nn, rfl⟩ := hcut
                    have hb0 : ((en : Int) == 0) = false := by rw [beq_eq_false_iff_ne]; omega
                    go_wp2_with fail
                    go_roundw
                    case rel => exact ⟨k + 1, G, vs, M, by omega, by go_num, by rw [← HQ.out]; omega, E8.out.keep fun _ _ _ _ => rfl, R8.out.drewN nn, SS.out, by have := HMS.out; omega, HL.out, bdn (n := nn) B8.out⟩
                    case measure => simp [intOf]; omega
          · as_aux_lemma =>
            go_upto_if 164 with fail
            obtain ⟨wx, hwx⟩ : ∃ wx, wx = wr.alloc (.cells #[Value.int .i64 sput, .int .i64 sat, .int .i64 sup, .int .i64 si, .slice la m lc, .int .u32 sv] 50) := ⟨_, rfl⟩
            rw [← hwx] at hbox ⊢
            have hbx : Below wr.heap.size wr wx := by rw [hwx]; exact (Below.refl _ _).alloc (Nat.le_refl _) _
            have hsz : wx.heap.size = wr.heap.size + 1 := by rw [hwx]; simp
            have EX := Lib.hid (EE.out.below hbx)
            have RX := Lib.hid (RR.out.below hbx)
            have XX := Lib.hid (XL.out.below hbx)
            have BX : Hid (Below W.heap.size W wx) := Lib.hid (HB.out.trans (hbx.mono HB.out.size))
            have y4 := hbox 4 _ rfl
            obtain ⟨bx, hbxe⟩ : ∃ bx, bx = wr.heap.size := ⟨_, rfl⟩
            rw [← hbxe] at y4 hsz ⊢
            have hbW : W.heap.size ≤ bx := by rw [hbxe]; exact HB.out.size
            have hbl : bx < wx.heap.size := by omega
            have HSZ := Lib.hid hsz
            have HLE : Hid (bx + 1 ≤ wx.heap.size) := Lib.hid (by omega)
            clear hbox hbx EE RR HB hbxe hwx XL x1 x2 x3 x4 x5 x6
            have hpar : -1 ≤ (if kk = q then -1 else (kk : Int)) ∧ (if kk = q then -1 else (kk : Int)) < q := by split <;> omega
            obtain ⟨p, hp⟩ : ∃ p : Int, p = if kk = q then -1 else (kk : Int) := ⟨_, rfl⟩
            rw [← hp] at hpar
            obtain ⟨q1, q2⟩ := hpar
            have hbs : (wx.alloc (.cells #[.int .u64 0, .int .i64 kk, .slice none 0 0] 52)).heap[bx + 1]? = some (.cells #[.int .u64 0, .int .i64 kk, .slice none 0 0] 52 (0, 0)) := by rw [← hsz]; exact heap_alloc_new _ _
            have HBS := Lib.hid hbs
            clear hbs
            go_cut [15] from 45 to 210 (fun s15 wc => s15 = .int .u64 (parW G p : Nat) ∧ Below (bx + 1) wx wc ∧ bx + 1 < wc.heap.size ∧ wc.heap[bx + 1]? = some (.cells #[.int .u64 0, .int .i64 p, .slice none 0 0] 52 (0, 0)))
            case first =>
              by_cases hkq2 : kk = q
              · rw [if_pos hkq2] at hp
                subst hkq2
                have HP := Lib.hid hp
                clear hp
                go_wp2_with fail
                go_meet
                case rel =>
                  have := HP.out
                  subst this
                  exact ⟨by unfold parW; rw [if_pos (by omega)]; rfl, (Below.refl (bx + 1) wx).alloc HLE.out _, by simp; have := HSZ.out; omega, by rw [← HSZ.out]; exact heap_alloc_new _ _⟩
              · rw [if_neg hkq2] at hp
                have HP := Lib.hid hp
                obtain ⟨g, cp, e, hg, hcs⟩ := EX.out.form (by rw [← HQ.out]; omega)
                rw [← HQ.out] at e
                obtain ⟨rfl, rfl⟩ : ua = some ⟨g, 0, none⟩ ∧ uc = cp := by
                  simp only [Value.slice.injEq] at e
                  exact ⟨e.1, e.2.2⟩
                obtain ⟨sk, hsk⟩ : ∃ sk, G[kk]? = some sk := ⟨_, List.getElem?_eq_getElem (by rw [← HQ.out]; omega)⟩
                obtain ⟨ka, kcp, z0, z1, z2, z3⟩ := hcs kk sk hsk
                have HSK := Lib.hid hsk
                have z0' : (wx.alloc (.cells #[.int .u64 0, .int .i64 kk, .slice none 0 0] 52)).cell? ⟨g, kk * 3, none⟩ = some (.int .u64 (sk.w : Nat)) := by
                  rw [World.cell?_of_block (w := wx) (heap_alloc_old _ _ hg)]; exact z0
                clear e hcs hsk z0 z1 z2 z3 hp
                go_wp2_with fail
                go_meet
                case rel =>
                  have := HP.out
                  subst this
                  refine ⟨?_, (Below.refl (bx + 1) wx).alloc HLE.out _, by simp; have := HSZ.out; omega, HBS.out⟩
                  unfold parW
                  rw [if_neg (by omega), Int.toNat_natCast, HSK.out]
                  rfl
            case rest =>
              obtain ⟨rfl, bc, hcz, hcs⟩ := hcut
              clear HBS hsz
              have hsx : wx.heap.size ≤ bx + 1 := by have := HSZ.out; omega
              have BC := Lib.hid bc
              have HPP := Lib.hid hp
              have HCS := Lib.hid hcs
              clear bc hp hcs
              go_wp2_with fail
              have hx0 : ∀ n ∈ sl, 0 ≤ n ∧ n < 4294967296 := PL.out
              go_loopw [16] (fun nn wl => ∃ (j : Nat) (rv : Value), j ≤ m ∧ nn = .int .i64 j ∧ wl.heap[bx + 1]? = some (.cells #[.int .u64 0, .int .i64 p, rv] 52 (0, 0)) ∧ OwnW wl rv (fld8 (sl.take j)) ∧ (∀ g, rv.ownBlock = some g → bx + 1 < g) ∧ Below (bx + 1) wx wl ∧ bx + 1 < wl.heap.size) (fun nn _ => m - (intOf nn).toNat)
              case atStart => exact ⟨0, .slice none 0 0, Nat.zero_le _, rfl, HCS.out, OwnW.nil _, by intro g hg; simp [Value.ownBlock] at hg, BC.out, hcz⟩
              case round =>
                obtain ⟨j, rv, hj, rfl, hbk, hO, hg, hBl, hsl⟩ := hrel
                have y4' := (hBl.cell (p := ⟨bx, 4, none⟩) (by simp)).trans y4
                by_cases hjm : j < m
                · have X2 := XX.out.below (hBl.mono hsx)
                  obtain ⟨b3, o3, p3, e3, s3, k3⟩ := X2.form (by rw [← HM.out]; omega)
                  obtain ⟨rfl, rfl⟩ : la = some ⟨b3, o3, none⟩ ∧ lc = p3 := by
                    simp only [Value.slice.injEq] at e3
                    exact ⟨e3.1, e3.2.2⟩
                  obtain ⟨x, hx⟩ : ∃ x, sl[j]? = some x := ⟨_, List.getElem?_eq_getElem (by rw [← HM.out]; omega)⟩
                  have c3 := k3 j x hx
                  have hxb := hx0 x (List.mem_of_getElem? hx)
                  have hlen : (fld8 (sl.take j)).length = j := by unfold fld8; rw [List.length_map, List.length_take]; have := HM.out; omega
                  have hO1 := hO
                  unfold OwnW at hO1
                  rw [hlen] at hO1
                  have hxw : ((x.toNat * 8 : Nat) : Int) = x * 8 := by omega
                  have O1 := Lib.hid hO1
                  have XJ := Lib.hid hx
                  have HXB := Lib.hid hxb
                  have HXW := Lib.hid hxw
                  have HLEN := Lib.hid hlen
                  have HBK := Lib.hid hbk
                  have HG := Lib.hid hg
                  have BL := Lib.hid hBl
                  have hb0 := hxb.1
                  have hb1 := hxb.2
                  have r2 : wr.cell? ⟨bx + 1, 2, none⟩ = some rv := by simp [World.cell?, hbk]
                  clear hO hO1 hx hxb hxw hlen hbk hg hBl e3 s3 k3 X2 hx0
                  go_wp2_with fail
                  obtain ⟨iE, zE, eE1, eE2, eE3, eE4, eE5⟩ := E_word.ex
                  have f2 : wr.frozen? ⟨bx + 1, 2, none⟩ = false := by simp [World.frozen?, HBK.out]
                  have hgu : rv.ownBlock ≠ some (bx + 1) := fun e => Nat.lt_irrefl _ (HG.out _ e)
                  have key : ∀ w1 : World, ((wr.alloc (.cells #[.int .u64 (x * 8)] 29)).drew).grownBy w1 rv.ownBlock → w1.cell? ⟨bx + 1, 2, none⟩ = some rv ∧ w1.frozen? ⟨bx + 1, 2, none⟩ = false := by
                    intro w1 hgrow
                    have h1 : w1.heap[bx + 1]? = wr.heap[bx + 1]? := by
                      rw [hgrow.block (bx + 1) (by simp; omega) (Ne.symm hgu)]
                      exact heap_alloc_old _ _ hsl
                    exact ⟨(World.cell?_of_block (w := wr) (a := ⟨bx + 1, 2, none⟩) h1).trans r2, (World.frozen?_of_block (w := wr) (a := ⟨bx + 1, 2, none⟩) h1).trans f2⟩
                  have KEY := Lib.hid key
                  clear key
                  have hw1 : IntKind.u64.wrap x = x := by rw [IntKind.wrap_u64]; omega
                  have hw2 : IntKind.u64.wrap (x * 8) = x * 8 := by rw [IntKind.wrap_u64]; omega
                  go_region_law (refine step_append_lies _ rfl _ _ _ rfl 0 29 iE zE 1 8 E_word.ht eE1 eE2 eE3 eE4 eE5 (by decide) rv j ((fld8 (sl.take j)).map wv) rfl ((O1.out.alloc _).drew) ⟨wr.heap.size, 0, none⟩ 1 1 [.int .u64 (x * 8)] rfl rfl (World.news_of_block (cs := #[.int .u64 (x * 8)]) (t := 29) (fr := (0, 0)) (heap_alloc_new wr _)) (by simp [Value.oneCell']) (by omega) (by unfold maxLen; omega) (by omega) (Nat.zero_le _) _ rfl ?_; intro gg cap9 w6 hown1 hgrow hat hlt6; obtain ⟨hc6, hf6⟩ := KEY.out w6 hgrow)
                  all_goals
                    go_wp2_with fail
                    go_roundw
                    case rel =>
                      have hb6 : ∀ q, q ≠ bx + 1 → (w6.setCell ⟨bx + 1, 2, none⟩ (.slice (some ⟨gg, 0, none⟩) (j + 1) cap9)).heap[q]? = w6.heap[q]? := fun q hq => Below.heap_setCell _ _ _ _ hq
                      have h1 : w6.heap[bx + 1]? = wr.heap[bx + 1]? := by
                        rw [hgrow.block (bx + 1) (by simp; omega) (Ne.symm hgu)]
                        exact heap_alloc_old _ _ hsl
                      have hgg : bx + 1 < gg := by
                        rcases hat with h | h
                        · exact HG.out _ h
                        · rw [h]; simp; omega
                      refine ⟨j + 1, .slice (some ⟨gg, 0, none⟩) (j + 1) cap9, by omega, by go_num, ?_, ?_, ?_, ?_, ?_⟩
                      · simp only [World.setCell, Array.getElem?_modify, h1, HBK.out]
                        simp
                      · unfold OwnW
                        rw [fld8_snoc XJ.out, List.map_append, List.length_append, HLEN.out]
                        show World.ownsRow _ 0 29 1 _ (j + 1) (_ ++ [wv (x.toNat * 8)])
                        rw [wv_mul hb0]
                        exact ownsRow_block hown1 fun q hq => hb6 q (by intro e; cases hq; exact absurd e (Nat.ne_of_gt hgg))
                      · intro q hq; cases hq; exact hgg
                      · refine Below.setCell (B := bx + 1) (p := ⟨bx + 1, 2, none⟩) ?_ (Nat.le_refl _) _
                        have h7 : Below (bx + 1) wx ((wr.alloc (.cells #[.int .u64 (x * 8)] 29)).drew) := bdn (n := 1) (BL.out.alloc (by omega) _)
                        exact ⟨hgrow.os.trans h7.os, hgrow.tape.trans h7.tape, hgrow.output.trans h7.output, Nat.le_trans h7.size hgrow.size, fun q hq => (hgrow.block q (by have := h7.size; have := HLE.out; omega) (fun e => by have := HG.out q e.symm; omega)).trans (h7.block q hq)⟩
                      · simp [World.setCell]; have := hgrow.size; simp at this; omega
                    case measure => simp [intOf]; omega
                · obtain rfl : j = m := by omega
                  have hO1 := hO
                  rw [HM.out, List.take_length] at hO1
                  have hlen : (fld8 sl).length = j := by unfold fld8; rw [List.length_map, HM.out]
                  obtain ⟨ra, rc, rfl⟩ := hO1.slice
                  rw [hlen] at hO1 hg hbk
                  have O1 := Lib.hid hO1
                  have HG := Lib.hid hg
                  have HBK := Lib.hid hbk
                  have BL := Lib.hid hBl
                  have HLEN := Lib.hid hlen
                  have r2 : wr.cell? ⟨bx + 1, 2, none⟩ = some (.slice ra j rc) := by simp [World.cell?, hbk]
                  have hpw : parW G p < 18446744073709551616 := by
                    unfold parW
                    split
                    · omega
                    · cases hz : G[p.toNat]? with
                      | none => simp
                      | some t => exact SS.out.lt hz
                  have hfb : ∀ y ∈ fld8 sl, y < 18446744073709551616 := by
                    intro y hy
                    unfold fld8 at hy
                    obtain ⟨z, hz, rfl⟩ := List.mem_map.1 hy
                    have := PL.out z hz
                    omega
                  obtain ⟨x9, M', hx1, hx2, hx3, hx4, hx5⟩ := SS.out.extend RX.out.ok p q1 (by rw [← HQ.out]; exact q2) (fld8 sl) (by rw [HLEN.out]; omega) hfb (by have := HMS.out; have := HL.out; omega)
                  have R9 := RX.out.below (BL.out.mono hsx)
                  have hC := extend_any R9 (parW G p) hpw _ (fld8 sl) O1.out.sl (by rw [HLEN.out]; omega) hfb hx1
                  have hbh : ¬ hb.has (bx + 1) := fun hc => by have := RX.out.lt _ hc; have := HSZ.out; omega
                  have B9 : Hid (Below W.heap.size W wr) := Lib.hid (BX.out.trans (BL.out.mono (by omega)))
                  have E9 := Lib.hid (EX.out.below (BL.out.mono hsx))
                  have H2 := Lib.hid hx2
                  have H5 := Lib.hid hx5
                  have HPW := Lib.hid hpw
                  have R9h := Lib.hid R9
                  clear hO hO1 hg hbk hBl hlen hx0 hpw hfb hx1 hx2 hx5 R9
                  go_wp2_with fail
                  refine hC.mono ?_
                  rintro e w8 ⟨rfl, r8, m8⟩
                  have hbk8 : w8.heap[bx + 1]? = some (.cells #[.int .u64 0, .int .i64 p, .slice ra j rc] 52 (0, 0)) := (m8.block _ hsl hbh).trans HBK.out
                  have r0 : w8.cell? ⟨bx + 1, 0, none⟩ = some (.int .u64 0) := by simp [World.cell?, hbk8]
                  have r1 : w8.cell? ⟨bx + 1, 1, none⟩ = some (.int .i64 p) := by simp [World.cell?, hbk8]
                  have r2' : w8.cell? ⟨bx + 1, 2, none⟩ = some (.slice ra j rc) := by simp [World.cell?, hbk8]
                  have f0 : ∀ i, w8.frozen? ⟨bx + 1, i, none⟩ = false := by intro i; simp [World.frozen?, hbk8]
                  have f0' := f0 0
                  have f2' := f0 2
                  have M8 := Lib.hid m8
                  have R8 := Lib.hid r8
                  have HBK8 := Lib.hid hbk8
                  have hs8 : bx + 1 < w8.heap.size := Nat.lt_of_lt_of_le hsl m8.size
                  obtain ⟨w9, hw9⟩ : ∃ w9, w9 = w8.setCell ⟨bx + 1, 0, none⟩ (.int .u64 (x9 : Nat)) := ⟨_, rfl⟩
                  have hs9 : bx + 1 < w9.heap.size := by rw [hw9]; simpa [World.setCell] using hs8
                  have hb9 : w9.heap[bx + 1]? = some (.cells #[.int .u64 (x9 : Nat), .int .i64 p, .slice ra j rc] 52 (0, 0)) := by
                    rw [hw9]; simp only [World.setCell, Array.getElem?_modify, hbk8]; simp
                  have hba : (w9.alloc (.cells #[] 29)).heap[bx + 1]? = some (.cells #[.int .u64 (x9 : Nat), .int .i64 p, .slice ra j rc] 52 (0, 0)) := (heap_alloc_old _ _ hs9).trans hb9
                  have ra2 : (w9.alloc (.cells #[] 29)).cell? ⟨bx + 1, 2, none⟩ = some (.slice ra j rc) := by simp [World.cell?, hba]
                  rw [hw9] at ra2
                  have hM9 : Moves hb wr w8 := m8
                  have hz9 : w9.heap.size = w8.heap.size := by rw [hw9]; simp [World.setCell]
                  have hom := World.ownsRow_made (base := 0) (e := 29) (size := 1) w9 #[] 0 (Nat.zero_le _) (by unfold maxLen; omega) rfl
                  rw [hz9] at hom
                  have hrvk : ∀ q, (Value.slice ra j rc).ownBlock = some q → (w9.alloc (.cells #[] 29)).heap[q]? = wr.heap[q]? := by
                    intro q hq
                    have q1 := HG.out q hq
                    have q2 := (O1.out.lt q hq).2
                    have q3 : ¬ hb.has q := fun hc => by have := RX.out.lt _ hc; have := HSZ.out; omega
                    have q4 := Nat.lt_of_lt_of_le q2 m8.size
                    refine (heap_alloc_old _ _ (by rw [hz9]; exact q4)).trans ?_
                    rw [hw9]
                    exact (Below.heap_setCell _ _ _ _ (by simp; omega)).trans (m8.block q q2 q3)
                  have hos := (OwnW.sl (ownsRow_block O1.out hrvk)).cells
                  rw [HLEN.out] at hos
                  rw [hw9] at hom hos
                  have OM := Lib.hid hom
                  have OS := Lib.hid hos
                  rw [hw9] at hba
                  have HB9 := Lib.hid hba
                  have HS8 := Lib.hid hs8
                  have HBW : Hid (W.heap.size ≤ wx.heap.size) := Lib.hid BX.out.size
                  have B8 : Hid (Below W.heap.size W w8) := Lib.hid (m8.below_of B9.out HH.out)
                  clear hC r2 m8 r8 f0 hbk8 hw9 hs9 hb9 hM9 hs8 hom hos hrvk hz9 hba
                  go_wp2_with (first
                    | (at_builtin; refine wpList_app E_word rfl _ _ rfl (.slice (some ⟨w8.heap.size, 0, none⟩) 0 0) 0 [] rfl OM.out (.slice ra j rc) j ((fld8 sl).map wv) rfl OS.out (by simp [HLEN.out]) (by intro y hy; obtain ⟨z, _, rfl⟩ := List.mem_map.1 hy; rfl) (by unfold maxLen; omega) (by omega) ?_; intro v' w10 hown hgrow hat; simp only [Nat.zero_add, List.nil_append] at hown; obtain ⟨va, vc, rfl⟩ := own_slice hown; obtain ⟨c2, f2, c3⟩ := lex_cells (r := w8.heap.size) HB9.out hgrow (Nat.ne_of_lt HS8.out); obtain ⟨d0, d1, d2⟩ := c3 (.slice va j vc); have PK := Lib.hid (lex_tail (cs := #[.int .u64 (x9 : Nat), .int .i64 p, .slice va j vc]) (e3 := 52) (cs0 := []) EX.out hsx (fun k hk => RX.out.lt k hk) BL.out hsl M8.out R8.out B8.out HBW.out hgrow hown (by rcases hat with h | h; exact .inl h; exact .inr (by rw [h]; simp [World.setCell]))); clear c3 hown hgrow hat)
                    | (at_builtin; refine wpList_app E_scope rfl _ _ rfl (.slice ua q uc) q (scCells G vs) rfl (by have := PK.out.1.all; rw [← HQ.out] at this; exact this) (.slice (some ⟨w10.heap.size, 0, none⟩) 1 1) 1 [.int .u64 (x9 : Nat), .int .i64 p, .slice va j vc] rfl (one_row _ [.int .u64 (x9 : Nat), .int .i64 p, .slice va j vc] _ _ (by simp [World.setCell])) (by simp) (by simp [Value.oneCell']) (by unfold maxLen; omega) (by omega) ?_; intro u' w13 hown2 hgrow2 hat2))
                  go_roundw
                  case rel =>
                    obtain ⟨k1, k2, k3, k4, k5, k6⟩ := PK.out
                    have hqq := HQ.out
                    subst hqq
                    have hv : ∀ w', World.ownsRow w' 0 29 1 (.slice va j vc) j ((fld8 sl).map wv) → OwnW w' (.slice va j vc) (fld8 sl) := fun w' h => by
                      unfold OwnW
                      rw [HLEN.out]
                      exact h
                    obtain ⟨t1, t2, t3⟩ := lex_end (s := ⟨x9, p, fld8 sl⟩) k1 k2 (hv _ k3) k4 k5 k6 hown2 hgrow2 hat2
                    exact ⟨k + 1, G ++ [⟨x9, p, fld8 sl⟩], _, M', by omega, by go_num, by simp; omega, t1, t2, H2.out k2.ok, by have := HMS.out; omega, by rw [hx4]; exact HL.out, t3⟩
                  case measure => simp [intOf]; omega
      · as_aux_lemma =>
        obtain rfl : k = n := by omega
        obtain ⟨q, hq⟩ : ∃ q, q = G.length := ⟨_, rfl⟩
        obtain ⟨ua, uc, hu⟩ := hE.slice
        rw [← hq] at hu hGk
        subst hu
        have HQ := Lib.hid hq
        have EE := Lib.hid hE
        have RR := Lib.hid hR
        have SS := Lib.hid hS
        have HB := Lib.hid hB
        have hq100 : q ≤ 100 := by omega
        clear hq hE hR hS hM hL hB
        obtain ⟨w5, hw5⟩ : ∃ w5, w5 = wr := ⟨_, rfl⟩
        subst hw5
        go_wp2_with fail
        go_loopw [19] (fun iv wl => ∃ i : Nat, i ≤ q ∧ iv = .int .i64 i ∧ Below w5.heap.size w5 wl) (fun iv _ => q - (intOf iv).toNat)
        case atStart => exact ⟨0, Nat.zero_le _, rfl, Below.refl _ _⟩
        case round =>
          obtain ⟨i, hi, rfl, hB6⟩ := hrel
          by_cases hiq : i < q
          · obtain ⟨g, cp, e, hg, hcs⟩ := (EE.out.below hB6).form (by rw [← HQ.out]; omega)
            rw [← HQ.out] at e
            obtain ⟨rfl, rfl⟩ : ua = some ⟨g, 0, none⟩ ∧ uc = cp := by
              simp only [Value.slice.injEq] at e
              exact ⟨e.1, e.2.2⟩
            obtain ⟨si, hsi⟩ : ∃ si, G[i]? = some si := ⟨_, List.getElem?_eq_getElem (by rw [← HQ.out]; omega)⟩
            obtain ⟨ia, icp, z0, z1, z2, z3⟩ := hcs i si hsi
            obtain ⟨w6, hw6⟩ : ∃ w6, w6 = wr := ⟨_, rfl⟩
            subst hw6
            have B6 := Lib.hid hB6
            have CS := Lib.hid hcs
            have HSI := Lib.hid hsi
            have HSL := Lib.hid (SS.out.lt hsi)
            have E6 := Lib.hid (EE.out.below hB6)
            have Z0 := Lib.hid (fun (w' : World) (b9 : Below w6.heap.size w6 w') => (b9.cell (p := ⟨g, i * 3, none⟩) hg).trans z0)
            have Z2 := Lib.hid (fun (w' : World) (b9 : Below w6.heap.size w6 w') => (b9.cell (p := ⟨g, i * 3 + 2, none⟩) hg).trans z2)
            clear e hB6 hcs hsi z0 z1 z2 z3
            go_wp2_with fail
            go_loopw [20, 21] (fun uv kv wl => ∃ up : Nat, up ≤ i + 1 ∧ uv = .int .i64 up ∧ kv = .int .i64 (anc G up i) ∧ Below w6.heap.size w6 wl) (fun _ kv _ => (intOf kv + 1).toNat)
            case atStart => exact ⟨0, by omega, rfl, rfl, Below.refl _ _⟩
            case round =>
              obtain ⟨up, hup, rfl, rfl, hB7⟩ := hrel
              have B7 := Lib.hid hB7
              clear hB7
              obtain ⟨kx, hkx⟩ : ∃ kx, kx = anc G up i := ⟨_, rfl⟩
              rw [← hkx]
              have HK := Lib.hid hkx
              clear hkx
              have hal := anc_le SS.out up i (by rw [← HQ.out]; omega)
              by_cases hk0 : 0 ≤ kx
              · obtain ⟨kn, rfl⟩ := Int.eq_ofNat_of_zero_le hk0
                have hkn : kn + up ≤ i := by rw [← HK.out] at hal; omega
                obtain ⟨t, ht⟩ : ∃ t, G[kn]? = some t := ⟨_, List.getElem?_eq_getElem (by rw [← HQ.out]; omega)⟩
                obtain ⟨ta, tcp, v0, v1, v2, v3⟩ := CS.out kn t ht
                have V1 := Lib.hid (fun (w' : World) (b9 : Below w6.heap.size w6 w') => (b9.cell (p := ⟨g, kn * 3 + 1, none⟩) hg).trans v1)
                have V2 := Lib.hid (fun (w' : World) (b9 : Below w6.heap.size w6 w') => (b9.cell (p := ⟨g, kn * 3 + 2, none⟩) hg).trans v2)
                have HO := Lib.hid (E6.out.own kn t _ ht v3)
                have HTT := Lib.hid ht
                obtain ⟨m, hm⟩ : ∃ m, m = t.l.length := ⟨_, rfl⟩
                rw [← hm] at V2 HO
                have HMM := Lib.hid hm
                have hm50 : m ≤ 50 := by rw [hm]; exact (SS.out.small kn t ht).1
                have hknq : kn < q := by omega
                have hpar := (SS.out.par kn t ht)
                have p1 := hpar.1
                have p2 := hpar.2
                obtain ⟨w7, hw7⟩ : ∃ w7, w7 = wr := ⟨_, rfl⟩
                subst hw7
                clear v0 v1 v2 v3 ht hm hal hk0 hpar
                go_wp2_with fail
                go_loopw [22] (fun nv wl => ∃ n : Nat, n ≤ m ∧ nv = .int .i64 n ∧ Below w6.heap.size w6 wl) (fun nv _ => m - (intOf nv).toNat)
                case atStart => exact ⟨0, Nat.zero_le _, rfl, B7.out⟩
                case round =>
                  obtain ⟨n, hn, rfl, hB8⟩ := hrel
                  have v2 := V2.out _ hB8
                  have z0 := Z0.out _ hB8
                  have R8 := (RR.out.below B6.out).below hB8
                  have B8 := Lib.hid hB8
                  clear hB8
                  by_cases hnm : n < m
                  · obtain ⟨x, hx⟩ : ∃ x, t.l[n]? = some x := ⟨_, List.getElem?_eq_getElem (by rw [← HMM.out]; omega)⟩
                    have hgt := SS.out.get RR.out.ok i si HSI.out (up : Int) (by omega) (by omega) kn t (by rw [Int.toNat_natCast]; exact HK.out.symm) HTT.out n
                    rw [hx] at hgt
                    have hF := frget_any R8 si.w HSL.out (up : Int) (n : Int) hgt
                    obtain ⟨g3, c3, e3, _, hg3, hw3⟩ := OwnW.form (ws := t.l) (by have := HO.out; rw [HMM.out] at this; exact this) (by rw [← HMM.out]; omega)
                    rw [← HMM.out] at e3
                    obtain ⟨rfl, rfl⟩ : ta = some ⟨g3, 0, none⟩ ∧ tcp = c3 := by
                      simp only [Value.slice.injEq] at e3
                      exact ⟨e3.1, e3.2.2⟩
                    have hc3 := hw3 n x hx
                    rw [Nat.zero_add] at hc3
                    have C3 := Lib.hid (fun (w' : World) (b9 : Below w6.heap.size w6 w') => (b9.cell (p := ⟨g3, n, none⟩) hg3).trans hc3)
                    have t1 : (((x : Nat) : Int) != x) = false := by simp
                    clear hgt e3 hw3 hc3 R8 hx
                    go_wp2_with fail
                    refine hF.mono ?_
                    rintro e w9 ⟨rfl, b9⟩
                    have B9 : Hid (Below w6.heap.size w6 w9) := Lib.hid (B8.out.trans (b9.mono B8.out.size))
                    have v2' := V2.out _ B9.out
                    have c3' := C3.out _ B9.out
                    clear hF b9 v2 z0
                    go_wp2_with fail
                    go_roundw
                    case rel => exact ⟨n + 1, by omega, by go_num, B9.out⟩
                    case measure => simp [intOf]; omega
                  · obtain rfl : n = m := by omega
                    have hgt := SS.out.get RR.out.ok i si HSI.out (up : Int) (by omega) (by omega) kn t (by rw [Int.toNat_natCast]; exact HK.out.symm) HTT.out n
                    rw [List.getElem?_eq_none (by rw [← HMM.out]; omega)] at hgt
                    have hF := frget_any R8.drew si.w HSL.out (up : Int) (n : Int) hgt
                    have HF := Lib.hid hF
                    have v1 := V1.out _ B8.out
                    clear hgt R8 hF
                    go_wp2_with fail
                    have S1 : g < wr.heap.size := cell_lt z0
                    go_region_held3 (fun W' => W'.cell? ⟨g, i * 3, none⟩ = some (.int .u64 (si.w : Nat)) ∧ W'.cell? ⟨g, kn * 3 + 2, none⟩ = some (.slice ta n tcp)) (go_keep) (first | (go_at_call 24; refine HF.out.mono ?_; rintro e w9 ⟨rfl, b9⟩; have q1 : w9.cell? ⟨g, i * 3, none⟩ = some (.int .u64 (si.w : Nat)) := (b9.cell (p := ⟨g, i * 3, none⟩) S1).trans z0; have q2 : w9.cell? ⟨g, kn * 3 + 2, none⟩ = some (.slice ta n tcp) := (b9.cell (p := ⟨g, kn * 3 + 2, none⟩) S1).trans v2))
                    have B9 : Hid (Below w6.heap.size w6 w9) := Lib.hid (Below.trans (b := wr.drew) ⟨B8.out.os, B8.out.tape, B8.out.output, B8.out.size, B8.out.block⟩ (b9.mono B8.out.size))
                    clear HF S1 q1 q2
                    have v1' := V1.out _ B9.out
                    clear b9 v2 z0 v1
                    go_wp2_with fail
                    go_roundw
                    case rel =>
                      refine ⟨up + 1, by omega, by go_num, ?_, B9.out⟩
                      rw [anc_add up 1, ← HK.out, anc_succ (k := (kn : Int)) (by omega) (by rw [Int.toNat_natCast]; exact HTT.out)]
                      rfl
                    case measure => simp [intOf]; omega
              · have hgt := SS.out.get_no RR.out.ok i si HSI.out (up : Int) (by omega) (by omega) (by rw [Int.toNat_natCast, ← HK.out]; omega) 0
                have R7 := (RR.out.below B6.out).below B7.out
                have hF := frget_any R7 si.w HSL.out (up : Int) 0 hgt
                have z0 := Z0.out _ B7.out
                clear hgt R7 hal
                go_wp2_with fail
                refine hF.mono ?_
                rintro e w9 ⟨rfl, b9⟩
                have B9 : Hid (Below w6.heap.size w6 w9) := Lib.hid (B7.out.trans (b9.mono B7.out.size))
                have z0' := Z0.out _ B9.out
                have z2' := Z2.out _ B9.out
                have hcn := count_any ((RR.out.below B6.out).below (w' := w9.drew) (Below.trans B9.out ⟨rfl, rfl, rfl, Nat.le_refl _, fun _ _ => rfl⟩)) si.w HSL.out
                rw [SS.out.count HSI.out] at hcn
                obtain ⟨ml, hml⟩ : ∃ ml, ml = si.l.length := ⟨_, rfl⟩
                rw [← hml] at hcn z2'
                have HCN := Lib.hid hcn
                have t1 : (((ml : Nat) : Int) != ml) = false := by simp
                have S1 : g < w9.heap.size := cell_lt z0'
                clear hF b9 z0 hcn hml
                go_wp2_with fail
                go_region_held3 (fun W' => W'.cell? ⟨g, i * 3, none⟩ = some (.int .u64 (si.w : Nat)) ∧ W'.cell? ⟨g, i * 3 + 2, none⟩ = some (.slice ia ml icp)) (go_keep) (first | (go_at_call 25; refine HCN.out.mono ?_; rintro e w8 ⟨rfl, b8⟩; have q1 : w8.cell? ⟨g, i * 3, none⟩ = some (.int .u64 (si.w : Nat)) := (b8.cell (p := ⟨g, i * 3, none⟩) S1).trans z0'; have q2 : w8.cell? ⟨g, i * 3 + 2, none⟩ = some (.slice ia ml icp) := (b8.cell (p := ⟨g, i * 3 + 2, none⟩) S1).trans z2'))
                have B10 : Hid (Below w6.heap.size w6 w8) := Lib.hid (Below.trans (b := w9.drew) ⟨B9.out.os, B9.out.tape, B9.out.output, B9.out.size, B9.out.block⟩ (b8.mono B9.out.size))
                clear HCN S1 q1 q2 b8 z0' z2' t1
                go_wp2_with fail
                go_roundw
                case rel => exact ⟨i + 1, by omega, by go_num, B6.out.trans (B10.out.mono B6.out.size)⟩
                case measure => simp [intOf]; omega
          · obtain rfl : i = q := by omega
            go_wp2_with fail
            refine (awakef wr).mono ?_
            rintro e w7 ⟨rfl, b7⟩
            go_wp2_with fail
            go_ret
            exact ⟨rfl, HB.out.trans ((hB6.trans (b7.mono hB6.size)).mono HB.out.size)⟩
end Go.Proofs.Ytecemlamoiepdaa
