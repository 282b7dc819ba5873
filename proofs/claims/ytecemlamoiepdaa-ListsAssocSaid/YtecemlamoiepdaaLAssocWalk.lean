/- morainelaw22.ListsAssoc: whatever the keys. -/
import Derived.Test.YtecemlamoiepdaaSames
import Derived.BigQuiet
namespace Go.Proofs.Ytecemlamoiepdaa
open Go.RowKit

/-- the pairs' words -/
def prW (m : Nat) : List Nat := (List.range m).map fun i => 16 * i + 1
theorem prW_len (m : Nat) : (prW m).length = m := by unfold prW; simp
theorem prW_get {m i : Nat} (h : i < m) : (prW m)[i]? = some (16 * i + 1) := by unfold prW; simp [h]
theorem prW_snoc (m : Nat) : prW (m + 1) = prW m ++ [16 * m + 1] := by unfold prW; rw [List.range_succ, List.map_append]; rfl

/-- where the first one is that has the key; so many looked at -/
def AtOk (keys : List Int) (x : Int) (k : Nat) (av : Value) : Prop :=
  (av = .int .i64 (-1) ∧ ∀ i, i < k → ∀ y, keys[i]? = some y → y ≠ x) ∨ ∃ j : Nat, j < k ∧ av = .int .i64 (j : Nat) ∧ keys[j]? = some x ∧ ∀ i, i < j → ∀ y, keys[i]? = some y → y ≠ x

/-- what stands while the pairs are made -/
structure AsAt (hb : HB) (keys : List Int) (w1 : World) (k : Nat) (lv : Value) (W : World) : Prop where
  ex : ∃ M, Grew hb (Hp.empty 400) 0 w1 M k W ∧ ∀ i y, i < k → keys[i]? = some y → Pr M i (fixW y) (i * 8)
  own : OwnW W lv (prW k)
  blk : ∀ g, lv.ownBlock = some g → w1.heap.size ≤ g

theorem own_cap {w : World} {b : Nat} {e : TypeId} {s n c : Nat} {a : Option Addr} {xs : List Value} (h : w.ownsRow b e s (.slice a n c) n xs) : n ≤ c := by
  rcases h.2 with ⟨h1, h0⟩ | ⟨g, cap, cur, h1, _, _, hc, _⟩
  · cases h1; exact Nat.le_refl _
  · cases h1; exact hc

set_option maxRecDepth 100000 in
set_option maxHeartbeats 8000000 in
theorem lists_assoc_any (sv : Value) (x : Int) (keys : List Int) (w : World) (hz : IntsAt .i32 w sv keys) (hr : ∀ z ∈ keys, -2147483648 ≤ z ∧ z < 2147483648) (hx : -2147483648 ≤ x ∧ x < 2147483648)
    (hS2 : ∀ (hb : HB) (M : Hp), (∀ x, M.typ x = 0) → SameOk hb M 2 (fixW x) (fixL keys)) :
    Calls Try.prog 11 #[sv, .int .i32 x] w fun e w' => e = .returned (.bool true) ∧ Below w.heap.size w w' := by
  have hN := new_ok 400 400 rfl (by omega) (by omega) w
  obtain ⟨hml, sa, sc, hsv⟩ := hz.len
  obtain ⟨m, hm⟩ : ∃ m, m = keys.length := ⟨_, rfl⟩
  rw [← hm] at hsv hml
  subst hsv
  have HZ := Lib.hid hz
  have HR := Lib.hid hr
  have HM := Lib.hid hm
  have HX := Lib.hid hx
  have HS2 := Lib.hid hS2
  clear hz hr hm hS2
  go_enter Try.func11, Try.ntmps11
  go_wp2_with fail
  refine hN.mono ?_
  rintro e w1 ⟨hb, rfl, r1, b1, hh⟩
  clear hN
  have HB := Lib.hid (fun (a : World) (mv : Moves hb w1 a) => mv.below_of b1 hh)
  have R1 := Lib.hid r1
  have B1 := Lib.hid b1
  have HH := Lib.hid hh
  clear r1 b1 hh
  by_cases h1 : 200 < m
  · go_wp2_with fail
    refine (awake22 w1).mono ?_
    rintro e w7 ⟨rfl, b7⟩
    have B7 := Lib.hid (B1.out.trans (b7.mono B1.out.size))
    clear b7
    go_wp2_with fail
    go_ret
    exact ⟨rfl, B7.out⟩
  · have h2 : m ≤ 200 := by omega
    have G0 : Hid (Grew hb (Hp.empty 400) 0 w1 (Hp.empty 400) 0 w1) := Lib.hid (.refl R1.out (PK.empty 400))
    have hlim : (Hp.empty 400).limit = 400 := rfl
    have HL := Lib.hid hlim
    clear hlim h1
    go_wp2_with fail
    go_loopw [7, 8, 9] (fun lv av iv wr => ∃ k : Nat, k ≤ m ∧ iv = .int .i64 k ∧ AtOk keys x k av ∧ AsAt hb keys w1 k lv wr) (fun _ _ iv _ => m - (intOf iv).toNat)
    case atStart => exact ⟨0, Nat.zero_le _, rfl, .inl ⟨rfl, by intro i hi; omega⟩, ⟨_, G0.out, by intro i y hi; omega⟩, OwnW.nil' _, by intro g hg; cases hg⟩
    case round =>
      obtain ⟨k, hk, rfl, hat, hAs⟩ := hrel
      by_cases hkm : k < m
      · obtain ⟨y, hy⟩ : ∃ y, keys[k]? = some y := ⟨_, List.getElem?_eq_getElem (by rw [← HM.out]; omega)⟩
        obtain ⟨M, g, hpr⟩ := hAs.ex
        have hb0 : Below w.heap.size w wr := HB.out wr g.mv
        obtain ⟨b3, o3, p3, e3, s3, k3⟩ := HZ.out.form (by rw [← HM.out]; omega)
        have c3w := k3 k y hy
        have c3 := (hb0.cell (p := ⟨b3, o3 + k, none⟩) s3).trans c3w
        have C3W := Lib.hid (And.intro s3 c3w)
        obtain ⟨rfl, rfl⟩ : sa = some ⟨b3, o3, none⟩ ∧ sc = p3 := by
          simp only [Value.slice.injEq] at e3
          exact ⟨e3.1, e3.2.2⟩
        obtain ⟨X, hX⟩ : ∃ X, X = fixW y := ⟨_, rfl⟩
        have hfy : IntKind.u64.wrap (IntKind.u64.wrap y * 8) = (X : Nat) := by
          have h := fixW_wrap y
          unfold wv at h
          simp only [Value.int.injEq, true_and] at h
          rw [← h, hX]
        obtain ⟨M2, htw, pk2, g2, pr2⟩ := g.pk.cons g.rep.ok X (k * 8) (by rw [g.limit, HL.out]; omega)
        obtain ⟨v2, hv2⟩ : ∃ v2, v2 = 16 * k + 1 := ⟨_, rfl⟩
        rw [← hv2] at htw
        have hC := cons_any g.rep X (k * 8) (by rw [hX]; exact fixW_lt y) (by omega) htw
        rw [show ((k * 8 : Nat) : Int) = (k : Int) * 8 by omega] at hC
        have AS := Lib.hid hAs
        have G := Lib.hid g
        have PRS := Lib.hid hpr
        have HY := Lib.hid hy
        have HXX := Lib.hid hX
        have HV2 := Lib.hid hv2
        have PK2 := Lib.hid pk2
        have G2 := Lib.hid g2
        have PR2 := Lib.hid pr2
        have HAT := Lib.hid hat
        clear hAs g hpr hb0 e3 s3 k3 c3w hy hX htw hv2 pk2 g2 pr2
        go_wp2_with fail
        refine hC.mono ?_
        rintro e w2 ⟨rfl, r2, mv2⟩
        have hlen : (prW k).length = k := prW_len k
        have ho2 : OwnW w2 u7 (prW k) := ownW_block AS.out.own fun g hg => mv2.block g (AS.out.own.lt g hg).2 (fun h => by have h1 := AS.out.blk g hg; have h2 := R1.out.lt g h; omega)
        obtain ⟨ua, uc, rfl⟩ := ho2.slice'
        rw [hlen] at ho2 AS ⊢
        have hO1 := ho2
        unfold OwnW at hO1
        rw [hlen] at hO1
        have O1 := Lib.hid (hO1.alloc (.cells #[.int .u64 (v2 : Nat)] 29))
        have G2' : Hid (Grew hb (Hp.empty 400) 0 w1 M2 (k + 1) w2) := Lib.hid ⟨r2, PK2.out, G.out.g.trans G2.out, G.out.mv.trans mv2⟩
        have OC := Lib.hid (one_cell' w2 (.int .u64 (v2 : Nat)) 29)
        have hsz := Lib.hid (Nat.le_trans G.out.mv.size mv2.size)
        clear hC r2 mv2 hO1 hlen ho2 c3
        have hnext : ∀ (v' : Value) (w6 : World), w6.ownsRow 0 29 1 v' (k + 1) ((prW k).map wv ++ [.int .u64 (v2 : Nat)]) → (w2.alloc (.cells #[.int .u64 (v2 : Nat)] 29)).grownBy w6 (Value.slice ua k uc).ownBlock → (v'.ownBlock = (Value.slice ua k uc).ownBlock ∨ v'.ownBlock = some (w2.alloc (.cells #[.int .u64 (v2 : Nat)] 29)).heap.size) → Moves hb w1 w6 → AsAt hb keys w1 (k + 1) v' w6 := by
          intro v' w6 hown hgrow hat2 mv6
          refine ⟨⟨M2, ⟨G2'.out.rep.alloc _ |>.grown hgrow (fun g hg hh => by have h1 := AS.out.blk g hg; have h2 := R1.out.lt g hh; omega), G2'.out.pk, G2'.out.g, mv6⟩, ?_⟩, ?_, ?_⟩
          · intro i y2 hi hy2
            rcases Nat.lt_or_ge i k with h | h
            · exact (PRS.out i y2 h hy2).grown G2.out
            · obtain rfl : i = k := by omega
              rw [HY.out] at hy2
              cases hy2
              rw [← HXX.out]
              exact PR2.out
          · unfold OwnW
            rw [prW_len, prW_snoc, List.map_append]
            rw [HV2.out] at hown
            exact hown
          · intro g hg
            rcases hat2 with h | h
            · rw [h] at hg; exact AS.out.blk g hg
            · rw [h] at hg; cases hg; have h9 := hsz.out; simp; omega
        have HNX := Lib.hid hnext
        clear hnext
        rcases HAT.out with ⟨rfl, hno⟩ | ⟨j, hjk, rfl, hj, hno⟩
        · by_cases hyx : y = x
          · have hyt : (y == x) = true := by rw [hyx]; simp
            have HYX := Lib.hid hyx
            have HNO := Lib.hid hno
            clear hyx hno
            go_wp2_with (at_builtin; refine wpList_app E_word rfl _ _ rfl (.slice ua k uc) k ((prW k).map wv) rfl O1.out (.slice (some ⟨w2.heap.size, 0, none⟩) 1 1) 1 [.int .u64 (v2 : Nat)] rfl OC.out (by simp) (by simp [Value.oneCell']) (by unfold maxLen; omega) (by omega) ?_; intro v' w6 hown hgrow hat2; have HW := Lib.hid hown; have HG := Lib.hid hgrow; have HA2 := Lib.hid hat2; have M6 : Hid (Moves hb w1 w6) := Lib.hid (Moves.grown (G2'.out.mv.trans (.of_below ((Below.refl _ _).alloc (Nat.le_refl _) _))) hgrow (fun g hg => AS.out.blk g hg)); have c6 := ((HB.out w6 M6.out).cell (p := ⟨b3, o3 + k, none⟩) C3W.out.1).trans C3W.out.2; clear hown hgrow hat2)
            go_roundw
            case rel => exact ⟨k + 1, by omega, by go_num, .inr ⟨k, by omega, rfl, by rw [HY.out, HYX.out], HNO.out⟩, HNX.out _ _ HW.out HG.out HA2.out M6.out⟩
            case measure => simp [intOf]; omega
          · have hyt : (y == x) = false := by rw [beq_eq_false_iff_ne]; exact hyx
            have HYX := Lib.hid hyx
            have HNO := Lib.hid hno
            clear hyx hno
            go_wp2_with (at_builtin; refine wpList_app E_word rfl _ _ rfl (.slice ua k uc) k ((prW k).map wv) rfl O1.out (.slice (some ⟨w2.heap.size, 0, none⟩) 1 1) 1 [.int .u64 (v2 : Nat)] rfl OC.out (by simp) (by simp [Value.oneCell']) (by unfold maxLen; omega) (by omega) ?_; intro v' w6 hown hgrow hat2; have HW := Lib.hid hown; have HG := Lib.hid hgrow; have HA2 := Lib.hid hat2; have M6 : Hid (Moves hb w1 w6) := Lib.hid (Moves.grown (G2'.out.mv.trans (.of_below ((Below.refl _ _).alloc (Nat.le_refl _) _))) hgrow (fun g hg => AS.out.blk g hg)); have c6 := ((HB.out w6 M6.out).cell (p := ⟨b3, o3 + k, none⟩) C3W.out.1).trans C3W.out.2; clear hown hgrow hat2)
            go_roundw
            case rel =>
              refine ⟨k + 1, by omega, by go_num, .inl ⟨rfl, ?_⟩, HNX.out _ _ HW.out HG.out HA2.out M6.out⟩
              intro i hi y2 hy2
              rcases Nat.lt_or_ge i k with h | h
              · exact HNO.out i h y2 hy2
              · obtain rfl : i = k := by omega
                rw [HY.out] at hy2
                cases hy2
                exact HYX.out
            case measure => simp [intOf]; omega
        · have HJ := Lib.hid (And.intro hjk (And.intro hj hno))
          clear hjk hj hno
          go_wp2_with (at_builtin; refine wpList_app E_word rfl _ _ rfl (.slice ua k uc) k ((prW k).map wv) rfl O1.out (.slice (some ⟨w2.heap.size, 0, none⟩) 1 1) 1 [.int .u64 (v2 : Nat)] rfl OC.out (by simp) (by simp [Value.oneCell']) (by unfold maxLen; omega) (by omega) ?_; intro v' w6 hown hgrow hat2; have HW := Lib.hid hown; have HG := Lib.hid hgrow; have HA2 := Lib.hid hat2; have M6 : Hid (Moves hb w1 w6) := Lib.hid (Moves.grown (G2'.out.mv.trans (.of_below ((Below.refl _ _).alloc (Nat.le_refl _) _))) hgrow (fun g hg => AS.out.blk g hg)); have c6 := ((HB.out w6 M6.out).cell (p := ⟨b3, o3 + k, none⟩) C3W.out.1).trans C3W.out.2; clear hown hgrow hat2)
          go_roundw
          case rel => exact ⟨k + 1, by omega, by go_num, .inr ⟨j, by have := HJ.out.1; omega, rfl, HJ.out.2.1, HJ.out.2.2⟩, HNX.out _ _ HW.out HG.out HA2.out M6.out⟩
          case measure => simp [intOf]; omega
      · obtain rfl : m = k := by omega
        obtain ⟨M, g, hpr⟩ := hAs.ex
        obtain ⟨ua, uc, hu⟩ := hAs.own.slice'
        rw [prW_len] at hu
        subst hu
        have hcap : m ≤ uc := by have h := hAs.own; unfold OwnW at h; rw [prW_len] at h; exact own_cap h
        have KL : Hid (Kept hb wr (.slice ua m uc) (prW m)) := Lib.hid ⟨hAs.own.sl, fun g hg hh => by have h1 := hAs.blk g hg; have h2 := R1.out.lt g hh; omega⟩
        have c4 := g_of g (.slice ua m uc) (prW m) KL.out (by intro y hy; obtain ⟨i, hi, rfl⟩ := List.mem_map.1 hy; have := List.mem_range.1 hi; omega) (by rw [HL.out, prW_len]; omega)
        rw [prW_len] at c4
        have PRS := Lib.hid hpr
        have HAT := Lib.hid hat
        obtain ⟨X, hX⟩ : ∃ X, X = fixW x := ⟨_, rfl⟩
        have hfx : IntKind.u64.wrap (IntKind.u64.wrap x * 8) = (X : Nat) := by
          have h := fixW_wrap x
          unfold wv at h
          simp only [Value.int.injEq, true_and] at h
          rw [← h, hX]
        have HXX := Lib.hid hX
        clear hAs g hpr hat hX
        go_wp2_with fail
        refine c4.mono ?_
        rintro e w4 ⟨M1, p, rfl, g4, l4, gr4, mv4⟩
        have K4 := Lib.hid (KL.out.moves mv4)
        have G4 := Lib.hid g4
        have L4 := Lib.hid l4
        have PR4 : Hid (∀ i y, i < m → keys[i]? = some y → Pr M1 i (fixW y) (i * 8)) := Lib.hid fun i y h1 h2 => (PRS.out i y h1 h2).grown gr4
        have HT1 : Hid (∀ x, M1.typ x = 0) := Lib.hid fun x => g4.pk.typ x
        -- the keys, as find reads them
        have HCAR : Hid (∀ (i y k : Nat), ((rowL m (prW m)).map (·.2))[i]? = some y → (fixL keys)[i]? = some k → M1.half y 0 = some k) := Lib.hid (by
          intro i y k h1 h2
          rw [rowL_snd'] at h1
          have hi : i < m := by have := (List.getElem?_eq_some_iff.1 h1).1; rw [prW_len] at this; exact this
          rw [prW_get hi] at h1
          cases h1
          unfold fixL at h2
          rw [List.getElem?_map] at h2
          obtain ⟨z, hz⟩ : ∃ z, keys[i]? = some z := ⟨_, List.getElem?_eq_getElem (by rw [← HM.out]; exact hi)⟩
          rw [hz] at h2
          cases h2
          exact (PR4.out i z hi hz).car g4.rep.ok)
        have HSM : Hid (∀ q : Nat, q < 3 → SameOk hb M1 (q : Int) X (fixL keys)) := Lib.hid (by
          intro q hq
          rw [HXX.out]
          match q, hq with
          | 0, _ => exact sameOk0 hb M1 _ _
          | 1, _ => exact sameOk1 hb M1 HT1.out _ (fixW_lt x) _ fixL_lt
          | 2, _ => exact HS2.out hb M1 HT1.out)
        have HNE : Hid (∀ (i k : Nat), (∀ y, keys[i]? = some y → y ≠ x) → (fixL keys)[i]? = some k → X ≠ k) := Lib.hid (by
          intro i k h1 h2
          unfold fixL at h2
          rw [List.getElem?_map] at h2
          cases hz : keys[i]? with
          | none => rw [hz] at h2; cases h2
          | some z =>
            rw [hz] at h2
            cases h2
            rw [HXX.out]
            intro h3
            exact h1 z hz ((fixW_inj HX.out (HR.out z (List.mem_of_getElem? hz))).1 h3).symm)
        clear c4 g4 l4 gr4 mv4
        rcases HAT.out with ⟨rfl, hno⟩ | ⟨j, hjk, rfl, hj, hno⟩
        · have HNO := Lib.hid hno
          clear hno
          go_wp2_with fail
          go_loopw [14] (fun nv wr2 => ∃ q : Nat, q ≤ 3 ∧ nv = .int .i64 (21 + q) ∧ Grew hb (Hp.empty 400) 0 w1 M1 (m + m) wr2) (fun nv _ => 24 - (intOf nv).toNat)
          case atStart => exact ⟨0, by omega, rfl, G4.out⟩
          case round =>
            obtain ⟨q, hq, rfl, hg⟩ := hrel
            have HG := Lib.hid hg
            clear hg
            by_cases hq3 : q < 3
            · have c5 := g_ass HG.out L4.out (by rw [rowL_len, prW_len]; omega) (q : Int) (by omega) (fixL keys) (by rw [fixL_len, rowL_len, prW_len, HM.out]) HCAR.out (HSM.out q hq3) m (by rw [rowL_len, prW_len]; exact Nat.le_refl _) (fun i hi k h => HNE.out i k (HNO.out i hi) h) (by rw [rowL_len, prW_len]; intro h; omega) (21 + (q : Int)) (by omega) 29
              rw [rowL_snd', List.getElem?_eq_none (by rw [prW_len]; exact Nat.le_refl _)] at c5
              clear hx
              go_wp2_with fail
              refine c5.mono ?_
              rintro e w5 ⟨rfl, g5, mv5⟩
              have G5 := Lib.hid g5
              clear c5 g5 mv5
              go_wp2_with fail
              go_roundw
              case rel => exact ⟨q + 1, by omega, by go_num, G5.out⟩
              case measure => simp [intOf]; omega
            · obtain rfl : q = 3 := by omega
              go_wp2_with fail
              refine (awake22 _).mono ?_
              rintro e w6 ⟨rfl, b6⟩
              have V6 := Lib.hid (HG.out.mv.trans (.of_below b6))
              clear b6
              go_wp2_with fail
              go_ret
              exact ⟨rfl, HB.out _ V6.out⟩
        · have HNO := Lib.hid hno
          have HJ := Lib.hid hj
          have hkj : (fixL keys)[j]? = some X := by unfold fixL; rw [List.getElem?_map, hj, HXX.out]; rfl
          have HKJ := Lib.hid hkj
          obtain ⟨V, hV⟩ : ∃ V, V = 16 * j + 1 := ⟨_, rfl⟩
          have HPJ : Hid ((prW m)[j]? = some V) := Lib.hid (by rw [hV]; exact prW_get hjk)
          have HV := Lib.hid hV
          clear hno hj hkj hV
          have hvv : (((V : Nat) : Int) != ((V : Nat) : Int)) = false := by simp
          go_wp2_with fail
          go_loopw [14] (fun nv wr2 => ∃ q : Nat, q ≤ 3 ∧ nv = .int .i64 (21 + q) ∧ Grew hb (Hp.empty 400) 0 w1 M1 (m + m) wr2 ∧ Moves hb w4 wr2) (fun nv _ => 24 - (intOf nv).toNat)
          case atStart => exact ⟨0, by omega, rfl, G4.out, .refl _ _⟩
          case round =>
            obtain ⟨q, hq, rfl, hg, hmv⟩ := hrel
            have HG := Lib.hid hg
            have HMV := Lib.hid hmv
            clear hg hmv
            by_cases hq3 : q < 3
            · have c5 := g_ass HG.out L4.out (by rw [rowL_len, prW_len]; omega) (q : Int) (by omega) (fixL keys) (by rw [fixL_len, rowL_len, prW_len, HM.out]) HCAR.out (HSM.out q hq3) j (by rw [rowL_len, prW_len]; omega) (fun i hi k h => HNE.out i k (HNO.out i hi) h) (fun _ => HKJ.out) (21 + (q : Int)) (by omega) 29
              rw [rowL_snd', HPJ.out] at c5
              simp only [Option.getD_some] at c5
              clear hx
              go_wp2_with fail
              refine c5.mono ?_
              rintro e w5 ⟨rfl, g5, mv5⟩
              have G5 := Lib.hid g5
              have MV5 := Lib.hid (HMV.out.trans mv5)
              obtain ⟨b5, o5, p5, e5, l5, q5, k5⟩ := (K4.out.moves MV5.out).sl.form (by rw [prW_len]; omega)
              rw [prW_len] at e5
              simp only [Value.slice.injEq] at e5
              obtain ⟨rfl, _, rfl⟩ := e5
              have c7 := k5 j V HPJ.out
              clear c5 g5 mv5 k5 l5 q5
              go_wp2_with fail
              go_roundw
              case rel => exact ⟨q + 1, by omega, by go_num, G5.out, MV5.out⟩
              case measure => simp [intOf]; omega
            · obtain rfl : q = 3 := by omega
              obtain ⟨b5, o5, p5, e5, l5, q5, k5⟩ := (K4.out.moves HMV.out).sl.form (by rw [prW_len]; omega)
              rw [prW_len] at e5
              simp only [Value.slice.injEq] at e5
              obtain ⟨rfl, _, rfl⟩ := e5
              have c7 := k5 j V HPJ.out
              have hat : LSeg.at' 20 (rowL m (prW m)) j = (((rowL m (prW m)).map (·.1))[j]?).getD 4 := by
                unfold LSeg.at'
                rw [List.getElem?_map]
                have hlj : j < (rowL m (prW m)).length := by rw [rowL_len, prW_len]; exact hjk
                rw [List.getElem?_eq_getElem hlj]
                rfl
              have c5 := g_mem HG.out L4.out (by rw [rowL_len, prW_len]; omega) 0 (.inl rfl) (sameOk0 hb M1 V _) j (by rw [rowL_len, prW_len]; omega) (by
                intro i hi k h
                rw [rowL_snd', prW_get (by omega)] at h
                cases h
                have := HV.out
                omega) (fun _ => by rw [rowL_snd']; exact HPJ.out) 18 (by omega) 29
              rw [← hat] at c5
              have LD := Lib.hid (LSeg.drop L4.out j (by rw [rowL_len, prW_len]; omega))
              have L5 := Lib.hid l5
              have K5 := Lib.hid k5
              generalize LSeg.at' 20 (rowL m (prW m)) j = R at *
              clear hat l5 k5 q5 hx
              go_wp2_with fail
              refine c5.mono ?_
              rintro e w5 ⟨rfl, g5, mv5⟩
              have c6 := g_list g5 LD.out (by rw [List.length_drop, rowL_len, prW_len]; omega)
              rw [List.map_drop, rowL_snd'] at c6
              have MV5 := Lib.hid (HMV.out.trans mv5)
              clear c5 g5 mv5 c7
              go_wp2_with fail
              refine c6.mono ?_
              rintro e w6 ⟨u, rfl, ou, ku, g6, mv6⟩
              have MV6 := Lib.hid (MV5.out.trans mv6)
              have hsub : SlWords w6 (.slice (some ⟨b5, o5 + j, none⟩) (m - j) (uc - j)) ((prW m).drop j) := by
                have hk6 := (K4.out.moves MV6.out).sl
                obtain ⟨b6, o6, p6, e6, l6, q6, k6⟩ := hk6.form (by rw [prW_len]; omega)
                rw [prW_len] at e6
                simp only [Value.slice.injEq, Option.some.injEq, Addr.mk.injEq, and_true, true_and] at e6
                obtain ⟨⟨rfl, rfl⟩, rfl⟩ := e6
                refine .inr ⟨b5, o5 + j, uc - j, by rw [List.length_drop, prW_len], l6, fun i y hy => ?_⟩
                rw [List.getElem?_drop] at hy
                have := k6 (j + i) y hy
                rw [Nat.add_assoc]
                exact this
              have c8 := same_any u _ _ _ w6 ou.sl hsub (by rw [List.length_drop, prW_len]; omega) (by rw [List.length_drop, prW_len]; omega)
              rw [decide_eq_true rfl] at c8
              have G6 := Lib.hid g6
              clear c6 ou ku g6 mv6 hsub
              go_wp2_with fail
              refine c8.mono ?_
              rintro e w7 ⟨rfl, b7⟩
              have G7 := Lib.hid (G6.out.below b7)
              clear b7 c8
              go_wp2_with fail
              refine (awake22 _).mono ?_
              rintro e w8 ⟨rfl, b8⟩
              have V8 := Lib.hid (G7.out.mv.trans (.of_below b8))
              clear b8
              go_wp2_with fail
              go_ret
              exact ⟨rfl, HB.out _ V8.out⟩
end Go.Proofs.Ytecemlamoiepdaa
