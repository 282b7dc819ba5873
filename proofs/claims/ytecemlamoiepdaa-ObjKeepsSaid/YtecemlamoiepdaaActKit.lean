/- Package morainelaw10's helpers: New of any limit, many, word, words, setHalf. -/
import Derived.Test.YtecemlamoiepdaaActs
import Derived.Test.YtecemlamoiepdaaWeak
import Derived.Test.YtecemlamoiepdaaStr
namespace Go.Proofs.Ytecemlamoiepdaa
open Go.ChangeShapes Go.WideShapes Go.ChangeAt Go.RowKit

set_option maxHeartbeats 400000 in
theorem new_bad (L : Int) (h : L < 8 ∨ 1024 < L) (w : World) :
    Calls Try.prog 14 #[.int .i64 L] w fun e w' => e = .returned (.tuple #[.pointer none, .int .i64 1]) ∧ w' = w := by
  have h1 := segnew_bad L h w
  have h2 : Calls Try.prog 110 #[.int .i64 L] w fun e w' => e = .returned (.tuple #[.pointer none, .int .i64 1]) ∧ w' = w := by
    go_enter Try.func110, Try.ntmps110
    clear h
    go_wp2_with fail
    refine h1.mono ?_
    rintro e w1 ⟨rfl, rfl⟩
    clear h1
    go_wp2_with fail
    go_ret2
    exact ⟨by simp, rfl⟩
  have h3 : Calls Try.prog 64 #[.int .i64 L] w fun e w' => e = .returned (.tuple #[.pointer none, .int .i64 1]) ∧ w' = w := by
    go_enter Try.func64, Try.ntmps64
    clear h h1
    go_wp2_with fail
    refine h2.mono ?_
    rintro e w1 ⟨rfl, rfl⟩
    clear h2
    go_wp2_with fail
    go_ret2
    exact ⟨by simp, rfl⟩
  clear h h1 h2
  go_enter Try.func14, Try.ntmps14
  go_wp2_with fail
  refine h3.mono ?_
  rintro e w1 ⟨rfl, rfl⟩
  clear h3
  go_wp2_with fail
  go_ret2
  exact ⟨by simp, rfl⟩

/-- a call's cells, as the walk spells their addresses -/
structure Ac.Cs (w : World) (b o : Nat) (c : Ac) : Prop where
  do' : w.cell? ⟨b, o, none⟩ = some (.int .i64 c.do')
  xw : w.cell? ⟨b, o + 1, none⟩ = some (.int .u64 c.x.w)
  xo : w.cell? ⟨b, o + 2, none⟩ = some (.int .i64 c.x.of)
  yw : w.cell? ⟨b, o + 3, none⟩ = some (.int .u64 c.y.w)
  yo : w.cell? ⟨b, o + 4, none⟩ = some (.int .i64 c.y.of)
  kind : w.cell? ⟨b, o + 5, none⟩ = some (.int .i64 c.kind)
  n : w.cell? ⟨b, o + 6, none⟩ = some (.int .i64 c.n)
  more : w.cell? ⟨b, o + 7, none⟩ = some (.int .u64 c.more)
  lv : w.cell? ⟨b, o + 8, none⟩ = some c.lv
  s : w.cell? ⟨b, o + 9, none⟩ = some (.string c.s)
  neg : w.cell? ⟨b, o + 10, none⟩ = some (.bool c.neg)
  mv : w.cell? ⟨b, o + 11, none⟩ = some c.mv

theorem Ac.At.cs {w : World} {b o i : Nat} {c : Ac} (h : c.At w ⟨b, o, none⟩ i) : c.Cs w b (o + i) := by
  have e : ∀ j, (⟨b, o, none⟩ : Addr).add (i + j) = ⟨b, o + i + j, none⟩ := fun j => by rw [Addr.add_mid, Nat.add_assoc]
  have e0 : (⟨b, o, none⟩ : Addr).add i = ⟨b, o + i, none⟩ := Addr.add_mid _ _ _
  exact ⟨e0 ▸ h.do', e 1 ▸ h.xw, e 2 ▸ h.xo, e 3 ▸ h.yw, e 4 ▸ h.yo, e 5 ▸ h.kind, e 6 ▸ h.n, e 7 ▸ h.more, e 8 ▸ h.lv, e 9 ▸ h.s, e 10 ▸ h.neg, e 11 ▸ h.mv⟩

def Ac.big (c : Ac) : Bool := decide (200 < c.l.length) || decide (1000 < c.s.size) || decide (60 < c.mag.length)
def manyB (S : List Ac) : Bool := decide (200 < S.length) || S.any Ac.big

theorem manyB_no {S : List Ac} (h : manyB S = false) : S.length ≤ 200 ∧ ∀ c ∈ S, c.l.length ≤ 200 ∧ c.s.size ≤ 1000 ∧ c.mag.length ≤ 60 := by
  unfold manyB at h
  rw [Bool.or_eq_false_iff] at h
  refine ⟨by have := of_decide_eq_false h.1; omega, fun c hc => ?_⟩
  have h2 := List.any_eq_false.1 h.2 c hc
  unfold Ac.big at h2
  simp at h2
  omega

set_option maxRecDepth 20000 in
set_option maxHeartbeats 1000000 in
theorem many_any (v : Value) (S : List Ac) (w : World) (h : ActsAt w v S) (hs : ∀ c ∈ S, c.s.size ≤ maxLen) :
    Calls Try.prog 26 #[v] w fun e w' => e = .returned (.bool (manyB S)) ∧ w' = w := by
  obtain ⟨hm, a0, c0, rfl⟩ := h.len
  by_cases h200 : 200 < S.length
  · have hb : manyB S = true := by unfold manyB; rw [decide_eq_true h200]; rfl
    rw [hb]
    clear h hb hm
    go_enter Try.func26, Try.ntmps26
    go_wp2
    go_ret
    exact ⟨rfl, rfl⟩
  · obtain ⟨n, hn⟩ : ∃ n, n = S.length := ⟨_, rfl⟩
    have H := Lib.hid h
    have HS := Lib.hid hs
    rw [← hn] at h200 ⊢
    have HN := Lib.hid hn
    clear h hs hm hn
    go_enter Try.func26, Try.ntmps26
    go_wp2_with fail
    go_loop [3] (fun iv => ∃ k : Nat, k ≤ n ∧ iv = .int .i64 k ∧ (S.take k).any Ac.big = false) (fun iv => n - (intOf iv).toNat)
    case atStart => exact ⟨0, Nat.zero_le _, rfl, rfl⟩
    case round =>
      obtain ⟨k, hk, rfl, hf⟩ := hrel
      have HF := Lib.hid hf
      clear hf
      by_cases hlt : k < n
      · obtain ⟨b, o, cap, e, hb, hc⟩ := H.out.form (by rw [← HN.out]; omega)
        rw [← HN.out] at e
        obtain ⟨rfl, rfl⟩ : a0 = some ⟨b, o, none⟩ ∧ c0 = cap := by
          simp only [Value.slice.injEq] at e
          exact ⟨e.1, e.2.2⟩
        obtain ⟨c, hck⟩ : ∃ c, S[k]? = some c := ⟨_, List.getElem?_eq_getElem (by rw [← HN.out]; omega)⟩
        have hat := hc k c hck
        have hcs := hat.cs
        obtain ⟨hlm, la, lc, hlv⟩ := hat.l.len
        obtain ⟨hmm, ma, mc, hmv⟩ := hat.mag.len
        have hsm := HS.out c (List.mem_of_getElem? hck)
        have x1 := hcs.lv
        have x2 := hcs.s
        have x3 := hcs.mv
        rw [hlv] at x1
        rw [hmv] at x3
        obtain ⟨l1, hl1⟩ : ∃ l1, l1 = c.l.length := ⟨_, rfl⟩
        obtain ⟨l3, hl3⟩ : ∃ l3, l3 = c.mag.length := ⟨_, rfl⟩
        rw [← hl1] at x1
        rw [← hl3] at x3
        have hstep : (S.take (k + 1)).any Ac.big = c.big := by
          rw [List.take_add_one, hck, List.any_append, HF.out]
          simp
        have hbig : c.big = (decide (200 < l1) || decide (1000 < c.s.size) || decide (60 < l3)) := by unfold Ac.big; rw [← hl1, ← hl3]
        have hyes : c.big = true → manyB S = true := by
          intro hb1
          unfold manyB
          rw [Bool.or_eq_true]
          right
          exact List.any_eq_true.2 ⟨c, List.mem_of_getElem? hck, hb1⟩
        have HY := Lib.hid hyes
        have HST := Lib.hid hstep
        have HBG := Lib.hid hbig
        clear e hc hck hat hcs hlv hmv hl1 hl3 hstep hbig hyes hlm hmm hsm
        generalize c.s = s at *
        by_cases d1 : 200 < l1
        · have e1 : decide (200 < l1) = true := decide_eq_true d1
          have hb1 := HY.out (by rw [HBG.out, e1]; rfl)
          have HB1 := Lib.hid hb1
          clear hb1
          go_wp2_with fail
          go_ret
          exact ⟨by rw [HB1.out]; rfl, rfl⟩
        · have e1 : decide (200 < l1) = false := decide_eq_false d1
          by_cases d2 : 1000 < s.size
          · have e2 : decide (1000 < s.size) = true := decide_eq_true d2
            have hb1 := HY.out (by rw [HBG.out, e1, e2]; rfl)
            have HB1 := Lib.hid hb1
            clear hb1
            go_wp2_with fail
            go_ret
            exact ⟨by rw [HB1.out]; rfl, rfl⟩
          · have e2 : decide (1000 < s.size) = false := decide_eq_false d2
            by_cases d3 : 60 < l3
            · have e3 : decide (60 < l3) = true := decide_eq_true d3
              have hb1 := HY.out (by rw [HBG.out, e1, e2, e3]; rfl)
              have HB1 := Lib.hid hb1
              clear hb1
              go_wp2_with fail
              go_ret
              exact ⟨by rw [HB1.out]; rfl, rfl⟩
            · have e3 : decide (60 < l3) = false := decide_eq_false d3
              have hb1 : (S.take (k + 1)).any Ac.big = false := by rw [HST.out, HBG.out, e1, e2, e3]; rfl
              have HB1 := Lib.hid hb1
              clear hb1
              go_wp2_with fail
              go_round
              case rel => exact ⟨k + 1, by omega, by go_num, HB1.out⟩
              case measure => simp [intOf]; omega
      · obtain rfl : k = n := by omega
        have hb1 : manyB S = false := by
          have hf := HF.out
          rw [HN.out, List.take_length] at hf
          unfold manyB
          rw [hf, Bool.or_false, decide_eq_false (by rw [← HN.out]; exact h200)]
        have HB1 := Lib.hid hb1
        clear hb1
        go_wp2_with fail
        go_ret
        exact ⟨by rw [HB1.out]; rfl, rfl⟩

/-- a value's word, of what was made by now -/
def awd (ws : List Nat) (x : Vl) : Nat := if 0 < x.of ∧ 0 < ws.length then ws.getD ((x.of - 1) % ws.length).toNat 0 else x.w.toNat

theorem awd_lt {ws : List Nat} {x : Vl} (hx : x.Ok) (hw : ∀ y ∈ ws, y < 18446744073709551616) : awd ws x < 18446744073709551616 := by
  unfold awd
  split
  · rw [List.getD_eq_getElem?_getD]
    cases h : ws[((x.of - 1) % ws.length).toNat]? with
    | none => simp
    | some y => exact hw y (List.mem_of_getElem? h)
  · have := hx.w; omega

set_option maxRecDepth 20000 in
set_option maxHeartbeats 1000000 in
theorem aword_any (x : Vl) (hx : x.Ok) (mv : Value) (ws : List Nat) (w : World) (hm : SlWords w mv ws) (hl : ws.length ≤ 1000000) :
    Calls Try.prog 28 #[.agg #[.int .u64 x.w, .int .i64 x.of], mv] w fun e w' => e = .returned (.int .u64 (awd ws x : Nat)) ∧ Below w.heap.size w w' := by
  obtain ⟨⟨p1, p2⟩, ⟨p3, p4⟩⟩ := hx
  obtain ⟨xw, xo⟩ := x
  simp only at p1 p2 p3 p4
  have hmf : ∃ a cap, mv = .slice a ws.length cap := by
    rcases hm with ⟨rfl, rfl⟩ | ⟨b, o, cap, rfl, _⟩
    · exact ⟨none, 0, rfl⟩
    · exact ⟨_, cap, rfl⟩
  obtain ⟨ma, mc, rfl⟩ := hmf
  obtain ⟨n, hn⟩ : ∃ n, n = ws.length := ⟨_, rfl⟩
  have HM := Lib.hid hm
  have hB : Below w.heap.size w (w.alloc (.cells #[.int .u64 xw, .int .i64 xo] 67)) := (Below.refl _ _).alloc (Nat.le_refl _) _
  have HB := Lib.hid hB
  rw [← hn] at hl ⊢
  have HN := Lib.hid hn
  have P2 := Lib.hid p2
  clear hm hB hn p2
  by_cases c1 : 0 < xo
  · by_cases c2 : 0 < n
    · obtain ⟨k, hk, hkn⟩ : ∃ k : Nat, (xo - 1).tmod (n : Int) = (k : Int) ∧ k < n := by
        refine ⟨((xo - 1).tmod (n : Int)).toNat, ?_, ?_⟩ <;> rw [Int.tmod_eq_emod_of_nonneg (by omega)]
        · have := Int.emod_nonneg (xo - 1) (show (n : Int) ≠ 0 by omega); omega
        · have := Int.emod_lt_of_pos (xo - 1) (show (0 : Int) < (n : Int) by omega); omega
      have hres : ∃ y, ws[k]? = some y ∧ awd ws ⟨xw, xo⟩ = y := by
        obtain ⟨y, hy⟩ : ∃ y, ws[k]? = some y := ⟨_, List.getElem?_eq_getElem (by rw [← HN.out]; exact hkn)⟩
        refine ⟨y, hy, ?_⟩
        unfold awd
        simp only
        rw [if_pos ⟨c1, by rw [← HN.out]; exact c2⟩, ← HN.out, ← Int.tmod_eq_emod_of_nonneg (by omega), hk, Int.toNat_natCast, List.getD_eq_getElem?_getD, hy]
        rfl
      obtain ⟨y, hy, hye⟩ := hres
      obtain ⟨b, o, hma, hc⟩ : ∃ b o, ma = some ⟨b, o, none⟩ ∧ (w.alloc (.cells #[.int .u64 xw, .int .i64 xo] 67)).cell? ⟨b, o + k, none⟩ = some (.int .u64 (y : Nat)) := by
        rcases HM.out with ⟨e, h0⟩ | ⟨b, o, cap, e, hb, hw⟩
        · rw [h0] at hy; simp at hy
        · simp only [Value.slice.injEq] at e
          exact ⟨b, o, e.1, (World.cell?_alloc_lt w _ _ hb).trans (hw k y hy)⟩
      subst hma
      have HYE := Lib.hid hye
      clear hy hye
      go_enter Try.func28, Try.ntmps28
      go_wp2
      go_ret
      exact ⟨by rw [HYE.out]; rfl, HB.out⟩
    · obtain rfl : n = 0 := by omega
      have hye : awd ws ⟨xw, xo⟩ = xw.toNat := by unfold awd; rw [if_neg (by rw [← HN.out]; omega)]
      have HYE := Lib.hid hye
      have HX : Hid (((xw.toNat : Nat) : Int) = xw) := Lib.hid (by omega)
      clear hye
      go_enter Try.func28, Try.ntmps28
      go_wp2
      go_ret
      exact ⟨by rw [HYE.out, HX.out]; rfl, HB.out⟩
  · have hye : awd ws ⟨xw, xo⟩ = xw.toNat := by unfold awd; rw [if_neg (by simp only; omega)]
    have HYE := Lib.hid hye
    have HX : Hid (((xw.toNat : Nat) : Int) = xw) := Lib.hid (by omega)
    clear hye
    go_enter Try.func28, Try.ntmps28
    go_wp2
    go_ret
    exact ⟨by rw [HYE.out, HX.out]; rfl, HB.out⟩

set_option maxRecDepth 20000 in
set_option maxHeartbeats 1000000 in
theorem awords_any (L : List Vl) (hL : ∀ x ∈ L, x.Ok) (hl2 : L.length ≤ 200) (v mv : Value) (ws : List Nat) (w : World) (h : ValsAt w v L) (hm : SlWords w mv ws) (hl : ws.length ≤ 1000000) :
    Calls Try.prog 32 #[v, mv] w fun e w' => ∃ u, e = .returned u ∧ OwnW w' u (L.map (awd ws)) ∧ (∀ k, u.ownBlock = some k → w.heap.size ≤ k) ∧ Below w.heap.size w w' := by
  obtain ⟨_, a0, c0, rfl⟩ := h.len
  obtain ⟨n, hn⟩ : ∃ n, n = L.length := ⟨_, rfl⟩
  have H := Lib.hid h
  have HO := Lib.hid hL
  have HM := Lib.hid hm
  have HL := Lib.hid hl
  rw [← hn] at hl2 ⊢
  have HN := Lib.hid hn
  clear h hL hm hl hn
  go_enter Try.func32, Try.ntmps32
  go_wp2_with fail
  go_loopw [5, 6] (fun u iv wr => ∃ k : Nat, k ≤ n ∧ iv = .int .i64 k ∧ OwnW wr u ((L.take k).map (awd ws)) ∧ (∀ g, u.ownBlock = some g → w.heap.size ≤ g) ∧ Below w.heap.size w wr) (fun _ iv _ => n - (intOf iv).toNat)
  case atStart => exact ⟨0, Nat.zero_le _, rfl, OwnW.nil' _, by intro g hg; simp [Value.ownBlock] at hg, Below.refl _ _⟩
  case round =>
    obtain ⟨k, hk, rfl, ho, hg, hB⟩ := hrel
    have hlen : ((L.take k).map (awd ws)).length = k := by rw [List.length_map, List.length_take]; have := HN.out; omega
    have ho1 := ho
    unfold OwnW at ho1
    rw [hlen] at ho1
    obtain ⟨ua, uc, rfl⟩ := own_slice' ho1
    have O := Lib.hid ho1
    have HG := Lib.hid hg
    have BB := Lib.hid hB
    have HLN := Lib.hid hlen
    clear ho ho1 hg hlen
    by_cases hlt : k < n
    · obtain ⟨b, o, cap, e, hb, hc⟩ := (H.out.below hB).form (by rw [← HN.out]; omega)
      rw [← HN.out] at e
      obtain ⟨rfl, rfl⟩ : a0 = some ⟨b, o, none⟩ ∧ c0 = cap := by
        simp only [Value.slice.injEq] at e
        exact ⟨e.1, e.2.2⟩
      obtain ⟨x, hx⟩ : ∃ x, L[k]? = some x := ⟨_, List.getElem?_eq_getElem (by rw [← HN.out]; omega)⟩
      obtain ⟨y1, y2⟩ := hc k x hx
      have hA := aword_any x (HO.out x (List.mem_of_getElem? hx)) mv ws wr (HM.out.below hB) HL.out
      have hstep : (L.take (k + 1)).map (awd ws) = (L.take k).map (awd ws) ++ [awd ws x] := by rw [List.take_add_one, hx, List.map_append]; rfl
      have HS := Lib.hid hstep
      obtain ⟨z, hz⟩ : ∃ z, z = awd ws x := ⟨_, rfl⟩
      rw [← hz] at hA
      have HZ := Lib.hid hz
      clear e hc hx hB hstep hz
      go_wp2_with fail
      refine hA.mono ?_
      rintro en w2 ⟨rfl, b2⟩
      have B2 : Hid (Below w.heap.size w w2) := Lib.hid (BB.out.trans (b2.mono BB.out.size))
      have O2 : Hid (World.ownsRow w2 0 29 1 (.slice ua k uc) k (((L.take k).map (awd ws)).map wv)) := Lib.hid (by
        have h2 : OwnW w2 (.slice ua k uc) ((L.take k).map (awd ws)) := ownW_block (by unfold OwnW; rw [HLN.out]; exact O.out) fun q hq => b2.block q (O.out.lt q hq).2
        unfold OwnW at h2
        rw [HLN.out] at h2
        exact h2)
      have hz2 : wr.heap.size ≤ w2.heap.size := b2.size
      have Z2 := Lib.hid hz2
      clear hA b2 hz2
      go_wp2_with (at_builtin; refine wpList_app E_word rfl _ _ rfl (.slice ua k uc) k (((L.take k).map (awd ws)).map wv) rfl (O2.out.alloc _) (.slice (some ⟨w2.heap.size, 0, none⟩) 1 1) 1 [.int .u64 (z : Nat)] rfl (one_word _ _ _ _ rfl) (by simp) (by simp [Value.oneCell']) (by unfold maxLen; omega) (by omega) ?_; intro v' w6 hown hgrow hat)
      go_roundw
      case rel =>
        refine ⟨k + 1, by omega, by go_num, ?_, ?_, below_grown (B2.out.alloc B2.out.size _) hgrow (fun q e => HG.out q e)⟩
        · unfold OwnW
          rw [HS.out, List.length_append, HLN.out, List.map_append, ← HZ.out]
          exact hown
        · intro q hq
          rcases hat with h | h
          · rw [h] at hq; exact HG.out q hq
          · rw [h] at hq; cases hq; have := B2.out.size; simp; omega
      case measure => simp [intOf]; omega
    · obtain rfl : k = n := by omega
      clear hB
      go_wp2_with fail
      go_ret
      refine ⟨_, rfl, ?_, HG.out, BB.out⟩
      have h2 : OwnW wr (.slice ua k uc) ((L.take k).map (awd ws)) := by unfold OwnW; rw [HLN.out]; exact O.out
      rw [List.take_of_length_le (by have := HN.out; omega)] at h2
      exact h2

/-- SetCar (6), SetCdr -/
def Hp.setH (M : Hp) (x : Nat) (i v : Nat) : Nat × Hp := match M.setHalf x i v with | some M' => (0, M') | none => (3, M)

set_option maxHeartbeats 400000 in
theorem sethalf_any {hb : HB} {M M' : Hp} {w : World} (r : Rep hb M w) (D : Int) (hD : D = 6 ∨ D = 7) (x v : Nat) (hx : x < 18446744073709551616) (hv : v < 18446744073709551616) {e : Nat} (h : M.setH x (D - 6).toNat v = (e, M')) :
    Calls Try.prog 34 #[.pointer (some ⟨hb.h, 0, none⟩), .int .i64 D, .int .u64 x, .int .u64 v] w fun en w' => en = .returned (.int .i64 e) ∧ Rep hb M' w' ∧ Moves hb w w' := by
  unfold Hp.setH at h
  rcases hD with rfl | rfl
  · have hA : Calls Try.prog 51 #[.pointer (some ⟨hb.h, 0, none⟩), .int .u64 x, .int .u64 v] w fun en w' => en = .returned (.int .i64 e) ∧ Rep hb M' w' ∧ Moves hb w w' := by
      cases hs : M.setHalf x ((6 : Int) - 6).toNat v with
      | some M2 => rw [hs] at h; cases h; exact setcar_ok r x v hx hv hs
      | none =>
        rw [hs] at h; cases h
        have hp : M.pairOf x = none := by unfold Hp.setHalf at hs; cases hq : M.pairOf x with | none => rfl | some a => rw [hq] at hs; cases hs
        exact (setcar_no r x v hx hp).mono fun en w' ⟨h1, h2⟩ => ⟨h1, r.below h2, .of_below h2⟩
    clear r h hx hv
    go_enter Try.func34, Try.ntmps34
    go_wp2_with fail
    refine hA.mono ?_
    rintro en w1 ⟨rfl, r1, m1⟩
    have R1 := Lib.hid r1
    have M1 := Lib.hid m1
    clear hA r1 m1
    go_wp2_with fail
    go_ret
    exact ⟨rfl, R1.out, M1.out⟩
  · have hA : Calls Try.prog 72 #[.pointer (some ⟨hb.h, 0, none⟩), .int .u64 x, .int .u64 v] w fun en w' => en = .returned (.int .i64 e) ∧ Rep hb M' w' ∧ Moves hb w w' := by
      cases hs : M.setHalf x ((7 : Int) - 6).toNat v with
      | some M2 => rw [hs] at h; cases h; exact setcdr_ok r x v hx hv hs
      | none =>
        rw [hs] at h; cases h
        have hp : M.pairOf x = none := by unfold Hp.setHalf at hs; cases hq : M.pairOf x with | none => rfl | some a => rw [hq] at hs; cases hs
        exact (setcdr_no r x v hx hp).mono fun en w' ⟨h1, h2⟩ => ⟨h1, r.below h2, .of_below h2⟩
    clear r h hx hv
    go_enter Try.func34, Try.ntmps34
    go_wp2_with fail
    refine hA.mono ?_
    rintro en w1 ⟨rfl, r1, m1⟩
    have R1 := Lib.hid r1
    have M1 := Lib.hid m1
    clear hA r1 m1
    go_wp2_with fail
    go_ret
    exact ⟨rfl, R1.out, M1.out⟩
end Go.Proofs.Ytecemlamoiepdaa
