/- The walk of morainelaw10.ObjKeeps. -/
import Derived.Test.YtecemlamoiepdaaBoth
import Derived.Test.YtecemlamoiepdaaAwake10
import Derived.Deep.RegionHeld3
import Derived.Deep.CutRange
import Derived.Deep.AppendLies
import Derived.Deep.RegionLaw
import Derived.Deep.CutBlock
import Derived.StillTailTactics
namespace Go.Proofs.Ytecemlamoiepdaa
open Go.ChangeShapes Go.WideShapes Go.ChangeAt Go.RowKit

theorem E_thing : Elem Try.prog 65 75 3 40 := Elem.of (z := .agg #[.int .u64 0, .int .i64 0, .slice none 0 0]) Try.underlying65 (by kernel_rfl) rfl (by decide)

/-- a pair's end: its word, and a row of its two words, laid into the record's box -/
theorem two_end {T t e : TypeId} {hb : HB} {lo bt : Nat} {W w8 : World} {u mv : Value} {G : List Sc} {vs : List Value} {M : Hp} (E : Both T hb lo w8 u mv G vs) (R : Rep hb M w8) (B : Below lo W w8) (hlo : lo ≤ w8.heap.size) (F : Free hb lo bt w8 u mv vs)
    (h0 : w8.heap[bt]? = some (.cells #[.int .u64 0, .int .i64 0, .slice none 0 0] t (0, 0))) (v a b : Nat) :
    Both T hb lo (((w8.setCell ⟨bt, 0, none⟩ (.int .u64 v)).alloc (.cells #[.int .u64 a, .int .u64 b] e)).setCell ⟨bt, 2, none⟩ (.slice (some ⟨w8.heap.size, 0, none⟩) 2 2)) u mv G vs ∧
    Rep hb M (((w8.setCell ⟨bt, 0, none⟩ (.int .u64 v)).alloc (.cells #[.int .u64 a, .int .u64 b] e)).setCell ⟨bt, 2, none⟩ (.slice (some ⟨w8.heap.size, 0, none⟩) 2 2)) ∧
    Below lo W (((w8.setCell ⟨bt, 0, none⟩ (.int .u64 v)).alloc (.cells #[.int .u64 a, .int .u64 b] e)).setCell ⟨bt, 2, none⟩ (.slice (some ⟨w8.heap.size, 0, none⟩) 2 2)) ∧
    w8.heap.size ≤ (((w8.setCell ⟨bt, 0, none⟩ (.int .u64 v)).alloc (.cells #[.int .u64 a, .int .u64 b] e)).setCell ⟨bt, 2, none⟩ (.slice (some ⟨w8.heap.size, 0, none⟩) 2 2)).heap.size ∧
    (((w8.setCell ⟨bt, 0, none⟩ (.int .u64 v)).alloc (.cells #[.int .u64 a, .int .u64 b] e)).setCell ⟨bt, 2, none⟩ (.slice (some ⟨w8.heap.size, 0, none⟩) 2 2)).heap[bt]? = some (.cells #[.int .u64 v, .int .i64 0, .slice (some ⟨w8.heap.size, 0, none⟩) 2 2] t (0, 0)) ∧
    SlWords (((w8.setCell ⟨bt, 0, none⟩ (.int .u64 v)).alloc (.cells #[.int .u64 a, .int .u64 b] e)).setCell ⟨bt, 2, none⟩ (.slice (some ⟨w8.heap.size, 0, none⟩) 2 2)) (.slice (some ⟨w8.heap.size, 0, none⟩) 2 2) [a, b] := by
  have hz : (w8.setCell ⟨bt, 0, none⟩ (.int .u64 v)).heap.size = w8.heap.size := by simp [World.setCell]
  have h1 : (w8.setCell ⟨bt, 0, none⟩ (.int .u64 v)).heap[bt]? = some (.cells #[.int .u64 v, .int .i64 0, .slice none 0 0] t (0, 0)) := by simp only [World.setCell, Array.getElem?_modify, h0]; simp
  have h2 : ((w8.setCell ⟨bt, 0, none⟩ (.int .u64 v)).alloc (.cells #[.int .u64 a, .int .u64 b] e)).heap[bt]? = some (.cells #[.int .u64 v, .int .i64 0, .slice none 0 0] t (0, 0)) := (heap_alloc_old _ _ (by rw [hz]; exact F.lt)).trans h1
  have F2 : Free hb lo bt ((w8.setCell ⟨bt, 0, none⟩ (.int .u64 v)).alloc (.cells #[.int .u64 a, .int .u64 b] e)) u mv vs := F.size (by simp [hz])
  refine ⟨(((E.box F _).below ((Below.refl _ _).alloc (Nat.le_refl _) _)).box F2 _), ((R.other F.hb' _).below ((Below.refl _ _).alloc (Nat.le_refl _) _)).other F.hb' _, ((B.setCell (p := ⟨bt, 0, none⟩) F.lo' _).alloc (by rw [hz]; exact hlo) _).setCell (p := ⟨bt, 2, none⟩) F.lo' _, ?_, ?_, ?_⟩
  · simp [World.setCell]
  · simp only [World.setCell, Array.getElem?_modify] at h2 ⊢
    rw [h2]; simp
  · have hlt := F.lt
    refine .inr ⟨w8.heap.size, 0, 2, rfl, by simp [World.setCell], ?_⟩
    have hb2 : (((w8.setCell ⟨bt, 0, none⟩ (.int .u64 v)).alloc (.cells #[.int .u64 a, .int .u64 b] e)).setCell ⟨bt, 2, none⟩ (.slice (some ⟨w8.heap.size, 0, none⟩) 2 2)).heap[w8.heap.size]? = some (.cells #[.int .u64 a, .int .u64 b] e (0, 0)) := by
      refine (Below.heap_setCell _ _ _ _ (show w8.heap.size ≠ bt by omega)).trans ?_
      have := heap_alloc_new (w8.setCell ⟨bt, 0, none⟩ (.int .u64 v)) (.cells #[.int .u64 a, .int .u64 b] e)
      rw [hz] at this
      exact this
    intro i z hz2
    match i with
    | 0 => cases hz2; unfold World.cell?; rw [hb2]; rfl
    | 1 => cases hz2; unfold World.cell?; rw [hb2]; rfl
    | i + 2 => cases hz2

/-- an object's end: its word, laid into the record's box -/
theorem one_end {T t : TypeId} {hb : HB} {lo bt n c : Nat} {W w8 : World} {u mv x1 : Value} {a : Option Addr} {G : List Sc} {vs : List Value} {M : Hp} {ws : List Nat} (E : Both T hb lo w8 u mv G vs) (R : Rep hb M w8) (B : Below lo W w8) (F : Free hb lo bt w8 u mv vs)
    (h0 : w8.heap[bt]? = some (.cells #[.int .u64 0, x1, .slice a n c] t (0, 0))) (O : OwnW w8 (.slice a n c) ws) (hne : ∀ k, (Value.slice a n c).ownBlock = some k → k ≠ bt) (v : Nat) :
    Both T hb lo (w8.setCell ⟨bt, 0, none⟩ (.int .u64 v)) u mv G vs ∧ Rep hb M (w8.setCell ⟨bt, 0, none⟩ (.int .u64 v)) ∧ Below lo W (w8.setCell ⟨bt, 0, none⟩ (.int .u64 v)) ∧
    w8.heap.size ≤ (w8.setCell ⟨bt, 0, none⟩ (.int .u64 v)).heap.size ∧ (w8.setCell ⟨bt, 0, none⟩ (.int .u64 v)).heap[bt]? = some (.cells #[.int .u64 v, x1, .slice a n c] t (0, 0)) ∧ SlWords (w8.setCell ⟨bt, 0, none⟩ (.int .u64 v)) (.slice a n c) ws := by
  refine ⟨E.box F _, R.other F.hb' _, B.setCell (p := ⟨bt, 0, none⟩) F.lo' _, by simp [World.setCell], ?_, ?_⟩
  · simp only [World.setCell, Array.getElem?_modify, h0]; simp
  · exact (ownW_block O fun x hx => Below.heap_setCell _ _ _ _ (hne x hx)).sl

theorem cell_set_other {w : World} {b c i j : Nat} {v : Value} (h : c ≠ b) : (w.setCell ⟨b, j, none⟩ v).cell? ⟨c, i, none⟩ = w.cell? ⟨c, i, none⟩ := World.cell?_of_block (Below.heap_setCell _ _ _ _ h)

/-- Make, whatever is asked -/
theorem make_all {hb : HB} {M : Hp} {w : World} (r : Rep hb M w) (K mo : Int) (hmo : 0 ≤ mo ∧ mo < 18446744073709551616) (v : Value) (ws : List Nat) (hv : SlWords w v ws) (hx : ∀ x ∈ ws, x < 18446744073709551616) :
    ∃ (x en : Nat) (M' : Hp), Calls Try.prog 33 #[.pointer (some ⟨hb.h, 0, none⟩), .int .i64 K, .int .u64 mo, v] w (fun e w' => e = .returned (.tuple #[.int .u64 x, .int .i64 en]) ∧ Rep hb M' w' ∧ Moves hb w w') ∧
      (en ≠ 0 → M' = M) ∧ (en = 0 → ∃ k m : Nat, K = k ∧ 1 ≤ k ∧ k ≤ 13 ∧ m < 281474976710656 ∧ M.mk' k m ws = (x, 0, M')) := by
  obtain ⟨m, rfl⟩ := Int.eq_ofNat_of_zero_le hmo.1
  by_cases hk : K < 1 ∨ 13 < K ∨ 281474976710656 ≤ m
  · refine ⟨0, 1, M, (make_bad _ K m (by omega) v hk w).mono ?_, fun _ => rfl, by intro h; cases h⟩
    rintro e w' ⟨h1, rfl⟩
    exact ⟨h1, r, .refl _ _⟩
  · obtain ⟨k, rfl⟩ := Int.eq_ofNat_of_zero_le (show 0 ≤ K by omega)
    obtain ⟨x, en, M', h⟩ : ∃ x en M', M.mk' k m ws = (x, en, M') := ⟨_, _, _, rfl⟩
    refine ⟨x, en, M', make_any r (k : Int) (m : Int) k m rfl rfl (by omega) (by omega) (by omega) v ws hv hx h, fun he => ?_, fun he => ⟨k, m, rfl, by omega, by omega, by omega, by rw [h, he]⟩⟩
    unfold Hp.mk' at h
    split at h
    · cases h; rfl
    · split at h
      · cases h; exact absurd rfl he
      · cases h; rfl

theorem Hp.two_no {M M' : Hp} {kd x y v e : Nat} (h : M.two kd x y = (v, e, M')) (he : e ≠ 0) : M' = M := by
  unfold Hp.two at h
  split at h
  · cases h; exact absurd rfl he
  · cases h; rfl

set_option maxRecDepth 100000 in
set_option maxHeartbeats 4000000 in
theorem keeps_walk (L : Int) (v0 : Value) (S : List Ac) (W : World) (i0 : ActsAt W v0 S) (hok : ∀ c ∈ S, c.Ok) :
    Calls Try.prog 7 #[.int .i64 L, v0] W fun e w' => e = .returned (.bool true) ∧ Below W.heap.size W w' := by
  have hs : ∀ c ∈ S, c.s.size ≤ maxLen := fun c hc => (hok c hc).s
  obtain ⟨a0, c0, hv0⟩ := i0.len.2
  obtain ⟨n, hn⟩ : ∃ n, n = S.length := ⟨_, rfl⟩
  by_cases hL : L < 8 ∨ 1024 < L
  · as_aux_lemma =>
    have hN := new_bad L hL W
    have hM := many_any v0 S W i0 hs
    rw [hv0] at hM ⊢
    rw [← hn] at hM ⊢
    generalize manyB S = mb at hM
    clear i0 hok hs hL hn hv0
    have hAw := awake10 W
    go_enter Try.func7, Try.ntmps7
    go_wp2_with fail
    refine hN.mono ?_
    rintro e w1 ⟨rfl, rfl⟩
    clear hN
    go_wp2_with fail
    refine hM.mono ?_
    rintro e w1 ⟨rfl, rfl⟩
    clear hM
    cases mb
    all_goals
      go_wp2_with fail
      refine hAw.mono ?_
      rintro e w2 ⟨rfl, b2⟩
      go_wp2_with fail
      go_ret
      exact ⟨rfl, b2⟩
  · obtain ⟨l, rfl⟩ := Int.eq_ofNat_of_zero_le (show 0 ≤ L by omega)
    have hN := new_ok (l : Int) l rfl (by omega) (by omega) W
    have hM : ∀ w1, Below W.heap.size W w1 → Calls Try.prog 26 #[v0] w1 fun e w' => e = .returned (.bool (manyB S)) ∧ w' = w1 := fun w1 b => many_any v0 S w1 (i0.below b) hs
    by_cases hmb : manyB S = true
    · as_aux_lemma =>
      rw [hmb] at hM
      rw [hv0] at hM ⊢
      rw [← hn] at hM ⊢
      clear i0 hok hs hL hn hv0 hmb
      go_enter Try.func7, Try.ntmps7
      go_wp2_with fail
      refine hN.mono ?_
      rintro e w1 ⟨hb, rfl, r1, b1, hh⟩
      have hM1 := hM w1 b1
      have hAw := awake10 w1
      clear hN hM
      go_wp2_with fail
      refine hM1.mono ?_
      rintro e w2 ⟨rfl, rfl⟩
      clear hM1
      go_wp2_with fail
      refine hAw.mono ?_
      rintro e w3 ⟨rfl, b3⟩
      go_wp2_with fail
      go_ret
      exact ⟨rfl, b1.trans (b3.mono b1.size)⟩
    · have hmf : manyB S = false := by simpa using hmb
      obtain ⟨hl2, hbig⟩ := manyB_no hmf
      rw [hmf] at hM
      rw [hv0] at hM
      rw [← hn] at hM hv0 hl2
      have I0 := Lib.hid i0
      have HOK := Lib.hid hok
      have HN := Lib.hid hn
      have HBIG := Lib.hid hbig
      have HM := Lib.hid hM
      clear i0 hok hs hn hmb hmf hbig hM
      subst hv0
      go_enter Try.func7, Try.ntmps7
      go_wp2_with fail
      refine hN.mono ?_
      rintro e w1 ⟨hb, rfl, r1, b1, hh⟩
      have R1 := Lib.hid r1
      have W1 := Lib.hid b1
      have HH := Lib.hid hh
      have hM1 := HM.out w1 b1
      clear hN r1 b1 hh HM
      go_wp2_with fail
      refine hM1.mono ?_
      rintro e w2 ⟨rfl, rfl⟩
      clear hM1
      go_wp2_with fail
      go_loopw [7, 8, 9] (fun mv u iv wr => ∃ (k : Nat) (G : List Sc) (vs : List Value) (M : Hp), k ≤ n ∧ iv = .int .i64 k ∧ G.length ≤ k ∧ Both 75 hb W.heap.size wr u mv G vs ∧ Rep hb M wr ∧ Ths M G ∧ M.limit = l ∧ Below W.heap.size W wr) (fun _ _ iv _ => n - (intOf iv).toNat)
      case atStart => exact ⟨0, [], [], _, Nat.zero_le _, rfl, by simp, Both.nil _ _ _ _, R1.out, Ths.nil _, rfl, W1.out⟩
      case round =>
        obtain ⟨k, G, vs, M, hk, rfl, hGk, hE, hR, hT, hlm, hB⟩ := hrel
        by_cases hlt : k < n
        · obtain ⟨b, o, cap, e, hbl, hc⟩ := (I0.out.below hB).form (by rw [← HN.out]; omega)
          obtain ⟨c, hck⟩ : ∃ c, S[k]? = some c := ⟨_, List.getElem?_eq_getElem (by rw [← HN.out]; omega)⟩
          have hat := hc k c hck
          have hcs := hat.cs
          obtain ⟨rfl, rfl⟩ : a0 = some ⟨b, o, none⟩ ∧ c0 = cap := by
            rw [← HN.out] at e
            simp only [Value.slice.injEq] at e
            exact ⟨e.1, e.2.2⟩
          have CO := Lib.hid (HOK.out c (List.mem_of_getElem? hck))
          have CB := Lib.hid (HBIG.out c (List.mem_of_getElem? hck))
          obtain ⟨hlm1, la, lc, hlv⟩ := hat.l.len
          obtain ⟨hlm2, ma, mc, hmv⟩ := hat.mag.len
          have CL := Lib.hid hat.l
          obtain ⟨x0, x1, x2, x3, x4, x5, x6, x7, x8, x9, xa, xb⟩ := hcs
          clear hat hc hck e
          obtain ⟨D, ⟨xw, xo⟩, ⟨yw, yo⟩, K, I, mo, lv, cl, cstr, neg, mgv, mg⟩ := c
          simp only at x0 x1 x2 x3 x4 x5 x6 x7 x8 x9 xa xb hlv hmv hlm1 hlm2 CL
          obtain ⟨ln, hln⟩ : ∃ ln, ln = cl.length := ⟨_, rfl⟩
          obtain ⟨mn, hmn⟩ : ∃ mn, mn = mg.length := ⟨_, rfl⟩
          rw [← hln] at hlv
          rw [← hmn] at hmv
          subst hlv hmv
          have LN := Lib.hid hln
          clear hln hmn hlm1 hlm2
          have hbox : ∀ j v, #[Value.int .i64 D, .int .u64 xw, .int .i64 xo, .int .u64 yw, .int .i64 yo, .int .i64 K, .int .i64 I, .int .u64 mo, .slice la ln lc, .string cstr, .bool neg, .slice ma mn mc][j]? = some v →
              (wr.alloc (.cells #[Value.int .i64 D, .int .u64 xw, .int .i64 xo, .int .u64 yw, .int .i64 yo, .int .i64 K, .int .i64 I, .int .u64 mo, .slice la ln lc, .string cstr, .bool neg, .slice ma mn mc] 72)).cell? ⟨wr.heap.size, j, none⟩ = some v := by
            intro j v hv
            exact (World.cell?_alloc_new _ _ _ j).trans hv
          obtain ⟨q, hq⟩ : ∃ q, q = G.length := ⟨_, rfl⟩
          obtain ⟨ua, uc, hu⟩ := hE.env.slice
          rw [← hq] at hu hGk
          subst hu
          obtain ⟨na, nc, hm⟩ := hE.row.slice'
          rw [List.length_map, ← hq] at hm
          subst hm
          have HQ := Lib.hid hq
          clear hq
          have EE := Lib.hid hE
          have RR := Lib.hid hR
          have TT := Lib.hid hT
          have HB := Lib.hid hB
          clear hE hR hT hB
          go_upto_region 12 with fail
          obtain ⟨wx, hwx⟩ : ∃ wx, wx = wr.alloc (.cells #[Value.int .i64 D, .int .u64 xw, .int .i64 xo, .int .u64 yw, .int .i64 yo, .int .i64 K, .int .i64 I, .int .u64 mo, .slice la ln lc, .string cstr, .bool neg, .slice ma mn mc] 72) := ⟨_, rfl⟩
          rw [← hwx] at hbox ⊢
          have hbx : Below wr.heap.size wr wx := by rw [hwx]; exact (Below.refl _ _).alloc (Nat.le_refl _) _
          have hsz : wr.heap.size < wx.heap.size := by rw [hwx]; simp
          have EX := Lib.hid (EE.out.below hbx)
          have RX := Lib.hid (RR.out.below hbx)
          have CX := Lib.hid (CL.out.below hbx)
          have BX : Hid (Below W.heap.size W wx) := Lib.hid (HB.out.trans (hbx.mono HB.out.size))
          have FX : Hid (Free hb W.heap.size wr.heap.size wx (.slice ua q uc) (.slice na q nc) vs) := Lib.hid (EE.out.free RR.out (Nat.le_refl _) hsz HB.out.size)
          obtain ⟨bx, hbxe⟩ : ∃ bx, bx = wr.heap.size := ⟨_, rfl⟩
          rw [← hbxe] at hbox hsz FX ⊢
          have q1 := hbox 1 _ rfl
          have q2 := hbox 2 _ rfl
          have q3 := hbox 3 _ rfl
          have q4 := hbox 4 _ rfl
          obtain ⟨av, hav⟩ : ∃ av, av = awd (G.map Sc.w) ⟨xw, xo⟩ := ⟨_, rfl⟩
          obtain ⟨bv, hbv⟩ : ∃ bv, bv = awd (G.map Sc.w) ⟨yw, yo⟩ := ⟨_, rfl⟩
          have hws : ∀ y ∈ G.map Sc.w, y < 18446744073709551616 := by
            intro y hy
            obtain ⟨s, hs, rfl⟩ := List.mem_map.1 hy
            obtain ⟨i, hi, rfl⟩ := List.mem_iff_getElem.1 hs
            have := (TT.out.is i _ (List.getElem?_eq_getElem hi)).lt RR.out.ok
            omega
          have hgl : (G.map Sc.w).length ≤ 1000000 := by rw [List.length_map, ← HQ.out]; omega
          have hA1 := aword_any ⟨xw, xo⟩ CO.out.x (.slice na q nc) (G.map Sc.w) wx.drew EX.out.row.sl hgl
          have hA2 : ∀ w', Below wx.heap.size wx w' → Calls Try.prog 28 #[.agg #[.int .u64 yw, .int .i64 yo], .slice na q nc] w' fun e w'' => e = .returned (.int .u64 (bv : Nat)) ∧ Below w'.heap.size w' w'' := fun w' b' => by
            rw [hbv]
            exact aword_any ⟨yw, yo⟩ CO.out.y (.slice na q nc) (G.map Sc.w) w' (EX.out.below b').row.sl hgl
          rw [← hav] at hA1
          have HA1 := Lib.hid hA1
          have HA2 := Lib.hid hA2
          have AV : Hid (av < 18446744073709551616) := Lib.hid (by rw [hav]; exact awd_lt CO.out.x hws)
          have BV : Hid (bv < 18446744073709551616) := Lib.hid (by rw [hbv]; exact awd_lt CO.out.y hws)
          have HWS := Lib.hid hws
          have HBOX := Lib.hid hbox
          clear hA1 hA2 hav hbv hbx EE RR HB hbxe hwx CL hws hgl hbox x0 x1 x2 x3 x4 x5 x6 x7 x8 x9 xa xb
          go_region_held3 (fun W' => W'.cell? ⟨bx, 1, none⟩ = some (.int .u64 xw) ∧ W'.cell? ⟨bx, 2, none⟩ = some (.int .i64 xo) ∧ W'.cell? ⟨bx, 3, none⟩ = some (.int .u64 yw) ∧ W'.cell? ⟨bx, 4, none⟩ = some (.int .i64 yo)) (go_keep)
            (first
              | (go_at_call 28; refine HA1.out.mono ?_; rintro e w5 ⟨rfl, b5⟩; clear HA1
                 have q1 := (b5.cell (p := ⟨bx, 1, none⟩) hsz).trans q1; have q2 := (b5.cell (p := ⟨bx, 2, none⟩) hsz).trans q2; have q3 := (b5.cell (p := ⟨bx, 3, none⟩) hsz).trans q3; have q4 := (b5.cell (p := ⟨bx, 4, none⟩) hsz).trans q4)
              | (go_at_call 28; refine (HA2.out w5 ⟨b5.os, b5.tape, b5.output, b5.size, b5.block⟩).mono ?_; rintro e w6 ⟨rfl, b6⟩; clear HA2
                 have hsz := Nat.lt_of_lt_of_le hsz b5.size
                 have q1 := (b6.cell (p := ⟨bx, 1, none⟩) hsz).trans q1; have q2 := (b6.cell (p := ⟨bx, 2, none⟩) hsz).trans q2; have q3 := (b6.cell (p := ⟨bx, 3, none⟩) hsz).trans q3; have q4 := (b6.cell (p := ⟨bx, 4, none⟩) hsz).trans q4))
          have b6x : Below wx.heap.size wx w6 := Below.trans (b := w5) ⟨b5.os, b5.tape, b5.output, b5.size, b5.block⟩ (b6.mono b5.size)
          have B6 := Lib.hid b6x
          clear b5 b6 b6x q1 q2 q3 q4
          go_upto_region 15 with fail
          obtain ⟨w7, hw7⟩ : ∃ w7, w7 = w6.alloc (.cells #[.int .u64 0, .int .i64 0, .slice none 0 0] 75) := ⟨_, rfl⟩
          have hbt : w7.heap[w6.heap.size]? = some (.cells #[.int .u64 0, .int .i64 0, .slice none 0 0] 75 (0, 0)) := by rw [hw7]; exact heap_alloc_new _ _
          have b7 : Below wx.heap.size wx w7 := by rw [hw7]; exact B6.out.alloc B6.out.size _
          rw [← hw7]
          have hs7 : w6.heap.size < w7.heap.size := by rw [hw7]; simp
          have E7 := Lib.hid (EX.out.below b7)
          have R7 := Lib.hid (RX.out.below b7)
          have C7 := Lib.hid (CX.out.below b7)
          have B7 : Hid (Below W.heap.size W w7) := Lib.hid (BX.out.trans (b7.mono BX.out.size))
          have FT : Hid (Free hb W.heap.size w6.heap.size w7 (.slice ua q uc) (.slice na q nc) vs) := Lib.hid (EX.out.free RX.out B6.out.size hs7 BX.out.size)
          have F7 := Lib.hid (FX.out.size b7.size)
          have CELL : Hid (∀ j v, #[Value.int .i64 D, .int .u64 xw, .int .i64 xo, .int .u64 yw, .int .i64 yo, .int .i64 K, .int .i64 I, .int .u64 mo, .slice la ln lc, .string cstr, .bool neg, .slice ma mn mc][j]? = some v → w7.cell? ⟨bx, j, none⟩ = some v) := Lib.hid fun j v h => (b7.cell (p := ⟨bx, j, none⟩) FX.out.lt).trans (HBOX.out j v h)
          have hne : bx < w6.heap.size := Nat.lt_of_lt_of_le FX.out.lt B6.out.size
          obtain ⟨bt, hbte⟩ : ∃ bt, bt = w6.heap.size := ⟨_, rfl⟩
          rw [← hbte] at hbt hs7 FT hne ⊢
          have HBT := Lib.hid hbt
          have y0 := CELL.out 0 _ rfl
          clear hw7 b7 EX RX CX BX FX B6 hbte HBOX hbt hsz
          go_cut [87] from 55 to 241 (fun s87 wc => w7 = wc ∧ ∃ t, s87 = .bool t ∧ (t = false → 6 ≤ D → D ≤ 8 → ∃ (i : Nat) (s : Sc), G[i]? = some s ∧ s.w = av))
          case first =>
            have hTH := there_any E7.out.env av (by rw [← HQ.out]; omega)
            by_cases d1 : 6 ≤ D
            · by_cases d2 : D ≤ 8
              · go_wp2_with fail
                refine hTH.mono ?_
                rintro e w8 ⟨tb, rfl, rfl, htb⟩
                clear hTH
                cases tb
                · go_wp2_with fail
                  go_meet
                  case rel => exact ⟨rfl, true, rfl, fun h => by cases h⟩
                · have HH2 := Lib.hid (htb rfl)
                  clear htb
                  go_wp2_with fail
                  go_meet
                  case rel => exact ⟨rfl, false, rfl, fun _ _ _ => HH2.out⟩
              · clear hTH
                go_wp2_with fail
                go_meet
                case rel => exact ⟨rfl, false, rfl, fun _ _ h => by omega⟩
            · clear hTH
              go_wp2_with fail
              go_meet
              case rel => exact ⟨rfl, false, rfl, fun _ h _ => by omega⟩
          case rest =>
            obtain ⟨rfl, tb, rfl, htb⟩ := hcut
            cases tb
            · have HTB := Lib.hid (htb rfl)
              clear htb
              go_upto_block 2 with fail
              go_cut [14] from 55 to 241 (fun s14 wc => ∃ (e : Nat) (G' : List Sc) (M' : Hp), s14 = .int .i64 e ∧ Both 75 hb W.heap.size wc (.slice ua q uc) (.slice na q nc) G' vs ∧ Rep hb M' wc ∧ Below W.heap.size W wc ∧ M'.limit = l ∧ w7.heap.size ≤ wc.heap.size ∧
                ((e ≠ 0 ∧ Ths M' G' ∧ G'.length = q) ∨ (e = 0 ∧ G' = G ∧ ∃ (v : Nat) (K' : Int) (a : Option Addr) (ws : List Nat) (cp : Nat), wc.heap[bt]? = some (.cells #[.int .u64 (v : Nat), .int .i64 K', .slice a ws.length cp] 75 (0, 0)) ∧ SlWords wc (.slice a ws.length cp) ws ∧
                  Ths M' (G ++ [⟨v, K', ws⟩]) ∧ (∀ (i : Nat) (s : Sc), G[i]? = some s → s.w ≠ v))))
              case first =>
                have hcase : D = 0 ∨ D = 1 ∨ D = 2 ∨ D = 6 ∨ D = 7 ∨ D = 8 ∨ (D ≠ 0 ∧ D ≠ 1 ∧ D ≠ 2 ∧ D ≠ 6 ∧ D ≠ 7 ∧ D ≠ 8) := by omega
                rcases hcase with rfl | rfl | rfl | rfl | rfl | rfl | ⟨hd0, hd1, hd2, hd6, hd7, hd8⟩
                · as_aux_lemma =>
                  obtain ⟨v, en, M', htw⟩ : ∃ v en M', M.two 0 av bv = (v, en, M') := ⟨_, _, _, rfl⟩
                  have hC := cons_any R7.out av bv AV.out BV.out htw
                  have HTW := Lib.hid htw
                  clear htw
                  go_wp2_with fail
                  refine hC.mono ?_
                  rintro e w8 ⟨rfl, r8, m8⟩
                  have hb8 : w8.heap[bt]? = some (.cells #[.int .u64 0, .int .i64 0, .slice none 0 0] 75 (0, 0)) := (m8.block bt hs7 FT.out.hb').trans HBT.out
                  have f0 : w8.frozen? ⟨bt, 0, none⟩ = false := by simp [World.frozen?, hb8]
                  have c0 : w8.cell? ⟨bt, 0, none⟩ = some (.int .u64 0) := by simp [World.cell?, hb8]
                  have hsz8 : bt < w8.heap.size := Nat.lt_of_lt_of_le hs7 m8.size
                  have h2 : ((w8.setCell ⟨bt, 0, none⟩ (.int .u64 (v : Nat))).alloc (.cells #[.int .u64 (av : Nat), .int .u64 (bv : Nat)] 29)).heap[bt]? = some (.cells #[.int .u64 (v : Nat), .int .i64 0, .slice none 0 0] 75 (0, 0)) := (heap_alloc_old _ _ (by simpa [World.setCell] using hsz8)).trans (by simp only [World.setCell, Array.getElem?_modify, hb8]; simp)
                  have c2 : ((w8.setCell ⟨bt, 0, none⟩ (.int .u64 (v : Nat))).alloc (.cells #[.int .u64 (av : Nat), .int .u64 (bv : Nat)] 29)).cell? ⟨bt, 2, none⟩ = some (.slice none 0 0) := by simp [World.cell?, h2]
                  have f2 : ((w8.setCell ⟨bt, 0, none⟩ (.int .u64 (v : Nat))).alloc (.cells #[.int .u64 (av : Nat), .int .u64 (bv : Nat)] 29)).frozen? ⟨bt, 2, none⟩ = false := by simp [World.frozen?, h2]
                  have B8 : Below W.heap.size W w8 := m8.below_of B7.out HH.out
                  have KK := Lib.hid (two_end (e := 29) (E7.out.moves m8) r8 B8 B8.size (FT.out.size m8.size) hb8 v av bv)
                  have OO := Lib.hid r8.ok
                  have HSS := Lib.hid m8.size
                  clear hC r8 m8 hb8 h2 B8 hsz8
                  go_wp2_with fail
                  go_meet
                  case rel =>
                    obtain ⟨k1, k2, k3, k4, k5, k6⟩ := KK.out
                    by_cases he : en = 0
                    · subst he
                      obtain ⟨t1, t2, t3, t4⟩ := TT.out.two R7.out.ok OO.out (by omega) AV.out BV.out HTW.out
                      exact ⟨0, G, M', rfl, k1, k2, k3, by rw [t4.1]; exact hlm, Nat.le_trans HSS.out k4, .inr ⟨rfl, rfl, v, 0, _, [av, bv], 2, k5, k6, t1, t2⟩⟩
                    · have hM := Hp.two_no HTW.out he
                      exact ⟨en, G, M', rfl, k1, k2, k3, by rw [hM]; exact hlm, Nat.le_trans HSS.out k4, .inl ⟨he, by rw [hM]; exact TT.out, HQ.out.symm⟩⟩
                · as_aux_lemma =>
                  obtain ⟨v, en, M', htw⟩ : ∃ v en M', M.two 1 av bv = (v, en, M') := ⟨_, _, _, rfl⟩
                  have hC := weak_any R7.out av bv AV.out BV.out htw
                  have HTW := Lib.hid htw
                  clear htw
                  go_wp2_with fail
                  refine hC.mono ?_
                  rintro e w8 ⟨rfl, r8, m8⟩
                  have hb8 : w8.heap[bt]? = some (.cells #[.int .u64 0, .int .i64 0, .slice none 0 0] 75 (0, 0)) := (m8.block bt hs7 FT.out.hb').trans HBT.out
                  have f0 : w8.frozen? ⟨bt, 0, none⟩ = false := by simp [World.frozen?, hb8]
                  have c0 : w8.cell? ⟨bt, 0, none⟩ = some (.int .u64 0) := by simp [World.cell?, hb8]
                  have hsz8 : bt < w8.heap.size := Nat.lt_of_lt_of_le hs7 m8.size
                  have h2 : ((w8.setCell ⟨bt, 0, none⟩ (.int .u64 (v : Nat))).alloc (.cells #[.int .u64 (av : Nat), .int .u64 (bv : Nat)] 29)).heap[bt]? = some (.cells #[.int .u64 (v : Nat), .int .i64 0, .slice none 0 0] 75 (0, 0)) := (heap_alloc_old _ _ (by simpa [World.setCell] using hsz8)).trans (by simp only [World.setCell, Array.getElem?_modify, hb8]; simp)
                  have c2 : ((w8.setCell ⟨bt, 0, none⟩ (.int .u64 (v : Nat))).alloc (.cells #[.int .u64 (av : Nat), .int .u64 (bv : Nat)] 29)).cell? ⟨bt, 2, none⟩ = some (.slice none 0 0) := by simp [World.cell?, h2]
                  have f2 : ((w8.setCell ⟨bt, 0, none⟩ (.int .u64 (v : Nat))).alloc (.cells #[.int .u64 (av : Nat), .int .u64 (bv : Nat)] 29)).frozen? ⟨bt, 2, none⟩ = false := by simp [World.frozen?, h2]
                  have B8 : Below W.heap.size W w8 := m8.below_of B7.out HH.out
                  have KK := Lib.hid (two_end (e := 29) (E7.out.moves m8) r8 B8 B8.size (FT.out.size m8.size) hb8 v av bv)
                  have OO := Lib.hid r8.ok
                  have HSS := Lib.hid m8.size
                  clear hC r8 m8 hb8 h2 B8 hsz8
                  go_wp2_with fail
                  go_meet
                  case rel =>
                    obtain ⟨k1, k2, k3, k4, k5, k6⟩ := KK.out
                    by_cases he : en = 0
                    · subst he
                      obtain ⟨t1, t2, t3, t4⟩ := TT.out.two R7.out.ok OO.out (by omega) AV.out BV.out HTW.out
                      exact ⟨0, G, M', rfl, k1, k2, k3, by rw [t4.1]; exact hlm, Nat.le_trans HSS.out k4, .inr ⟨rfl, rfl, v, 0, _, [av, bv], 2, k5, k6, t1, t2⟩⟩
                    · have hM := Hp.two_no HTW.out he
                      exact ⟨en, G, M', rfl, k1, k2, k3, by rw [hM]; exact hlm, Nat.le_trans HSS.out k4, .inl ⟨he, by rw [hM]; exact TT.out, HQ.out.symm⟩⟩
                · as_aux_lemma =>
                  have y5 := CELL.out 5 _ rfl
                  have y7 := CELL.out 7 _ rfl
                  have y8 := CELL.out 8 _ rfl
                  have hW := awords_any cl CO.out.l CB.out.1 (.slice la ln lc) (.slice na q nc) (G.map Sc.w) w7.drew C7.out E7.out.row.sl (by rw [List.length_map, ← HQ.out]; omega)
                  have HW := Lib.hid hW
                  have hlb : bx < w7.heap.size := F7.out.lt
                  clear hW
                  have hnb : bx ≠ bt := Nat.ne_of_lt hne
                  go_upto_region 24 with fail
                  go_region_held3 (fun W' => W'.cell? ⟨bx, 5, none⟩ = some (.int .i64 K) ∧ W'.cell? ⟨bx, 8, none⟩ = some (.slice la ln lc)) (first | go_keep | (refine ⟨?_, ?_⟩ <;> (simp only [cell_set_other hnb]; assumption)))
                    (first
                      | (go_at_call 32
                         refine HW.out.mono ?_
                         rintro e w8 ⟨lw, rfl, ho, hg, b8⟩
                         have y5 := (b8.cell (p := ⟨bx, 5, none⟩) hlb).trans y5
                         have y8 := (b8.cell (p := ⟨bx, 8, none⟩) hlb).trans y8
                         have hb8 : w8.heap[bt]? = some (.cells #[.int .u64 0, .int .i64 0, .slice none 0 0] 75 (0, 0)) := (b8.block bt hs7).trans HBT.out
                         obtain ⟨lwa, lwc, rfl⟩ := ho.slice'
                         have g1 : w8.cell? ⟨bt, 1, none⟩ = some (.int .i64 0) := by simp [World.cell?, hb8]
                         have g2 : w8.frozen? ⟨bt, 1, none⟩ = false := by simp [World.frozen?, hb8]
                         have h9 : (w8.setCell ⟨bt, 1, none⟩ (.int .i64 K)).heap[bt]? = some (.cells #[.int .u64 0, .int .i64 K, .slice none 0 0] 75 (0, 0)) := by simp only [World.setCell, Array.getElem?_modify, hb8]; simp
                         have g3 : (w8.setCell ⟨bt, 1, none⟩ (.int .i64 K)).cell? ⟨bt, 2, none⟩ = some (.slice none 0 0) := by simp [World.cell?, h9]
                         have g4 : (w8.setCell ⟨bt, 1, none⟩ (.int .i64 K)).frozen? ⟨bt, 2, none⟩ = false := by simp [World.frozen?, h9]))
                  -- behind the region
                  have hlt8 : bt < w8.heap.size := Nat.lt_of_lt_of_le hs7 b8.size
                  have b8x : Below w7.heap.size w7 w8 := ⟨b8.os, b8.tape, b8.output, b8.size, b8.block⟩
                  have F8 := FT.out.size b8x.size
                  have hown : OwnW w8 (.slice lwa (cl.map (awd (G.map Sc.w))).length lwc) (cl.map (awd (G.map Sc.w))) := ho
                  obtain ⟨wz, hwz⟩ : ∃ wz, wz = (w8.setCell ⟨bt, 1, none⟩ (.int .i64 K)).setCell ⟨bt, 2, none⟩ (.slice lwa (cl.map (awd (G.map Sc.w))).length lwc) := ⟨_, rfl⟩
                  have hbz : wz.heap[bt]? = some (.cells #[.int .u64 0, .int .i64 K, .slice lwa (cl.map (awd (G.map Sc.w))).length lwc] 75 (0, 0)) := by
                    rw [hwz]; simp only [World.setCell, Array.getElem?_modify] at h9 ⊢; rw [h9]; simp
                  have Ez : Both 75 hb W.heap.size wz (.slice ua q uc) (.slice na q nc) G vs := by rw [hwz]; exact ((E7.out.below b8x).box F8 _).box (F8.size (by simp [World.setCell])) _
                  have Rz : Rep hb M wz := by rw [hwz]; exact ((R7.out.below b8x).other F8.hb' _).other F8.hb' _
                  have Bz : Below W.heap.size W wz := by rw [hwz]; exact ((B7.out.trans (b8x.mono B7.out.size)).setCell (p := ⟨bt, 1, none⟩) F8.lo' _).setCell (p := ⟨bt, 2, none⟩) F8.lo' _
                  have Oz : OwnW wz (.slice lwa (cl.map (awd (G.map Sc.w))).length lwc) (cl.map (awd (G.map Sc.w))) := by
                    rw [hwz]
                    refine ownW_block (ownW_block hown fun x hx => Below.heap_setCell _ _ _ _ ?_) fun x hx => Below.heap_setCell _ _ _ _ ?_
                    · have := hg x hx; simp at this; show x ≠ bt; omega
                    · have := hg x hx; simp at this; show x ≠ bt; omega
                  rw [List.length_map] at hwz hbz Oz
                  rw [← hwz]
                  have u5 : wz.cell? ⟨bx, 5, none⟩ = some (.int .i64 K) := by rw [hwz, cell_set_other hnb, cell_set_other hnb]; exact (b8x.cell (p := ⟨bx, 5, none⟩) hlb).trans (CELL.out 5 _ rfl)
                  have u7 : wz.cell? ⟨bx, 7, none⟩ = some (.int .u64 mo) := by rw [hwz, cell_set_other hnb, cell_set_other hnb]; exact (b8x.cell (p := ⟨bx, 7, none⟩) hlb).trans (CELL.out 7 _ rfl)
                  have v2 : wz.cell? ⟨bt, 2, none⟩ = some (.slice lwa cl.length lwc) := by simp [World.cell?, hbz]
                  have hwl : ∀ x ∈ cl.map (awd (G.map Sc.w)), x < 18446744073709551616 := fun x hx => by obtain ⟨y, hy, rfl⟩ := List.mem_map.1 hx; exact awd_lt (CO.out.l y hy) HWS.out
                  obtain ⟨x9, en, M', hMk, hno, hyes⟩ := make_all Rz K mo CO.out.more _ _ (by have := Oz.sl; exact this) hwl
                  have HNO := Lib.hid hno
                  have HYES := Lib.hid hyes
                  have HBZ := Lib.hid hbz
                  have EZ := Lib.hid Ez
                  have RZ := Lib.hid Rz
                  have BZ := Lib.hid Bz
                  have OZ := Lib.hid Oz
                  have FZ : Hid (Free hb W.heap.size bt wz (.slice ua q uc) (.slice na q nc) vs) := Lib.hid (F8.size (by rw [hwz]; simp [World.setCell]))
                  have ZZ : Hid (w7.heap.size ≤ wz.heap.size) := Lib.hid (by rw [hwz]; simpa [World.setCell] using b8x.size)
                  have HG : Hid (∀ k, (Value.slice lwa cl.length lwc).ownBlock = some k → w7.heap.size ≤ k) := Lib.hid (by intro k hk; rw [← List.length_map (f := awd (G.map Sc.w))] at hk; have := hg k hk; simpa using this)
                  have HWL := Lib.hid hwl
                  clear hno hyes hbz Ez Rz Bz Oz F8 hwz b8x b8 ho hg hown h9 g1 g2 g3 g4 hb8 hlt8 hwl y5 y8 HW
                  go_wp2_with fail
                  refine hMk.mono ?_
                  rintro e wm ⟨rfl, rm, mm⟩
                  have hbm := (mm.block bt FZ.out.lt FZ.out.hb').trans HBZ.out
                  have f0 : wm.frozen? ⟨bt, 0, none⟩ = false := by simp [World.frozen?, hbm]
                  have c0 : wm.cell? ⟨bt, 0, none⟩ = some (.int .u64 0) := by simp [World.cell?, hbm]
                  have Om : OwnW wm (.slice lwa cl.length lwc) (cl.map (awd (G.map Sc.w))) := ownW_block OZ.out fun x hx => mm.block x (OZ.out.lt x hx).2 (fun hc => by have h1 := HG.out x hx; have h2 := R7.out.lt x hc; omega)
                  have KK := Lib.hid (one_end (EZ.out.moves mm) rm (mm.below_of BZ.out HH.out) (FZ.out.size mm.size) hbm Om (fun x hx e => by have h1 := HG.out x hx; omega) x9)
                  have OO := Lib.hid rm.ok
                  have HSS : Hid (w7.heap.size ≤ wm.heap.size) := Lib.hid (Nat.le_trans ZZ.out mm.size)
                  clear hMk rm mm hbm Om u5 u7 v2
                  go_wp2_with fail
                  go_meet
                  case rel =>
                    obtain ⟨k1, k2, k3, k4, k5, k6⟩ := KK.out
                    by_cases he : en = 0
                    · subst he
                      obtain ⟨k', m', hk', j1, j2, j3, hmk⟩ := HYES.out rfl
                      obtain ⟨t1, t2, t3, t4⟩ := TT.out.make R7.out.ok OO.out j1 j2 j3 HWL.out hmk
                      rw [← hk'] at t1
                      rw [← List.length_map (f := awd (G.map Sc.w))] at k5 k6
                      exact ⟨0, G, M', rfl, k1, k2, k3, by rw [t4.1]; exact hlm, Nat.le_trans HSS.out k4, .inr ⟨rfl, rfl, x9, K, lwa, cl.map (awd (G.map Sc.w)), lwc, k5, k6, t1, t2⟩⟩
                    · have hM := HNO.out he
                      exact ⟨en, G, M', rfl, k1, k2, k3, by rw [hM]; exact hlm, Nat.le_trans HSS.out k4, .inl ⟨he, by rw [hM]; exact TT.out, HQ.out.symm⟩⟩
                · as_aux_lemma =>
                  obtain ⟨i, s, hs, hsw⟩ := HTB.out (by omega) (by omega)
                  have hiq : i < q := by rw [HQ.out]; exact (List.getElem?_eq_some_iff.1 hs).1
                  have hh := TT.out.setH R7.out.ok i 0 bv s hs (by omega) BV.out
                  rw [hsw] at hh
                  have HS := Lib.hid hs
                  have HSW := Lib.hid hsw
                  clear hs hsw
                  rcases hh with ⟨hp, hl, M', hset, hT2, hlim⟩ | ⟨hp, hset⟩
                  · as_aux_lemma =>
                    have hC := sethalf_any R7.out 6 (.inl rfl) av bv AV.out BV.out (e := 0) (M' := M') hset
                    have HT2 := Lib.hid hT2
                    have HLM := Lib.hid hlim
                    have HLL := Lib.hid hl
                    clear hset hT2 hlim hp hl
                    go_wp2_with fail
                    refine hC.mono ?_
                    rintro e w8 ⟨rfl, r8, m8⟩
                    have E8 := Lib.hid (E7.out.moves m8)
                    have R8 := Lib.hid r8
                    have B8 : Hid (Below W.heap.size W w8) := Lib.hid (m8.below_of B7.out HH.out)
                    have Z8 := Lib.hid m8.size
                    have x0 := (m8.cell (p := ⟨bx, 0, none⟩) F7.out.lt F7.out.hb').trans y0
                    clear hC r8 m8 y0
                    go_wp2_with fail
                    go_loopw [16] (fun jv wl => ∃ j : Nat, j ≤ q ∧ jv = .int .i64 j ∧ Both 75 hb W.heap.size wl (.slice ua q uc) (.slice na q nc) (if j ≤ i then G else Scs.setL G i 0 bv) vs ∧ Rep hb M' wl ∧ Below W.heap.size W wl ∧ w7.heap.size ≤ wl.heap.size ∧ wl.cell? ⟨bx, 0, none⟩ = some (.int .i64 6)) (fun jv _ => q - (intOf jv).toNat)
                    case atStart => exact ⟨0, Nat.zero_le _, rfl, by rw [if_pos (Nat.zero_le _)]; exact E8.out, R8.out, B8.out, Z8.out, x0⟩
                    case round =>
                      obtain ⟨j, hj, rfl, hE9, hR9, hB9, hZ9, x0⟩ := hrel
                      have R9 := Lib.hid hR9
                      have B9 := Lib.hid hB9
                      have Z9 := Lib.hid hZ9
                      clear hR9 hB9 hZ9 E8 R8 B8 Z8
                      have hG2 : (if j ≤ i then G else Scs.setL G i 0 bv).length = q := by
                        split
                        · exact HQ.out.symm
                        · unfold Scs.setL; rw [List.length_modify]; exact HQ.out.symm
                      by_cases hjq : j < q
                      · by_cases hji : j = i
                        · subst hji
                          rw [if_pos (Nat.le_refl _)] at hE9
                          obtain ⟨g, cp, e, hg, hcs⟩ := hE9.env.form (by rw [← HQ.out]; omega)
                          rw [← HQ.out] at e
                          obtain ⟨rfl, rfl⟩ : ua = some ⟨g, 0, none⟩ ∧ uc = cp := by
                            simp only [Value.slice.injEq] at e
                            exact ⟨e.1, e.2.2⟩
                          obtain ⟨sa, scp, z0, z1, z2, z3⟩ := hcs j s HS.out
                          obtain ⟨g2, rfl, k2, k3, k4, ⟨kx, k5⟩, k6, k7⟩ := hE9.put j 0 bv s sa scp HS.out z3 (by rw [HLL.out]; omega)
                          rw [HSW.out] at z0
                          have hbg : bx ≠ g2 := fun e => F7.out.vs' j _ z3 (by rw [e]; rfl)
                          have hq1 : (((av : Nat) : Int) == av) = true := by simp
                          have hmx : decide ((0 : Nat) < s.l.length) = true := decide_eq_true (by rw [HLL.out]; omega)
                          have hlenl : 0 < s.l.length := (by rw [HLL.out]; omega)
                          have K7 := Lib.hid k7
                          have K3 := Lib.hid k3
                          have K4 := Lib.hid k4
                          generalize hsl5 : s.l.length = sl5 at *
                          clear e hcs z1 z3 k2 k3 k4 k7 hE9 hG2
                          go_wp2_with fail
                          go_still_tail 9, (by kernel_rfl)
                          change wpList _ _ _ _ _ wr.drew
                          go_wp2_with fail
                          go_roundw
                          case rel =>
                            refine ⟨j + 1, by omega, by go_num, ?_, (R9.out.drewN 1).other K3.out _, (bdn (n := 1) B9.out).setCell (p := ⟨g2, 0, none⟩) K4.out _, Nat.le_trans Z9.out (by simp [World.setCell]), ?_⟩
                            · rw [if_neg (by omega)]
                              exact K7.out.keep fun _ _ _ _ => rfl
                            · refine (World.cell?_of_block (w := wr) (a := ⟨bx, 0, none⟩) (Below.heap_setCell _ _ _ _ (show bx ≠ g2 from hbg))).trans x0
                          case measure => simp [intOf]; omega
                        · have hwne : ∀ s2 : Sc, (if j ≤ i then G else Scs.setL G i 0 bv)[j]? = some s2 → s2.w ≠ av := by
                            intro s2 h2 h3
                            have h4 : ∃ t, G[j]? = some t ∧ t.w = s2.w := by
                              split at h2
                              · exact ⟨s2, h2, rfl⟩
                              · rw [setL_get] at h2
                                cases h5 : G[j]? with
                                | none => rw [h5] at h2; cases h2
                                | some t =>
                                  rw [h5] at h2
                                  simp only [Option.map_some, Option.some.injEq] at h2
                                  refine ⟨t, rfl, ?_⟩
                                  rw [← h2]
                                  split <;> rfl
                            obtain ⟨t, h5, h6⟩ := h4
                            exact hji (TT.out.ne h5 HS.out (by rw [h6, h3, HSW.out]))
                          obtain ⟨g, cp, e, hg, hcs⟩ := hE9.env.form (by rw [hG2]; omega)
                          rw [hG2] at e
                          obtain ⟨rfl, rfl⟩ : ua = some ⟨g, 0, none⟩ ∧ uc = cp := by
                            simp only [Value.slice.injEq] at e
                            exact ⟨e.1, e.2.2⟩
                          obtain ⟨s2, hs2⟩ : ∃ s2, (if j ≤ i then G else Scs.setL G i 0 bv)[j]? = some s2 := ⟨_, List.getElem?_eq_getElem (by rw [hG2]; omega)⟩
                          obtain ⟨sa, scp, z0, z1, z2, z3⟩ := hcs j s2 hs2
                          have hn2 := hwne s2 hs2
                          have hq1 : (((s2.w : Nat) : Int) == av) = false := by rw [beq_eq_false_iff_ne]; omega
                          have hiff : (if j + 1 ≤ i then G else Scs.setL G i 0 bv) = (if j ≤ i then G else Scs.setL G i 0 bv) := by
                            by_cases h9 : j ≤ i
                            · rw [if_pos h9, if_pos (by omega)]
                            · rw [if_neg h9, if_neg (by omega)]
                          have E9 := Lib.hid hE9
                          have HIF := Lib.hid hiff
                          clear e hcs z1 z2 z3 hwne hs2 hn2 hE9 hG2 hiff
                          go_wp2_with fail
                          go_roundw
                          case rel => exact ⟨j + 1, by omega, by go_num, by rw [HIF.out]; exact E9.out, R9.out, B9.out, Z9.out, x0⟩
                          case measure => simp [intOf]; omega
                      · obtain rfl : j = q := by omega
                        rw [if_neg (by omega)] at hE9
                        have E9 := Lib.hid hE9
                        clear hE9 hG2
                        go_wp2_with fail
                        go_meet
                        case rel => exact ⟨1, Scs.setL G i 0 bv, M', rfl, E9.out, R9.out, B9.out, by rw [HLM.out]; exact hlm, Z9.out, .inl ⟨by omega, HT2.out R9.out.ok, by unfold Scs.setL; rw [List.length_modify]; exact HQ.out.symm⟩⟩
                  · as_aux_lemma =>
                    have hC := sethalf_any R7.out 6 (.inl rfl) av bv AV.out BV.out (e := 3) (M' := M) hset
                    clear hset hp
                    go_wp2_with fail
                    refine hC.mono ?_
                    rintro e w8 ⟨rfl, r8, m8⟩
                    have E8 := Lib.hid (E7.out.moves m8)
                    have R8 := Lib.hid r8
                    have B8 : Hid (Below W.heap.size W w8) := Lib.hid (m8.below_of B7.out HH.out)
                    have Z8 := Lib.hid m8.size
                    have x0 := (m8.cell (p := ⟨bx, 0, none⟩) F7.out.lt F7.out.hb').trans y0
                    clear hC r8 m8 y0
                    go_wp2_with fail
                    go_loopw [16] (fun jv wl => jv = .int .i64 0 ∧ wl = w8) (fun _ _ => 0)
                    case atStart => exact ⟨rfl, rfl⟩
                    case round =>
                      obtain ⟨rfl, rfl⟩ := hrel
                      have hq0 : 0 < q := by omega
                      go_wp2_with fail
                      go_meet
                      case rel => exact ⟨1, G, M, rfl, E8.out, R8.out, B8.out, hlm, Z8.out, .inl ⟨by omega, TT.out, HQ.out.symm⟩⟩
                · as_aux_lemma =>
                  obtain ⟨i, s, hs, hsw⟩ := HTB.out (by omega) (by omega)
                  have hiq : i < q := by rw [HQ.out]; exact (List.getElem?_eq_some_iff.1 hs).1
                  have hh := TT.out.setH R7.out.ok i 1 bv s hs (by omega) BV.out
                  rw [hsw] at hh
                  have HS := Lib.hid hs
                  have HSW := Lib.hid hsw
                  clear hs hsw
                  rcases hh with ⟨hp, hl, M', hset, hT2, hlim⟩ | ⟨hp, hset⟩
                  · as_aux_lemma =>
                    have hC := sethalf_any R7.out 7 (.inr rfl) av bv AV.out BV.out (e := 0) (M' := M') hset
                    have HT2 := Lib.hid hT2
                    have HLM := Lib.hid hlim
                    have HLL := Lib.hid hl
                    clear hset hT2 hlim hp hl
                    go_wp2_with fail
                    refine hC.mono ?_
                    rintro e w8 ⟨rfl, r8, m8⟩
                    have E8 := Lib.hid (E7.out.moves m8)
                    have R8 := Lib.hid r8
                    have B8 : Hid (Below W.heap.size W w8) := Lib.hid (m8.below_of B7.out HH.out)
                    have Z8 := Lib.hid m8.size
                    have x0 := (m8.cell (p := ⟨bx, 0, none⟩) F7.out.lt F7.out.hb').trans y0
                    clear hC r8 m8 y0
                    go_wp2_with fail
                    go_loopw [16] (fun jv wl => ∃ j : Nat, j ≤ q ∧ jv = .int .i64 j ∧ Both 75 hb W.heap.size wl (.slice ua q uc) (.slice na q nc) (if j ≤ i then G else Scs.setL G i 1 bv) vs ∧ Rep hb M' wl ∧ Below W.heap.size W wl ∧ w7.heap.size ≤ wl.heap.size ∧ wl.cell? ⟨bx, 0, none⟩ = some (.int .i64 7)) (fun jv _ => q - (intOf jv).toNat)
                    case atStart => exact ⟨0, Nat.zero_le _, rfl, by rw [if_pos (Nat.zero_le _)]; exact E8.out, R8.out, B8.out, Z8.out, x0⟩
                    case round =>
                      obtain ⟨j, hj, rfl, hE9, hR9, hB9, hZ9, x0⟩ := hrel
                      have R9 := Lib.hid hR9
                      have B9 := Lib.hid hB9
                      have Z9 := Lib.hid hZ9
                      clear hR9 hB9 hZ9 E8 R8 B8 Z8
                      have hG2 : (if j ≤ i then G else Scs.setL G i 1 bv).length = q := by
                        split
                        · exact HQ.out.symm
                        · unfold Scs.setL; rw [List.length_modify]; exact HQ.out.symm
                      by_cases hjq : j < q
                      · by_cases hji : j = i
                        · subst hji
                          rw [if_pos (Nat.le_refl _)] at hE9
                          obtain ⟨g, cp, e, hg, hcs⟩ := hE9.env.form (by rw [← HQ.out]; omega)
                          rw [← HQ.out] at e
                          obtain ⟨rfl, rfl⟩ : ua = some ⟨g, 0, none⟩ ∧ uc = cp := by
                            simp only [Value.slice.injEq] at e
                            exact ⟨e.1, e.2.2⟩
                          obtain ⟨sa, scp, z0, z1, z2, z3⟩ := hcs j s HS.out
                          obtain ⟨g2, rfl, k2, k3, k4, ⟨kx, k5⟩, k6, k7⟩ := hE9.put j 1 bv s sa scp HS.out z3 (by rw [HLL.out]; omega)
                          rw [HSW.out] at z0
                          have hbg : bx ≠ g2 := fun e => F7.out.vs' j _ z3 (by rw [e]; rfl)
                          have hq1 : (((av : Nat) : Int) == av) = true := by simp
                          have hmx : decide ((1 : Nat) < s.l.length) = true := decide_eq_true (by rw [HLL.out]; omega)
                          have hlenl : 1 < s.l.length := (by rw [HLL.out]; omega)
                          have K7 := Lib.hid k7
                          have K3 := Lib.hid k3
                          have K4 := Lib.hid k4
                          generalize hsl5 : s.l.length = sl5 at *
                          clear e hcs z1 z3 k2 k3 k4 k7 hE9 hG2
                          go_wp2_with fail
                          go_still_tail 9, (by kernel_rfl)
                          change wpList _ _ _ _ _ wr.drew
                          go_wp2_with fail
                          go_roundw
                          case rel =>
                            refine ⟨j + 1, by omega, by go_num, ?_, (R9.out.drewN 1).other K3.out _, (bdn (n := 1) B9.out).setCell (p := ⟨g2, 1, none⟩) K4.out _, Nat.le_trans Z9.out (by simp [World.setCell]), ?_⟩
                            · rw [if_neg (by omega)]
                              exact K7.out.keep fun _ _ _ _ => rfl
                            · refine (World.cell?_of_block (w := wr) (a := ⟨bx, 0, none⟩) (Below.heap_setCell _ _ _ _ (show bx ≠ g2 from hbg))).trans x0
                          case measure => simp [intOf]; omega
                        · have hwne : ∀ s2 : Sc, (if j ≤ i then G else Scs.setL G i 1 bv)[j]? = some s2 → s2.w ≠ av := by
                            intro s2 h2 h3
                            have h4 : ∃ t, G[j]? = some t ∧ t.w = s2.w := by
                              split at h2
                              · exact ⟨s2, h2, rfl⟩
                              · rw [setL_get] at h2
                                cases h5 : G[j]? with
                                | none => rw [h5] at h2; cases h2
                                | some t =>
                                  rw [h5] at h2
                                  simp only [Option.map_some, Option.some.injEq] at h2
                                  refine ⟨t, rfl, ?_⟩
                                  rw [← h2]
                                  split <;> rfl
                            obtain ⟨t, h5, h6⟩ := h4
                            exact hji (TT.out.ne h5 HS.out (by rw [h6, h3, HSW.out]))
                          obtain ⟨g, cp, e, hg, hcs⟩ := hE9.env.form (by rw [hG2]; omega)
                          rw [hG2] at e
                          obtain ⟨rfl, rfl⟩ : ua = some ⟨g, 0, none⟩ ∧ uc = cp := by
                            simp only [Value.slice.injEq] at e
                            exact ⟨e.1, e.2.2⟩
                          obtain ⟨s2, hs2⟩ : ∃ s2, (if j ≤ i then G else Scs.setL G i 1 bv)[j]? = some s2 := ⟨_, List.getElem?_eq_getElem (by rw [hG2]; omega)⟩
                          obtain ⟨sa, scp, z0, z1, z2, z3⟩ := hcs j s2 hs2
                          have hn2 := hwne s2 hs2
                          have hq1 : (((s2.w : Nat) : Int) == av) = false := by rw [beq_eq_false_iff_ne]; omega
                          have hiff : (if j + 1 ≤ i then G else Scs.setL G i 1 bv) = (if j ≤ i then G else Scs.setL G i 1 bv) := by
                            by_cases h9 : j ≤ i
                            · rw [if_pos h9, if_pos (by omega)]
                            · rw [if_neg h9, if_neg (by omega)]
                          have E9 := Lib.hid hE9
                          have HIF := Lib.hid hiff
                          clear e hcs z1 z2 z3 hwne hs2 hn2 hE9 hG2 hiff
                          go_wp2_with fail
                          go_roundw
                          case rel => exact ⟨j + 1, by omega, by go_num, by rw [HIF.out]; exact E9.out, R9.out, B9.out, Z9.out, x0⟩
                          case measure => simp [intOf]; omega
                      · obtain rfl : j = q := by omega
                        rw [if_neg (by omega)] at hE9
                        have E9 := Lib.hid hE9
                        clear hE9 hG2
                        go_wp2_with fail
                        go_meet
                        case rel => exact ⟨1, Scs.setL G i 1 bv, M', rfl, E9.out, R9.out, B9.out, by rw [HLM.out]; exact hlm, Z9.out, .inl ⟨by omega, HT2.out R9.out.ok, by unfold Scs.setL; rw [List.length_modify]; exact HQ.out.symm⟩⟩
                  · as_aux_lemma =>
                    have hC := sethalf_any R7.out 7 (.inr rfl) av bv AV.out BV.out (e := 3) (M' := M) hset
                    clear hset hp
                    go_wp2_with fail
                    refine hC.mono ?_
                    rintro e w8 ⟨rfl, r8, m8⟩
                    have E8 := Lib.hid (E7.out.moves m8)
                    have R8 := Lib.hid r8
                    have B8 : Hid (Below W.heap.size W w8) := Lib.hid (m8.below_of B7.out HH.out)
                    have Z8 := Lib.hid m8.size
                    have x0 := (m8.cell (p := ⟨bx, 0, none⟩) F7.out.lt F7.out.hb').trans y0
                    clear hC r8 m8 y0
                    go_wp2_with fail
                    go_loopw [16] (fun jv wl => jv = .int .i64 0 ∧ wl = w8) (fun _ _ => 0)
                    case atStart => exact ⟨rfl, rfl⟩
                    case round =>
                      obtain ⟨rfl, rfl⟩ := hrel
                      have hq0 : 0 < q := by omega
                      go_wp2_with fail
                      go_meet
                      case rel => exact ⟨1, G, M, rfl, E8.out, R8.out, B8.out, hlm, Z8.out, .inl ⟨by omega, TT.out, HQ.out.symm⟩⟩
                · as_aux_lemma =>
                  obtain ⟨i, s, hs, hsw⟩ := HTB.out (by omega) (by omega)
                  have hiq : i < q := by rw [HQ.out]; exact (List.getElem?_eq_some_iff.1 hs).1
                  have hh := TT.out.setR R7.out.ok i K I bv s hs BV.out
                  rw [hsw] at hh
                  have HS := Lib.hid hs
                  have HSW := Lib.hid hsw
                  have y5 := CELL.out 5 _ rfl
                  have y6 := CELL.out 6 _ rfl
                  clear hs hsw
                  rcases hh with ⟨hp, hp0, hi0, hi1, M', hset, hT2, hlim⟩ | ⟨en, hen, hset⟩
                  · as_aux_lemma =>
                    have hC := set_any R7.out av bv AV.out BV.out K I (e := 0) (M' := M') hset
                    obtain ⟨In, rfl⟩ := Int.eq_ofNat_of_zero_le hi0
                    rw [Int.toNat_natCast] at hT2
                    have HT2 := Lib.hid hT2
                    have HLM := Lib.hid hlim
                    have HLL : Hid (In < s.l.length) := Lib.hid (by omega)
                    clear hset hT2 hlim hp hp0 hi0 hi1
                    go_wp2_with fail
                    refine hC.mono ?_
                    rintro e w8 ⟨rfl, r8, m8⟩
                    have E8 := Lib.hid (E7.out.moves m8)
                    have R8 := Lib.hid r8
                    have B8 : Hid (Below W.heap.size W w8) := Lib.hid (m8.below_of B7.out HH.out)
                    have Z8 := Lib.hid m8.size
                    have x0 := (m8.cell (p := ⟨bx, 6, none⟩) F7.out.lt F7.out.hb').trans y6
                    clear hC r8 m8 y0 y5 y6
                    go_wp2_with fail
                    go_loopw [18] (fun jv wl => ∃ j : Nat, j ≤ q ∧ jv = .int .i64 j ∧ Both 75 hb W.heap.size wl (.slice ua q uc) (.slice na q nc) (if j ≤ i then G else Scs.setL G i In bv) vs ∧ Rep hb M' wl ∧ Below W.heap.size W wl ∧ w7.heap.size ≤ wl.heap.size ∧ wl.cell? ⟨bx, 6, none⟩ = some (.int .i64 In)) (fun jv _ => q - (intOf jv).toNat)
                    case atStart => exact ⟨0, Nat.zero_le _, rfl, by rw [if_pos (Nat.zero_le _)]; exact E8.out, R8.out, B8.out, Z8.out, x0⟩
                    case round =>
                      obtain ⟨j, hj, rfl, hE9, hR9, hB9, hZ9, x0⟩ := hrel
                      have R9 := Lib.hid hR9
                      have B9 := Lib.hid hB9
                      have Z9 := Lib.hid hZ9
                      clear hR9 hB9 hZ9 E8 R8 B8 Z8
                      have hG2 : (if j ≤ i then G else Scs.setL G i In bv).length = q := by
                        split
                        · exact HQ.out.symm
                        · unfold Scs.setL; rw [List.length_modify]; exact HQ.out.symm
                      by_cases hjq : j < q
                      · by_cases hji : j = i
                        · subst hji
                          rw [if_pos (Nat.le_refl _)] at hE9
                          obtain ⟨g, cp, e, hg, hcs⟩ := hE9.env.form (by rw [← HQ.out]; omega)
                          rw [← HQ.out] at e
                          obtain ⟨rfl, rfl⟩ : ua = some ⟨g, 0, none⟩ ∧ uc = cp := by
                            simp only [Value.slice.injEq] at e
                            exact ⟨e.1, e.2.2⟩
                          obtain ⟨sa, scp, z0, z1, z2, z3⟩ := hcs j s HS.out
                          obtain ⟨g2, rfl, k2, k3, k4, ⟨kx, k5⟩, k6, k7⟩ := hE9.put j In bv s sa scp HS.out z3 HLL.out
                          rw [HSW.out] at z0
                          have hbg : bx ≠ g2 := fun e => F7.out.vs' j _ z3 (by rw [e]; rfl)
                          have hq1 : (((av : Nat) : Int) == av) = true := by simp
                          have hmx : decide ((In : Nat) < s.l.length) = true := decide_eq_true HLL.out
                          have hlenl : In < s.l.length := HLL.out
                          have K7 := Lib.hid k7
                          have K3 := Lib.hid k3
                          have K4 := Lib.hid k4
                          generalize hsl5 : s.l.length = sl5 at *
                          clear e hcs z1 z3 k2 k3 k4 k7 hE9 hG2
                          go_wp2_with fail
                          go_still_tail 9, (by kernel_rfl)
                          change wpList _ _ _ _ _ wr.drew
                          go_wp2_with fail
                          go_roundw
                          case rel =>
                            refine ⟨j + 1, by omega, by go_num, ?_, (R9.out.drewN 1).other K3.out _, (bdn (n := 1) B9.out).setCell (p := ⟨g2, In, none⟩) K4.out _, Nat.le_trans Z9.out (by simp [World.setCell]), ?_⟩
                            · rw [if_neg (by omega)]
                              exact K7.out.keep fun _ _ _ _ => rfl
                            · refine (World.cell?_of_block (w := wr) (a := ⟨bx, 6, none⟩) (Below.heap_setCell _ _ _ _ (show bx ≠ g2 from hbg))).trans x0
                          case measure => simp [intOf]; omega
                        · have hwne : ∀ s2 : Sc, (if j ≤ i then G else Scs.setL G i In bv)[j]? = some s2 → s2.w ≠ av := by
                            intro s2 h2 h3
                            have h4 : ∃ t, G[j]? = some t ∧ t.w = s2.w := by
                              split at h2
                              · exact ⟨s2, h2, rfl⟩
                              · rw [setL_get] at h2
                                cases h5 : G[j]? with
                                | none => rw [h5] at h2; cases h2
                                | some t =>
                                  rw [h5] at h2
                                  simp only [Option.map_some, Option.some.injEq] at h2
                                  refine ⟨t, rfl, ?_⟩
                                  rw [← h2]
                                  split <;> rfl
                            obtain ⟨t, h5, h6⟩ := h4
                            exact hji (TT.out.ne h5 HS.out (by rw [h6, h3, HSW.out]))
                          obtain ⟨g, cp, e, hg, hcs⟩ := hE9.env.form (by rw [hG2]; omega)
                          rw [hG2] at e
                          obtain ⟨rfl, rfl⟩ : ua = some ⟨g, 0, none⟩ ∧ uc = cp := by
                            simp only [Value.slice.injEq] at e
                            exact ⟨e.1, e.2.2⟩
                          obtain ⟨s2, hs2⟩ : ∃ s2, (if j ≤ i then G else Scs.setL G i In bv)[j]? = some s2 := ⟨_, List.getElem?_eq_getElem (by rw [hG2]; omega)⟩
                          obtain ⟨sa, scp, z0, z1, z2, z3⟩ := hcs j s2 hs2
                          have hn2 := hwne s2 hs2
                          have hq1 : (((s2.w : Nat) : Int) == av) = false := by rw [beq_eq_false_iff_ne]; omega
                          have hiff : (if j + 1 ≤ i then G else Scs.setL G i In bv) = (if j ≤ i then G else Scs.setL G i In bv) := by
                            by_cases h9 : j ≤ i
                            · rw [if_pos h9, if_pos (by omega)]
                            · rw [if_neg h9, if_neg (by omega)]
                          have E9 := Lib.hid hE9
                          have HIF := Lib.hid hiff
                          clear e hcs z1 z2 z3 hwne hs2 hn2 hE9 hG2 hiff
                          go_wp2_with fail
                          go_roundw
                          case rel => exact ⟨j + 1, by omega, by go_num, by rw [HIF.out]; exact E9.out, R9.out, B9.out, Z9.out, x0⟩
                          case measure => simp [intOf]; omega
                      · obtain rfl : j = q := by omega
                        rw [if_neg (by omega)] at hE9
                        have E9 := Lib.hid hE9
                        clear hE9 hG2
                        go_wp2_with fail
                        go_meet
                        case rel => exact ⟨1, Scs.setL G i In bv, M', rfl, E9.out, R9.out, B9.out, by rw [HLM.out]; exact hlm, Z9.out, .inl ⟨by omega, HT2.out R9.out.ok, by unfold Scs.setL; rw [List.length_modify]; exact HQ.out.symm⟩⟩
                  · as_aux_lemma =>
                    have hC := set_any R7.out av bv AV.out BV.out K I (e := en) (M' := M) hset
                    have hb0 : ((en : Int) == 0) = false := by rw [beq_eq_false_iff_ne]; omega
                    clear hset
                    go_wp2_with fail
                    refine hC.mono ?_
                    rintro e w8 ⟨rfl, r8, m8⟩
                    have E8 := Lib.hid (E7.out.moves m8)
                    have R8 := Lib.hid r8
                    have B8 : Hid (Below W.heap.size W w8) := Lib.hid (m8.below_of B7.out HH.out)
                    have Z8 := Lib.hid m8.size
                    clear hC r8 m8 y0 y5 y6
                    go_wp2_with fail
                    go_loopw [18] (fun jv wl => jv = .int .i64 0 ∧ wl = w8) (fun _ _ => 0)
                    case atStart => exact ⟨rfl, rfl⟩
                    case round =>
                      obtain ⟨rfl, rfl⟩ := hrel
                      have hq0 : 0 < q := by omega
                      go_wp2_with fail
                      go_meet
                      case rel => exact ⟨1, G, M, rfl, E8.out, R8.out, B8.out, hlm, Z8.out, .inl ⟨by omega, TT.out, HQ.out.symm⟩⟩
                · as_aux_lemma =>
                  have t0 : (D == 0) = false := by rw [beq_eq_false_iff_ne]; exact hd0
                  have t1 : (D == 1) = false := by rw [beq_eq_false_iff_ne]; exact hd1
                  have t2 : (D == 2) = false := by rw [beq_eq_false_iff_ne]; exact hd2
                  have t6 : (D == 6) = false := by rw [beq_eq_false_iff_ne]; exact hd6
                  have t7 : (D == 7) = false := by rw [beq_eq_false_iff_ne]; exact hd7
                  have t8 : (D == 8) = false := by rw [beq_eq_false_iff_ne]; exact hd8
                  go_wp2_with fail
                  go_meet
                  case rel => exact ⟨1, G, M, rfl, E7.out, R7.out, B7.out, hlm, Nat.le_refl _, .inl ⟨by omega, TT.out, HQ.out.symm⟩⟩
              case rest =>
                obtain ⟨en, G', M', rfl, hE8, hR8, hB8, hl8, hs8, hres⟩ := hcut
                have E8 := Lib.hid hE8
                have R8 := Lib.hid hR8
                have B8 := Lib.hid hB8
                have L8 := Lib.hid hl8
                clear hE8 hR8 hB8 hl8 E7 R7 B7 C7 y0 CELL HBT
                rcases hres with ⟨hen, hT8, hq8⟩ | ⟨rfl, rfl, v, K', ra, ws, rc, hbk, hSW, hT8, hnew⟩
                · as_aux_lemma =>
                  have hb0 : ((en : Int) == 0) = false := by rw [beq_eq_false_iff_ne]; omega
                  have T8 := Lib.hid hT8
                  clear hT8
                  go_wp2_with fail
                  go_roundw
                  case rel => exact ⟨k + 1, G', vs, M', by omega, by go_num, by omega, E8.out, R8.out, T8.out, L8.out, B8.out⟩
                  case measure => simp [intOf]; omega
                · as_aux_lemma =>
                  obtain ⟨r, hr⟩ : ∃ r, r = ws.length := ⟨_, rfl⟩
                  rw [← hr] at hbk hSW
                  have HR := Lib.hid hr
                  have BK := Lib.hid hbk
                  have SW := Lib.hid hSW
                  have T8 := Lib.hid hT8
                  have NEW := Lib.hid hnew
                  have FT8 := Lib.hid (FT.out.size hs8)
                  have r62 : r ≤ 62 := by rw [hr]; exact (hT8.small G'.length ⟨v, K', ws⟩ (by simp)).1
                  clear hr hbk hSW hT8 hnew FT
                  obtain ⟨w8, hw8⟩ : ∃ w8, w8 = wc := ⟨_, rfl⟩
                  rw [← hw8]
                  subst hw8
                  go_wp2_with fail
                  go_loopw [19] (fun jv wl => ∃ (j : Nat), j ≤ q ∧ jv = .int .i64 j ∧ wl.heap = w8.heap ∧ Below w8.heap.size w8 wl) (fun jv _ => q - (intOf jv).toNat)
                  case atStart => exact ⟨0, Nat.zero_le _, rfl, rfl, Below.refl _ _⟩
                  case round =>
                    obtain ⟨j, hj, rfl, hheap, hBl⟩ := hrel
                    have hbl9 : wr.heap[bt]? = some (.cells #[.int .u64 (v : Nat), .int .i64 K', .slice ra r rc] 75 (0, 0)) := by rw [hheap]; exact BK.out
                    have E9 := Lib.hid (E8.out.below hBl)
                    have HHP := Lib.hid hheap
                    have BL := Lib.hid hBl
                    by_cases hjq : j < q
                    · as_aux_lemma =>
                      obtain ⟨g, cp, e, hg, hcs⟩ := E9.out.env.form (by rw [← HQ.out]; omega)
                      rw [← HQ.out] at e
                      obtain ⟨rfl, rfl⟩ : ua = some ⟨g, 0, none⟩ ∧ uc = cp := by
                        simp only [Value.slice.injEq] at e
                        exact ⟨e.1, e.2.2⟩
                      obtain ⟨s, hs⟩ : ∃ s, G'[j]? = some s := ⟨_, List.getElem?_eq_getElem (by rw [← HQ.out]; omega)⟩
                      obtain ⟨sa, scp, z0, _, _, _⟩ := hcs j s hs
                      have z1 : wr.cell? ⟨bt, 0, none⟩ = some (.int .u64 (v : Nat)) := by simp [World.cell?, hbl9]
                      have hne2 := NEW.out j s hs
                      have hq0 : (((s.w : Nat) : Int) == (v : Int)) = false := by rw [beq_eq_false_iff_ne]; omega
                      clear e hcs hs hne2 hheap hBl hbl9 E8 R8 B8
                      go_wp2_with fail
                      go_quiet (fail)
                      go_wp2_with fail
                      go_roundw
                      case rel => exact ⟨j + 1, by omega, by go_num, HHP.out, ⟨BL.out.os, BL.out.tape, BL.out.output, BL.out.size, BL.out.block⟩⟩
                      case measure => simp [intOf]; omega
                    · as_aux_lemma =>
                      obtain rfl : j = q := by omega
                      have R9 := Lib.hid (R8.out.below BL.out)
                      have B9 : Hid (Below W.heap.size W wr) := Lib.hid (B8.out.trans (BL.out.mono B8.out.size))
                      have FT9 := Lib.hid (FT8.out.size BL.out.size)
                      have hs9 : bt < wr.heap.size := FT9.out.lt
                      have hba : (wr.alloc (.cells #[] 29)).heap[bt]? = some (.cells #[.int .u64 (v : Nat), .int .i64 K', .slice ra r rc] 75 (0, 0)) := (heap_alloc_old _ _ hs9).trans hbl9
                      have ra2 : (wr.alloc (.cells #[] 29)).cell? ⟨bt, 2, none⟩ = some (.slice ra r rc) := by simp [World.cell?, hba]
                      have hom := World.ownsRow_made (base := 0) (e := 29) (size := 1) wr #[] 0 (Nat.zero_le _) (by unfold maxLen; omega) rfl
                      have hos : SlWords (wr.alloc (.cells #[] 29)) (.slice ra r rc) ws := (SW.out.below BL.out).below ((Below.refl _ _).alloc (Nat.le_refl _) _)
                      have hoc := hos.cells
                      rw [← HR.out] at hoc
                      have OM := Lib.hid hom
                      have OS := Lib.hid hoc
                      have HBA := Lib.hid hba
                      have HS9 := Lib.hid hs9
                      have HLO : Hid (W.heap.size ≤ wr.heap.size) := Lib.hid B9.out.size
                      clear hba hom hos hoc hs9 hheap hBl hbl9 E8 R8 B8 BK SW
                      go_wp2_with (first
                        | (at_builtin; refine wpList_app E_word rfl _ _ rfl (.slice (some ⟨wr.heap.size, 0, none⟩) 0 0) 0 [] rfl OM.out (.slice ra r rc) r (ws.map wv) rfl OS.out (by simp [HR.out]) (by intro y hy; obtain ⟨z, _, rfl⟩ := List.mem_map.1 hy; rfl) (by unfold maxLen; omega) (by omega) ?_; intro v' w10 hown hgrow hat; simp only [Nat.zero_add, List.nil_append] at hown; obtain ⟨va, vc, rfl⟩ := own_slice' hown; obtain ⟨c2, f2, c3⟩ := th_cells (r := wr.heap.size) HBA.out hgrow (Nat.ne_of_lt HS9.out); obtain ⟨d0, d1, d2⟩ := c3 (.slice va r vc); have PK := Lib.hid (both_tail (cs := #[.int .u64 (v : Nat), .int .i64 K', .slice va r vc]) (e3 := 75) (cs0 := []) E9.out R9.out B9.out HLO.out FT9.out hgrow hown (by rcases hat with h | h; exact .inl h; exact .inr (by rw [h]; simp))); have HGS := Lib.hid hgrow.size; clear c3 hown hgrow hat)
                        | (at_builtin; refine wpList_app E_thing rfl _ _ rfl (.slice ua j uc) j (thCells G' vs) rfl (by have := PK.out.1.env.all; rw [← HQ.out] at this; exact this) (.slice (some ⟨w10.heap.size, 0, none⟩) 1 1) 1 [.int .u64 (v : Nat), .int .i64 K', .slice va r vc] rfl (th_row _ [.int .u64 (v : Nat), .int .i64 K', .slice va r vc] _ _ (by simp [World.setCell])) (by simp) (by simp [Value.oneCell']) (by unfold maxLen; omega) (by omega) ?_; intro u' w13 hown2 hgrow2 hat2; have PE := Lib.hid (both_end (s := ⟨v, K', ws⟩) PK.out.1 PK.out.2.1 (by unfold OwnW; rw [← HR.out]; exact PK.out.2.2.1) PK.out.2.2.2.1 PK.out.2.2.2.2.1 PK.out.2.2.2.2.2.1 PK.out.2.2.2.2.2.2 (by rw [← HQ.out]; exact hown2) hgrow2 hat2); have e0 : w13.cell? ⟨bt, 0, none⟩ = some (.int .u64 (v : Nat)) := (World.cell?_of_block (w := w10.setCell ⟨bt, 2, none⟩ (.slice va r vc)) (a := ⟨bt, 0, none⟩) ((hgrow2.block bt (by have h1 := HS9.out; have h2 := HGS.out; simp [World.setCell] at h2 ⊢; omega) (fun e => FT9.out.u' e.symm)).trans (heap_alloc_old _ _ (by have h1 := HS9.out; have h2 := HGS.out; simp [World.setCell] at h2 ⊢; omega)))).trans d0; clear hown2 hgrow2 hat2)
                        | (at_builtin; refine wpList_app E_word rfl _ _ rfl (.slice na j nc) j ((G'.map Sc.w).map wv) rfl (by have h5 := PE.out.2.2.2.1; unfold OwnW at h5; rw [List.length_map, ← HQ.out] at h5; exact h5.alloc _) (.slice (some ⟨w13.heap.size, 0, none⟩) 1 1) 1 [.int .u64 (v : Nat)] rfl (one_word _ _ _ _ rfl) (by simp) (by simp [Value.oneCell']) (by unfold maxLen; omega) (by omega) ?_; intro m' w15 hown3 hgrow3 hat3))
                      go_roundw
                      case rel =>
                        obtain ⟨k1, k2, k3, k4, k5, k6⟩ := PE.out
                        obtain ⟨z1, z2, z3⟩ := both_made (x := v) (xs := G'.map Sc.w) k1 k2 k3 k5 (by simp) k6 (by rw [List.length_map, ← HQ.out]; exact hown3) hgrow3 (by rcases hat3 with h | h; exact .inl h; exact .inr (by rw [h]; simp))
                        exact ⟨k + 1, G' ++ [⟨v, K', ws⟩], vs ++ [.slice va r vc], M', by omega, by go_num, by simp; have := HQ.out; omega, z1, z2, T8.out, L8.out, z3⟩
                      case measure => simp [intOf]; omega
            · clear htb
              go_wp2_with fail
              go_roundw
              case rel => exact ⟨k + 1, G, vs, M, by omega, by go_num, by rw [← HQ.out]; omega, E7.out, R7.out, TT.out, hlm, B7.out⟩
              case measure => simp [intOf]; omega
        · as_aux_lemma =>
          obtain rfl : k = n := by omega
          obtain ⟨q, hq⟩ : ∃ q, q = G.length := ⟨_, rfl⟩
          obtain ⟨ua, uc, hu⟩ := hE.env.slice
          obtain ⟨na, nc, hm⟩ := hE.row.slice'
          rw [← hq] at hu hGk
          rw [List.length_map, ← hq] at hm
          subst hu hm
          have HQ := Lib.hid hq
          have EE := Lib.hid hE.env
          have RR := Lib.hid hR
          have TT := Lib.hid hT
          have HB := Lib.hid hB
          have hq200 : q ≤ 200 := by omega
          clear hq hE hR hT hB hlm
          obtain ⟨w5, hw5⟩ : ∃ w5, w5 = wr := ⟨_, rfl⟩
          subst hw5
          go_wp2_with fail
          go_loopw [20] (fun iv wl => ∃ i : Nat, i ≤ q ∧ iv = .int .i64 i ∧ Below w5.heap.size w5 wl) (fun iv _ => q - (intOf iv).toNat)
          case atStart => exact ⟨0, Nat.zero_le _, rfl, Below.refl _ _⟩
          case round =>
            obtain ⟨i, hi, rfl, hB6⟩ := hrel
            by_cases hiq : i < q
            · have E6 := EE.out.below hB6
              obtain ⟨g, cp, e, hg, hcs⟩ := E6.form (by rw [← HQ.out]; omega)
              rw [← HQ.out] at e
              obtain ⟨rfl, rfl⟩ : ua = some ⟨g, 0, none⟩ ∧ uc = cp := by
                simp only [Value.slice.injEq] at e
                exact ⟨e.1, e.2.2⟩
              obtain ⟨s, hs⟩ : ∃ s, G[i]? = some s := ⟨_, List.getElem?_eq_getElem (by rw [← HQ.out]; omega)⟩
              obtain ⟨ia, icp, z0, z1, z2, z3⟩ := hcs i s hs
              have hown := E6.own i s _ hs z3
              have hIs := TT.out.is i s hs
              have hsm := TT.out.small i s hs
              have R6 := RR.out.below hB6
              have hslt := hIs.lt RR.out.ok
              have hpt := fun h => Th.pair_tells RR.out.ok hIs h
              have hot := fun h => Th.obj_tells RR.out.ok hIs h
              clear hs hIs z3 hcs e
              obtain ⟨sw, sp, sl⟩ := s
              simp only at z0 z1 z2 hown hsm hslt hpt hot
              obtain ⟨m, hm⟩ : ∃ m, m = sl.length := ⟨_, rfl⟩
              rw [← hm] at z2
              have hrow : ∀ (j x : Nat), sl[j]? = some x → ∃ g3, ia = some ⟨g3, 0, none⟩ ∧ g3 < wr.heap.size ∧ wr.cell? ⟨g3, j, none⟩ = some (.int .u64 (x : Nat)) := by
                intro j x hx
                obtain ⟨g3, c3, e3, _, hg3, hw3⟩ := OwnW.form hown (by have := (List.getElem?_eq_some_iff.1 hx).1; omega)
                rw [← hm] at e3
                obtain ⟨rfl, rfl⟩ : ia = some ⟨g3, 0, none⟩ ∧ icp = c3 := by
                  simp only [Value.slice.injEq] at e3
                  exact ⟨e3.1, e3.2.2⟩
                have := hw3 j x hx
                rw [Nat.zero_add] at this
                exact ⟨g3, rfl, hg3, this⟩
              have HROW := Lib.hid hrow
              have HMM := Lib.hid hm
              have HPT := Lib.hid hpt
              have HOT := Lib.hid hot
              have HSL := Lib.hid hslt
              have hm62 : m ≤ 62 := by rw [hm]; exact hsm.1
              have R6h := Lib.hid R6
              have B6 := Lib.hid hB6
              clear E6 hown hsm R6 hslt hpt hot hm hrow hB6
              go_upto_region 54 with fail
              obtain ⟨wx, hwx⟩ : ∃ wx, wx = wr.alloc (.cells #[.int .u64 (sw : Nat), .int .i64 sp, .slice ia m icp] 75) := ⟨_, rfl⟩
              rw [← hwx]
              have hbx : wx.heap[wr.heap.size]? = some (.cells #[.int .u64 (sw : Nat), .int .i64 sp, .slice ia m icp] 75 (0, 0)) := by rw [hwx]; exact heap_alloc_new _ _
              have bwx : Below wr.heap.size wr wx := by rw [hwx]; exact (Below.refl _ _).alloc (Nat.le_refl _) _
              have hsx : wr.heap.size < wx.heap.size := by rw [hwx]; simp
              have BX : Hid (Below w5.heap.size w5 wx) := Lib.hid (B6.out.trans (bwx.mono B6.out.size))
              have RX := Lib.hid (R6h.out.below bwx)
              obtain ⟨bx, hbxe⟩ : ∃ bx, bx = wr.heap.size := ⟨_, rfl⟩
              rw [← hbxe] at hbx hsx ⊢
              have KEEP : Hid (∀ (w' : World), Below wx.heap.size wx w' → w'.cell? ⟨bx, 0, none⟩ = some (.int .u64 (sw : Nat)) ∧ w'.cell? ⟨bx, 1, none⟩ = some (.int .i64 sp) ∧ w'.cell? ⟨bx, 2, none⟩ = some (.slice ia m icp)) := Lib.hid fun w' b' => by
                have h9 := (b'.block bx hsx).trans hbx
                exact ⟨by simp [World.cell?, h9], by simp [World.cell?, h9], by simp [World.cell?, h9]⟩
              have ROW : Hid (∀ (w' : World), Below wx.heap.size wx w' → ∀ (j x : Nat), sl[j]? = some x → ∃ g3, ia = some ⟨g3, 0, none⟩ ∧ w'.cell? ⟨g3, j, none⟩ = some (.int .u64 (x : Nat))) := Lib.hid fun w' b' j x hx => by
                obtain ⟨g3, h1, h2, h3⟩ := HROW.out j x hx
                exact ⟨g3, h1, ((b'.block g3 (by omega)).trans (bwx.block g3 h2) |> fun h => World.cell?_of_block (w := wr) (a := ⟨g3, j, none⟩) h).trans h3⟩
              clear hwx bwx hbxe hbx HROW R6h B6
              obtain ⟨y0, y1, y2⟩ := KEEP.out wx (Below.refl _ _)
              by_cases hp0 : sp = 0
              · as_aux_lemma =>
                subst hp0
                obtain ⟨x, y, hxy, hh1, hh2, hh3⟩ := HPT.out rfl
                subst hxy
                obtain rfl : m = 2 := HMM.out
                have H1 : Hid (∀ w', Below wx.heap.size wx w' → _) := Lib.hid fun (w' : World) (b' : Below wx.heap.size wx w') => car_ok (RX.out.below b') sw (by have := HSL.out; omega) hh1
                have H2 : Hid (∀ w', Below wx.heap.size wx w' → _) := Lib.hid fun (w' : World) (b' : Below wx.heap.size wx w') => cdr_ok (RX.out.below b') sw (by have := HSL.out; omega) hh2
                have H3 : Hid (∀ w', Below wx.heap.size wx w' → _) := Lib.hid fun (w' : World) (b' : Below wx.heap.size wx w') => size_any (RX.out.below b') sw (by have := HSL.out; omega)
                rw [hh3] at H3
                obtain ⟨g3, rfl, _⟩ := ROW.out wx (Below.refl _ _) 0 x rfl
                have R0 : Hid (∀ (w' : World), Below wx.heap.size wx w' → w'.cell? ⟨g3, 0, none⟩ = some (.int .u64 (x : Nat)) ∧ w'.cell? ⟨g3, 1, none⟩ = some (.int .u64 (y : Nat))) := Lib.hid fun w' b' => by
                  obtain ⟨_, h1, h2⟩ := ROW.out w' b' 0 x rfl
                  obtain ⟨_, h3, h4⟩ := ROW.out w' b' 1 y rfl
                  cases h1; cases h3
                  exact ⟨h2, h4⟩
                clear HPT HOT HMM hh1 hh2 hh3 ROW
                go_wp2_with fail
                refine (H1.out wx (Below.refl _ _)).mono ?_
                rintro e w6 ⟨rfl, b6⟩
                have B6 := Lib.hid b6
                clear b6 H1 y0 y1 y2
                obtain ⟨y0, y1, y2⟩ := KEEP.out w6 B6.out
                go_wp2_with fail
                refine (H2.out w6 B6.out).mono ?_
                rintro e w7 ⟨rfl, b7⟩
                have B7 := Lib.hid (B6.out.trans (b7.mono B6.out.size))
                clear b7 H2 y0 y1 y2
                obtain ⟨y0, y1, y2⟩ := KEEP.out w7 B7.out
                obtain ⟨u0, u1⟩ := R0.out w7 B7.out
                have t1 : (((x : Nat) : Int) != x) = false := by simp
                have t2 : (((y : Nat) : Int) != y) = false := by simp
                go_wp2_with fail
                refine (H3.out w7 B7.out).mono ?_
                rintro e w8 ⟨rfl, b8⟩
                have B8 := Lib.hid (B7.out.trans (b8.mono B7.out.size))
                clear b8 H3
                go_wp2_with fail
                go_roundw
                case rel => exact ⟨i + 1, by omega, by go_num, BX.out.trans (B8.out.mono BX.out.size)⟩
                case measure => simp [intOf]; omega
              · as_aux_lemma =>
                obtain ⟨hh1, hh2, hh3, hh4⟩ := HOT.out hp0
                have hT1 : ∀ w', Below wx.heap.size wx w' → Calls Try.prog 39 #[.pointer (some ⟨hb.h, 0, none⟩), .int .u64 sw] w' fun e w'' => e = .returned (.int .i64 sp) ∧ Below w'.heap.size w' w'' := fun w' b' => by
                  have := type_any (RX.out.below b') sw (by have := HSL.out; omega)
                  rw [hh1] at this
                  exact this
                have hT2 : ∀ w', Below wx.heap.size wx w' → Calls Try.prog 40 #[.pointer (some ⟨hb.h, 0, none⟩), .int .u64 sw] w' fun e w'' => e = .returned (.int .i64 (m : Nat)) ∧ Below w'.heap.size w' w'' := fun w' b' => by
                  have := len_any (RX.out.below b') sw (by have := HSL.out; omega)
                  rw [hh2, ← HMM.out] at this
                  exact this
                have hT3 : ∀ w', Below wx.heap.size wx w' → Calls Try.prog 38 #[.pointer (some ⟨hb.h, 0, none⟩), .int .u64 sw] w' fun e w'' => e = .returned (.int .i64 (1 + (m : Int))) ∧ Below w'.heap.size w' w'' := fun w' b' => by
                  have := size_any (RX.out.below b') sw (by have := HSL.out; omega)
                  rw [hh3, ← HMM.out, show (((m + 1 : Nat)) : Int) = 1 + (m : Int) by omega] at this
                  exact this
                have HT1 := Lib.hid hT1
                have HT2 := Lib.hid hT2
                have HT3 := Lib.hid hT3
                have HGT := Lib.hid hh4
                have hpb : (sp == 0) = false := by rw [beq_eq_false_iff_ne]; exact hp0
                have t1 : (sp != sp) = false := by simp
                have t2 : (((m : Nat) : Int) != m) = false := by simp
                have t3 : ((1 + (m : Int)) != (1 + (m : Int))) = false := by simp
                have hw1 : IntKind.i64.wrap (1 + (m : Int)) = 1 + (m : Int) := by rw [IntKind.wrap_i64]; omega
                clear HPT HOT hh1 hh2 hh3 hh4 hT1 hT2 hT3 hp0
                go_upto_region 59 with fail
                go_region_held3 (fun W' => W'.cell? ⟨bx, 0, none⟩ = some (.int .u64 (sw : Nat)) ∧ W'.cell? ⟨bx, 1, none⟩ = some (.int .i64 sp) ∧ W'.cell? ⟨bx, 2, none⟩ = some (.slice ia m icp)) (go_keep)
                  (first
                    | (go_at_call 39; refine (HT1.out wx.drew ⟨rfl, rfl, rfl, Nat.le_refl _, fun _ _ => rfl⟩).mono ?_; rintro e w6 ⟨rfl, b6⟩; have B6 : Hid (Below wx.heap.size wx w6) := Lib.hid ⟨b6.os, b6.tape, b6.output, b6.size, b6.block⟩; clear b6
                       obtain ⟨y0, y1, y2⟩ := KEEP.out w6 B6.out)
                    | (go_at_call 40; refine (HT2.out w6 B6.out).mono ?_; rintro e w7 ⟨rfl, b7⟩; have B7 : Hid (Below wx.heap.size wx w7) := Lib.hid (B6.out.trans (b7.mono B6.out.size)); clear b7
                       obtain ⟨y0, y1, y2⟩ := KEEP.out w7 B7.out)
                    | (go_at_call 38; refine (HT3.out w7 B7.out).mono ?_; rintro e w8 ⟨rfl, b8⟩; have B8 : Hid (Below wx.heap.size wx w8) := Lib.hid (B7.out.trans (b8.mono B7.out.size)); clear b8
                       obtain ⟨y0, y1, y2⟩ := KEEP.out w8 B8.out))
                clear HT1 HT2 HT3 B6 B7 y0 y1 y2
                go_wp2_with fail
                go_loopw [26] (fun jv wl => ∃ j : Nat, j ≤ m ∧ jv = .int .i64 j ∧ Below wx.heap.size wx wl) (fun jv _ => m - (intOf jv).toNat)
                case atStart => exact ⟨0, Nat.zero_le _, rfl, B8.out⟩
                case round =>
                  obtain ⟨j, hj, rfl, hB9⟩ := hrel
                  have B9 := Lib.hid hB9
                  clear hB9
                  obtain ⟨y0, y1, y2⟩ := KEEP.out _ B9.out
                  by_cases hjm : j < m
                  · obtain ⟨x, hx⟩ : ∃ x, sl[j]? = some x := ⟨_, List.getElem?_eq_getElem (by rw [← HMM.out]; omega)⟩
                    have hgt := get_any (RX.out.below B9.out) sw (by have := HSL.out; omega) sp (j : Int) (HGT.out j x hx)
                    have HX := Lib.hid hx
                    have t4 : (((x : Nat) : Int) != x) = false := by simp
                    clear hx t1 t2 t3 hw1 hpb
                    go_wp2_with fail
                    refine hgt.mono ?_
                    rintro e w9 ⟨rfl, b9⟩
                    have B10 : Hid (Below wx.heap.size wx w9) := Lib.hid (B9.out.trans (b9.mono B9.out.size))
                    clear b9 hgt y0 y1 y2
                    obtain ⟨y0, y1, y2⟩ := KEEP.out w9 B10.out
                    obtain ⟨g3, rfl, c3⟩ := ROW.out w9 B10.out j x HX.out
                    go_wp2_with fail
                    go_roundw
                    case rel => exact ⟨j + 1, by omega, by go_num, B10.out⟩
                    case measure => simp [intOf]; omega
                  · clear t1 t2 t3 hw1 hpb
                    go_wp2_with fail
                    go_roundw
                    case rel => exact ⟨i + 1, by omega, by go_num, BX.out.trans (B9.out.mono BX.out.size)⟩
                    case measure => simp [intOf]; omega
            · as_aux_lemma =>
              obtain rfl : i = q := by omega
              have hAw := awake10 wr
              have B6 := Lib.hid hB6
              clear hB6
              go_wp2_with fail
              refine hAw.mono ?_
              rintro e w7 ⟨rfl, b7⟩
              have B7 := Lib.hid b7
              clear hAw b7
              go_wp2_with fail
              go_ret
              exact ⟨rfl, HB.out.trans ((B6.out.trans (B7.out.mono B6.out.size)).mono HB.out.size)⟩
end Go.Proofs.Ytecemlamoiepdaa
