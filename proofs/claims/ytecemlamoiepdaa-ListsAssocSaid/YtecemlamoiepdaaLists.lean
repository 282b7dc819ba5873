/- The contracts of lists: pairs (the iterator), List, row (over slices.Backward). -/
import Derived.Test.YtecemlamoiepdaaPairs
import Derived.Test.YtecemlamoiepdaaRange
import Derived.Test.YtecemlamoiepdaaText
import Derived.Shelf.Abstract
import Derived.Shelf.RegionOpen
import Derived.WalkKit
import Derived.OwnWalkIn
import Derived.TacticsInMore
import Derived.LoopNIn
import Derived.LoopIn
namespace Go.Proofs.Ytecemlamoiepdaa
open Go.RowKit Go.Shelf
attribute [local go_sem] Oper.semAt_some

theorem grown_of_below {w w' : World} (h : Below w.heap.size w w') : w.grownBy w' none := ⟨h.os, h.tape, h.output, h.size, fun k hk _ => h.block k hk⟩

theorem box_at {w : World} {B : Nat} {x : Value} {t : TypeId} (h : w.heap[B]? = some (.cells #[x] t (0, 0))) : w.cell? ⟨B, 0, none⟩ = some x ∧ w.frozen? ⟨B, 0, none⟩ = false := by
  constructor <;> simp [World.cell?, World.frozen?, h]

theorem box_set {w : World} {B : Nat} {x : Value} {t : TypeId} (h : w.heap[B]? = some (.cells #[x] t (0, 0))) (y : Value) : (w.setCell ⟨B, 0, none⟩ y).heap[B]? = some (.cells #[y] t (0, 0)) := by
  simp only [World.setCell, Array.getElem?_modify, h]; simp

/-- append, in a fence -/
theorem wpListIn_app {F : Fence} {n0 : Nat} {P : Program} {w : World} {ops : Array Oper} {rest : List Oper} {o : Oper} {a : Act} {Q : Exit → Act → World → Prop} {t e : TypeId} {size bytes : Nat} (E : Elem P t e size bytes)
    (hgd : o.guard = none) (s x : Operand) (ho : o.op = .call { callee := .builtin .append, args := #[s, x], argTypes := #[t, t] })
    (v : Value) (n : Nat) (xs : List Value) (hs : a.eval s = v) (hown : w.ownsRow 0 e size v n xs) (xv : Value) (m : Nat) (news : List Value) (hxv : a.eval x = xv) (hx : SlCells w xv m news)
    (hl : news.length = m * size) (h1 : ∀ u ∈ news, u.oneCell' = true) (h63 : n + m ≤ maxLen) (hbytes : (n + m) * bytes ≤ 140737488355328)
    (h : ∀ v' w', w'.ownsRow 0 e size v' (n + m) (xs ++ news) → w.grownBy w' v.ownBlock → (v'.ownBlock = v.ownBlock ∨ v'.ownBlock = some w.heap.size) → wpListIn F n0 P ops Q rest (a.put o.dst v') w') : wpListIn F n0 P ops Q (o :: rest) a w := by
  refine wpListIn_plain hgd fun K hK => ?_
  obtain ⟨v', w', hr, h2, h3, h5⟩ := run_app (P := P) w E o.type v n xs hown xv m news hx hl h1 h63 hbytes
  unfold Oper.wpIn
  refine ⟨?_, ?_⟩
  · simp [Oper.about, ho, resolve, Target.leads, Sem.run_pure]
  · rw [Oper.semAt_plain F _ _ (by rw [ho]; intro c hc'; cases hc')]
    simp [execOp, ho, resolve, invoke, builtin, hs, hxv, hr, Result.andThen]
    exact hK _ _ (h v' w' h2 h3 h5)

set_option maxHeartbeats 400000 in
theorem pairs_any (hp : Option Addr) (x : Nat) (w : World) :
    Calls Try.prog 102 #[.pointer hp, .int .u64 x] w fun e w' => e = .returned (.func (.func 128) #[] #[.pointer (some ⟨w.heap.size, 0, none⟩), .pointer (some ⟨w.heap.size + 1, 0, none⟩)]) ∧
      w' = (w.alloc (.cells #[.pointer hp] 23)).alloc (.cells #[.int .u64 x] 29) := by
  go_enter Try.func102, Try.ntmps102
  go_wp2
  go_ret
  exact ⟨rfl, rfl⟩

set_option maxRecDepth 100000 in
set_option maxHeartbeats 2000000 in
/-- the pairs of a row, then where it leads -/
theorem pairs_seq {hb : HB} {M : Hp} {w : World} (r : Rep hb M w) {v q n : Nat} {l : List (Nat × Nat)} (hL : LSeg M v l q) (hv : v < 18446744073709551616) (hqt : q < 18446744073709551616) (hq : M.pairOf q = none) (hl : l.length ≤ 32768) (Bh Bw : Nat) (hne : Bh ≠ Bw) (hbh : ¬ hb.has Bh) (hbw : ¬ hb.has Bw)
    (ch : w.heap[Bh]? = some (.cells #[.pointer (some ⟨hb.h, 0, none⟩)] 23 (0, 0))) (cw : w.heap[Bw]? = some (.cells #[.int .u64 (v : Nat)] 29 (0, 0))) :
    SeqV Try.prog n 128 #[.pointer (some ⟨Bh, 0, none⟩), .pointer (some ⟨Bw, 0, none⟩)] (fun x : Nat × Bool => #[.int .u64 (x.1 : Nat), .bool x.2]) (fun k => hb.has k ∨ k = Bh ∨ k = Bw) Bw
      (fun xs => xs = items q l) (fun pre => ∃ k, 0 < k ∧ k ≤ l.length + 1 ∧ pre = (items q l).take k) (fun pre x => ∃ k, pre = (items q l).take k ∧ (items q l)[k]? = some x) w := by
  intro l0 J Jx W hW hJ hJx hY h0
  obtain ⟨m, hm⟩ : ∃ m, m = l.length := ⟨_, rfl⟩
  have rW := r.below hW
  have chW := (hW.block Bh (lt_of_block ch)).trans ch
  have cwW := (hW.block Bw (lt_of_block cw)).trans cw
  have RW := Lib.hid rW
  have CH := Lib.hid chW
  have HL := Lib.hid hL
  have HJ := Lib.hid hJ
  have HY := Lib.hid hY
  have HM := Lib.hid hm
  have HQ := Lib.hid hq
  have h00 : J ((items q l).take 0) W := by rw [List.take_zero]; exact h0
  have cw0 : W.heap[Bw]? = some (.cells #[.int .u64 (LSeg.at' q l 0 : Nat)] 29 (0, 0)) := by rw [← hL.head]; exact cwW
  have H00 := Lib.hid h00
  have CW0 := Lib.hid cw0
  rw [← hm] at hl ⊢
  have HQT := Lib.hid hqt
  clear hv hqt r hL hq hW hJ hJx hY h0 rW chW cwW h00 cw0 ch cw hm
  refine callsIn_of_wp Try.func128 rfl trivial ?_ rfl
  simp only [Try.ntmps128, List.size_toArray, List.length_cons, List.length_nil, Nat.reduceAdd, Nat.reduceSub, Array.replicate_succ, Array.replicate_zero, List.push_toArray, List.append_toArray, List.nil_append, List.cons_append]
  gi_wp2
  gi_loopw [4] (fun iv wr => ∃ k : Nat, k ≤ m ∧ iv = .int .i64 k ∧ Hid (J ((items q l).take k) wr) ∧ Rep hb M wr ∧ wr.heap[Bh]? = some (.cells #[.pointer (some ⟨hb.h, 0, none⟩)] 23 (0, 0)) ∧ wr.heap[Bw]? = some (.cells #[.int .u64 (LSeg.at' q l k : Nat)] 29 (0, 0))) (fun iv _ => m - (intOf iv).toNat)
  case atStart => exact ⟨0, Nat.zero_le _, rfl, H00, RW.out, CH.out, CW0.out⟩
  case round =>
    obtain ⟨k, hk, rfl, hJk, rk, chk, cwk⟩ := hrel
    obtain ⟨c1, c2⟩ := box_at chk
    obtain ⟨d1, d2⟩ := box_at cwk
    have RK := Lib.hid rk
    have CHK := Lib.hid chk
    have CWK := Lib.hid cwk
    by_cases hlt : k < m
    · obtain ⟨⟨u, x⟩, hx⟩ : ∃ p, l[k]? = some p := ⟨_, List.getElem?_eq_getElem (by rw [← HM.out]; exact hlt)⟩
      obtain ⟨kk, d, hu, hp, hd⟩ := HL.out.step k u x hx
      have hat : LSeg.at' q l k = u := by unfold LSeg.at'; rw [hx]; rfl
      have hul : u < 18446744073709551616 := by have := hp.lt rk.ok; omega
      have hP : Calls Try.prog 52 #[.pointer (some ⟨hb.h, 0, none⟩), .int .u64 u] wr fun e w' => e = .returned (.bool true) ∧ Below wr.heap.size wr w' := by
        have h1 := isPair_any rk u hul
        rw [show M.pairOf u = some (2 * kk) by rw [hu]; exact hp.pair rk.ok] at h1
        exact h1
      rw [hat] at d1
      have HU := Lib.hid hu
      have HP := Lib.hid hp
      have HD := Lib.hid hd
      have HX := Lib.hid hx
      clear rk chk cwk hul hu hp hd hx hat
      have hk3 : (k : Int) < 32768 := by omega
      gi_wp2_with fail
      refine ⟨trivial, fun h => (by cases h), (callsIn_wide.2 hP).mono ?_⟩
      rintro e w1 ⟨rfl, bb1⟩
      have J1 := HJ.out _ wr w1 none hJk.out (grown_of_below bb1) (fun r e => by cases e)
      have ch1 := (bb1.block Bh (lt_of_block CHK.out)).trans CHK.out
      have cw1 := (bb1.block Bw (lt_of_block CWK.out)).trans CWK.out
      have R1 := Lib.hid (RK.out.below bb1)
      obtain ⟨fn, tmps, assign, body, hy, hR⟩ := HY.out _ (u, false) w1 J1 ⟨k, rfl, items_get HX.out⟩
      dsimp only at hy
      obtain ⟨e1, e2⟩ := box_at ch1
      obtain ⟨f1, f2⟩ := box_at cw1
      rw [show LSeg.at' q l k = u by unfold LSeg.at'; rw [HX.out]; rfl] at f1
      have HR := Lib.hid hR
      have CH1 := Lib.hid ch1
      have CW1 := Lib.hid cw1
      clear J1 bb1 hP c1 c2 d1 d2 RK CHK CWK hJk hR ch1 cw1
      gi_wp2_with fail
      refine ⟨fun h => (by cases h), HR.out.mono ?_⟩
      rintro e w3 (⟨rfl, J3, K3, hs3⟩ | ⟨rfl, Jx3⟩)
      · have R3 : Rep hb M w3 := R1.out.of_blocks fun k hk => K3 k (.inl hk)
        have ch3 := (K3 Bh (.inr (.inl rfl))).trans CH1.out
        have cw3 := (K3 Bw (.inr (.inr rfl))).trans CW1.out
        have hul : u < 18446744073709551616 := by have h1 := HP.out.lt R3.ok; have h2 := HU.out; omega
        have hC := cdr_ok R3 u hul (v := d) (by rw [HU.out]; exact HP.out.cdr R3.ok)
        obtain ⟨g1, g2⟩ := box_at ch3
        obtain ⟨i1, i2⟩ := box_at cw3
        rw [show LSeg.at' q l k = u by unfold LSeg.at'; rw [HX.out]; rfl] at i1
        have R3h := Lib.hid R3
        have CH3 := Lib.hid ch3
        have CW3 := Lib.hid cw3
        have J3h := Lib.hid J3
        clear R3 ch3 cw3 J3 K3 hs3 HR hul e1 e2 f1 f2 R1 CH1 CW1 hy
        gi_wp2_with fail
        refine ⟨trivial, fun h => (by cases h), (callsIn_wide.2 hC).mono ?_⟩
        rintro e w4 ⟨rfl, b4⟩
        have J4 := HJ.out _ w3 w4 none J3h.out (grown_of_below b4) (fun r e => by cases e)
        have ch4 := (b4.block Bh (lt_of_block CH3.out)).trans CH3.out
        have cw4 := (b4.block Bw (lt_of_block CW3.out)).trans CW3.out
        obtain ⟨j1, j2⟩ := box_at ch4
        obtain ⟨k1, k2⟩ := box_at cw4
        have J5 : Hid (J ((items q l).take (k + 1)) (w4.setCell ⟨Bw, 0, none⟩ (.int .u64 (d : Nat)))) := Lib.hid (by
          rw [List.take_add_one, items_get HX.out]
          exact HJ.out _ w4 _ (some Bw) J4 (grownBy_setCell' w4 Bw _) (fun r e => by cases e; rfl))
        have R5 : Hid (Rep hb M (w4.setCell ⟨Bw, 0, none⟩ (.int .u64 (d : Nat)))) := Lib.hid ((R3h.out.below b4).other hbw _)
        have CH5 : Hid ((w4.setCell ⟨Bw, 0, none⟩ (.int .u64 (d : Nat))).heap[Bh]? = some (.cells #[.pointer (some ⟨hb.h, 0, none⟩)] 23 (0, 0))) := Lib.hid ((Below.heap_setCell _ _ _ _ hne).trans ch4)
        have CW5 : Hid ((w4.setCell ⟨Bw, 0, none⟩ (.int .u64 (d : Nat))).heap[Bw]? = some (.cells #[.int .u64 (d : Nat)] 29 (0, 0))) := Lib.hid (box_set cw4 _)
        clear hC b4 J4 ch4 cw4 R3h CH3 CW3 J3h g1 g2 i1 i2
        gi_wp2_with fail
        go_roundw
        case rel => exact ⟨k + 1, hlt, by go_num, J5, R5.out, CH5.out, by rw [← HD.out]; exact CW5.out⟩
        case measure => simp [intOf]; omega
      · gi_wp2_with fail
        refine bodyPost_ret (results_none rfl _ _ _) rfl ?_
        refine ⟨⟨_, rfl⟩, .inr ⟨_, ⟨k + 1, by omega, by omega, ?_⟩, Jx3⟩⟩
        rw [List.take_add_one, items_get HX.out]
        rfl
    · obtain rfl : k = m := by omega
      have hat : LSeg.at' q l k = q := by unfold LSeg.at'; rw [List.getElem?_eq_none (by rw [← HM.out]; exact Nat.le_refl _)]; rfl
      have hP : Calls Try.prog 52 #[.pointer (some ⟨hb.h, 0, none⟩), .int .u64 q] wr fun e w' => e = .returned (.bool false) ∧ Below wr.heap.size wr w' := by
        have h1 := isPair_any rk q HQT.out
        rw [HQ.out] at h1
        exact h1
      rw [hat] at d1
      clear rk chk cwk hat
      have hlast : ∀ w1, Below wr.heap.size wr w1 → J ((items q l).take k) w1 ∧ w1.heap[Bh]? = some (.cells #[.pointer (some ⟨hb.h, 0, none⟩)] 23 (0, 0)) ∧ w1.heap[Bw]? = some (.cells #[.int .u64 (LSeg.at' q l k : Nat)] 29 (0, 0)) := fun w1 bb1 =>
        ⟨HJ.out _ wr w1 none hJk.out (grown_of_below bb1) (fun r e => by cases e), (bb1.block Bh (lt_of_block CHK.out)).trans CHK.out, (bb1.block Bw (lt_of_block CWK.out)).trans CWK.out⟩
      have HLAST := Lib.hid hlast
      clear hlast
      by_cases hk3 : (k : Int) < 32768
      · gi_wp2_with fail
        refine ⟨trivial, fun h => (by cases h), (callsIn_wide.2 hP).mono ?_⟩
        rintro e w1 ⟨rfl, bb1⟩
        obtain ⟨J1, ch1, cw1⟩ := HLAST.out w1 bb1
        obtain ⟨fn, tmps, assign, body, hy, hR⟩ := HY.out _ (q, true) w1 J1 ⟨k, rfl, by rw [HM.out]; exact items_last q l⟩
        dsimp only at hy
        obtain ⟨f1, f2⟩ := box_at cw1
        rw [show LSeg.at' q l k = q by unfold LSeg.at'; rw [List.getElem?_eq_none (by rw [← HM.out]; exact Nat.le_refl _)]; rfl] at f1
        have HR := Lib.hid hR
        clear J1 hP bb1 c1 c2 d1 d2 RK CHK CWK hJk hR ch1 cw1 HLAST
        gi_wp2_with fail
        refine ⟨fun h => (by cases h), HR.out.mono ?_⟩
        have hall : (items q l).take k ++ [(q, true)] = items q l := by
          have h1 : (items q l).take (k + 1) = items q l := List.take_of_length_le (by rw [items_len, ← HM.out]; exact Nat.le_refl _)
          rw [← h1, List.take_take, Nat.min_eq_left (by omega), List.take_add_one]
          have h2 := items_last q l
          rw [← HM.out] at h2
          rw [h2]
          rfl
        have HALL := Lib.hid hall
        clear hall
        rintro e w3 (⟨rfl, J3, _, _⟩ | ⟨rfl, Jx3⟩)
        · gi_wp2_with fail
          go_end0
          exact ⟨⟨_, rfl⟩, .inl ⟨_, rfl, by rw [← HALL.out]; exact J3⟩⟩
        · gi_wp2_with fail
          go_end0
          refine ⟨⟨_, rfl⟩, .inr ⟨_, ⟨k + 1, by omega, by omega, ?_⟩, Jx3⟩⟩
          exact HALL.out.trans (List.take_of_length_le (by rw [items_len, ← HM.out]; exact Nat.le_refl _)).symm
      · have hk4 : (32768 : Int) ≤ k := by omega
        obtain ⟨J1, ch1, cw1⟩ := HLAST.out wr (Below.refl _ _)
        obtain ⟨fn, tmps, assign, body, hy, hR⟩ := HY.out _ (q, true) wr J1 ⟨k, rfl, by rw [HM.out]; exact items_last q l⟩
        dsimp only at hy
        obtain ⟨f1, f2⟩ := box_at cw1
        rw [show LSeg.at' q l k = q by unfold LSeg.at'; rw [List.getElem?_eq_none (by rw [← HM.out]; exact Nat.le_refl _)]; rfl] at f1
        have HR := Lib.hid hR
        clear J1 hP c1 c2 d1 d2 RK CHK CWK hJk hR ch1 cw1 HLAST
        gi_wp2_with fail
        refine ⟨fun h => (by cases h), HR.out.mono ?_⟩
        have hall : (items q l).take k ++ [(q, true)] = items q l := by
          have h1 : (items q l).take (k + 1) = items q l := List.take_of_length_le (by rw [items_len, ← HM.out]; exact Nat.le_refl _)
          rw [← h1, List.take_take, Nat.min_eq_left (by omega), List.take_add_one]
          have h2 := items_last q l
          rw [← HM.out] at h2
          rw [h2]
          rfl
        have HALL := Lib.hid hall
        clear hall
        rintro e w3 (⟨rfl, J3, _, _⟩ | ⟨rfl, Jx3⟩)
        · gi_wp2_with fail
          go_end0
          exact ⟨⟨_, rfl⟩, .inl ⟨_, rfl, by rw [← HALL.out]; exact J3⟩⟩
        · gi_wp2_with fail
          go_end0
          refine ⟨⟨_, rfl⟩, .inr ⟨_, ⟨k + 1, by omega, by omega, ?_⟩, Jx3⟩⟩
          exact HALL.out.trans (List.take_of_length_le (by rw [items_len, ← HM.out]; exact Nat.le_refl _)).symm
end Go.Proofs.Ytecemlamoiepdaa
