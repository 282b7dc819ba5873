/- The contract of lists.judge.equal on a heap of pairs. -/
import Derived.Test.YtecemlamoiepdaaEqual0
import Derived.Test.YtecemlamoiepdaaHeld
import Derived.BigQuiet
import Derived.RegionTactic
import Derived.Deep.Cut
import Derived.Deep.RegionHeld3
import Derived.StillTailTactics
namespace Go.Proofs.Ytecemlamoiepdaa
open Go.RowKit

set_option maxRecDepth 100000 in
set_option maxHeartbeats 8000000 in
theorem equal_any {hb : HB} {M : Hp} {w : World} (r : Rep hb M w) (ht : ∀ x, M.typ x = 0) {J c0 : Nat} (j : Jd hb w J c0) (a b : Nat) {n : Nat} {ans : Bool} (he : Eqs M [(a, b)] n ans) (hc : c0 + n ≤ 20000) :
    Calls Try.prog 103 #[.pointer (some ⟨J, 0, none⟩), .int .u64 (a : Nat), .int .u64 (b : Nat)] w fun e w' => e = .returned (.tuple #[.bool ans, .int .i64 0]) ∧ Rep hb M w' ∧ (∃ c1 : Nat, Jd hb w' J c1 ∧ c1 ≤ c0 + n) ∧ w'.os = w.os ∧ w'.tape = w.tape ∧ w'.output = w.output ∧ w.heap.size ≤ w'.heap.size ∧ ∀ k, k < w.heap.size → k ≠ J → w'.heap[k]? = w.heap[k]? := by
  have hJl := lt_of_block j.at'
  have st0 : ∀ w1, Below w.heap.size w w1 → Left w.heap.size w1 (w.heap.size + 1) [(a, b)] → EqAt hb M w J w.heap.size (w.heap.size + 1) c0 [(a, b)] w1 := fun w1 b1 hl => ⟨r.below b1, j.below b1, hl, b1.os, b1.tape, b1.output, b1.size, fun k h _ => b1.block k h⟩
  have ST0 := Lib.hid st0
  have HLT := Lib.hid r.lt
  have HE := Lib.hid he
  have HT := Lib.hid ht
  clear r j st0 he ht
  go_enter Try.func103, Try.ntmps103
  go_wp2_with fail
  go_loopw [10] (fun _ wr => ∃ (t : List (Nat × Nat)) (m cnt : Nat), cnt + m ≤ c0 + n ∧ Eqs M t m ans ∧ t.length ≤ cnt + 1 ∧ EqAt hb M w J w.heap.size (w.heap.size + 1) cnt t wr) (fun _ wr => 20001 - cntOf J wr)
  case atStart =>
    obtain ⟨W, hW⟩ : ∃ W, W = (w.alloc (.cells #[.int .u64 (a : Nat), .int .u64 (b : Nat)] 204)).alloc (.cells #[.slice (some ⟨w.heap.size, 0, none⟩) 1 1] 205) := ⟨_, rfl⟩
    have hb1 : Below w.heap.size w W := by rw [hW]; exact ((Below.refl _ _).alloc (Nat.le_refl _) _).alloc (by simp) _
    have hg0 : W.heap[w.heap.size]? = some (.cells #[.int .u64 (a : Nat), .int .u64 (b : Nat)] 204 (0, 0)) := by rw [hW]; exact (heap_alloc_old _ _ (by simp)).trans (heap_alloc_new w _)
    have hg1 : W.heap[w.heap.size + 1]? = some (.cells #[.slice (some ⟨w.heap.size, 0, none⟩) 1 1] 205 (0, 0)) := by
      rw [hW]
      have h := heap_alloc_new (w.alloc (.cells #[.int .u64 (a : Nat), .int .u64 (b : Nat)] 204)) (.cells #[.slice (some ⟨w.heap.size, 0, none⟩) 1 1] 205)
      rw [World.size_alloc] at h
      exact h
    have hl : Left w.heap.size W (w.heap.size + 1) [(a, b)] := ⟨_, hg1, ⟨rfl, .inr ⟨w.heap.size, 1, _, rfl, Nat.zero_le _, hg0, Nat.le_refl _, by decide, rfl, rfl⟩⟩, fun k hk => by cases hk; exact ⟨Nat.le_refl _, by simp⟩⟩
    exact ⟨[(a, b)], n, c0, Nat.le_refl _, HE.out, by simp, by first | (rw [← hW]; exact ST0.out W hb1 hl) | exact hW ▸ ST0.out W hb1 hl⟩
  case round =>
    obtain ⟨t, m, cnt, h1, h2, h3, h4⟩ := hrel
    cases t with
    | nil =>
      have hans : ans = true := by cases h2; rfl
      subst hans
      obtain ⟨u, hT, ho, hk⟩ := h4.left.ex
      obtain ⟨ua, uc, rfl⟩ := own_sl ho
      obtain ⟨c8, f8⟩ := two_box hT
      have H4 := Lib.hid h4
      have H1 := Lib.hid h1
      clear h1 h2 h3 h4 hT ho hk
      go_wp2_with fail
      go_ret2
      exact ⟨by simp, H4.out.rep, ⟨cnt, H4.out.jd, by have := H1.out; omega⟩, H4.out.os, H4.out.tape, H4.out.output, H4.out.size, H4.out.block⟩
    | cons ab t' =>
      obtain ⟨a1, b1⟩ := ab
      obtain ⟨u, hT, ho, hk⟩ := h4.left.ex
      obtain ⟨L, hL⟩ : ∃ L, L = t'.length := ⟨_, rfl⟩
      have hrl : (((a1, b1) :: t').reverse).length = L + 1 := by rw [List.length_reverse, List.length_cons, hL]
      rw [hrl, List.reverse_cons, cells2_snoc] at ho
      have hm : 0 < m := by cases h2 <;> omega
      have hL3 : L ≤ cnt := by rw [List.length_cons, ← hL] at h3; omega
      have HLEN := Lib.hid (show t'.length ≤ cnt by rw [← hL]; exact hL3)
      obtain ⟨g, cap, rfl, hgl, hcap, hg0, hg1⟩ := two_top ho (by rw [cells2_len, List.length_reverse, hL])
      have hpop := own_pop ho (by rw [cells2_len, List.length_reverse, hL])
      obtain ⟨c8, f8⟩ := two_box hT
      obtain ⟨j0, j1, j2⟩ := h4.jd.cells
      have hne := (hk g rfl).2
      have hcnt : cnt < 20000 := by omega
      have hTs : w.heap.size + 1 < wr.heap.size := lt_of_block hT
      have hJs : J < wr.heap.size := by omega
      have hJT : J ≠ w.heap.size + 1 := by omega
      have H4 := Lib.hid h4
      have H1 := Lib.hid h1
      have H2 := Lib.hid h2
      have HP := Lib.hid hpop
      have HK := Lib.hid hk
      have HLL := Lib.hid hL
      have HTT := Lib.hid hT
      clear h1 h2 h3 h4 ho hk hpop hL hrl hT hm
      go_wp2_with fail
      obtain ⟨W5, hW5⟩ : ∃ W5, W5 = ((wr.setCell ⟨w.heap.size + 1, 0, none⟩ (.slice (some ⟨g, 0, none⟩) L cap)).setCell ⟨J, 1, none⟩ (.int .i64 ((cnt : Int) + 1))).alloc (.cells #[.int .u64 (a1 : Nat), .int .u64 (b1 : Nat)] 204) := ⟨_, rfl⟩
      rw [← hW5]
      obtain ⟨e5, ln5, x5⟩ := eq_pop H4.out HLT.out hJl hTs HP.out HLL.out (HK.out g rfl) ⟨_, HTT.out⟩ W5 hW5
      obtain ⟨X, hX⟩ : ∃ X, X = wr.heap.size := ⟨_, rfl⟩
      rw [← hX] at x5 ln5 ⊢
      have hms : cntOf J wr = cnt := H4.out.jd.cnt
      have E5 := Lib.hid e5
      have X5 := Lib.hid x5
      have LN5 := Lib.hid ln5
      have XL := Lib.hid (lt_of_block x5)
      have XT := Lib.hid (show w.heap.size + 1 < X by rw [hX]; exact hTs)
      have HMS := Lib.hid hms
      have keep : ∀ W', Below W5.heap.size W5 W' → W'.cell? ⟨J, 0, none⟩ = some (.pointer (some ⟨hb.h, 0, none⟩)) ∧ W'.cell? ⟨X, 0, none⟩ = some (.int .u64 (a1 : Nat)) ∧ W'.cell? ⟨X, 1, none⟩ = some (.int .u64 (b1 : Nat)) := fun W' b => by
        have h9 := (b.block X (lt_of_block x5)).trans x5
        exact ⟨(e5.jd.below b).cells.1, by simp [World.cell?, h9], by simp [World.cell?, h9]⟩
      have KEEP := Lib.hid keep
      have h2 := H2.out
      have h3 := H1.out
      clear keep e5 x5 ln5 hms hW5 hX H4 HP HK HLL HTT H2 H1 c8 f8 j0 j1 j2 hg0 hg1 hgl hcap hne hTs hJs
      cases h2 with
      | same hal hs =>
        rename_i m'
        have hV := value_any E5.out.rep HT.out E5.out.jd a1 a1 hal hal
        rw [decide_eq_true rfl] at hV
        have HS := Lib.hid hs
        clear hs
        refine hV.mono ?_
        rintro e w6 ⟨rfl, b6⟩
        have E6 := Lib.hid (E5.out.below b6)
        clear b6 hV
        go_wp2_with fail
        go_roundw
        case rel => exact ⟨t', m', cnt + 1, by omega, HS.out, by have := HLEN.out; omega, E6.out⟩
        case measure => rw [E6.out.jd.cnt, HMS.out]; omega
      | pair hne hal hbl hpa hpb ha0 ha1 hb0 hb1 hs =>
        rename_i x y x' y' pa pb m'
        have hV := value_any E5.out.rep HT.out E5.out.jd a1 b1 hal hbl
        rw [decide_eq_false hne] at hV
        have FT : Hid (∀ W', Below W5.heap.size W5 W' → Calls Try.prog 39 #[.pointer (some ⟨hb.h, 0, none⟩), .int .u64 (a1 : Nat)] W' fun e w' => e = .returned (.int .i64 (0 : Nat)) ∧ Below W'.heap.size W' w') := Lib.hid (by
          intro W' bb
          have h := type_any (E5.out.rep.below bb) a1 hal
          rw [HT.out] at h
          exact h)
        have FP : Hid (∀ W', Below W5.heap.size W5 W' → Calls Try.prog 52 #[.pointer (some ⟨hb.h, 0, none⟩), .int .u64 (a1 : Nat)] W' fun e w' => e = .returned (.bool true) ∧ Below W'.heap.size W' w') := Lib.hid (by
          intro W' bb
          have h := isPair_any (E5.out.rep.below bb) a1 hal
          rw [hpa] at h
          exact h)
        have FPB : Hid (∀ W', Below W5.heap.size W5 W' → Calls Try.prog 52 #[.pointer (some ⟨hb.h, 0, none⟩), .int .u64 (b1 : Nat)] W' fun e w' => e = .returned (.bool true) ∧ Below W'.heap.size W' w') := Lib.hid (by
          intro W' bb
          have h := isPair_any (E5.out.rep.below bb) b1 hbl
          rw [hpb] at h
          exact h)
        have FDA := Lib.hid (fun (W' : World) (bb : Below W5.heap.size W5 W') => cdr_ok (E5.out.rep.below bb) a1 hal ha1)
        have FDB := Lib.hid (fun (W' : World) (bb : Below W5.heap.size W5 W') => cdr_ok (E5.out.rep.below bb) b1 hbl hb1)
        have FAA := Lib.hid (fun (W : World) (rr : Rep hb M W) => car_ok rr a1 hal ha0)
        have FAB := Lib.hid (fun (W : World) (rr : Rep hb M W) => car_ok rr b1 hbl hb0)
        have HS := Lib.hid hs
        clear hne hal hbl hpa hpb ha0 ha1 hb0 hb1 hs
        refine hV.mono ?_
        rintro e w6 ⟨rfl, b6⟩
        have B6 := Lib.hid b6
        obtain ⟨p0, p1, p2⟩ := KEEP.out w6 b6
        clear b6 hV
        go_upto_region 10 with fail
        go_region_held3 (fun W' => W'.cell? ⟨J, 0, none⟩ = some (.pointer (some ⟨hb.h, 0, none⟩)) ∧ W'.cell? ⟨X, 0, none⟩ = some (.int .u64 (a1 : Nat))) (go_keep) (first | (go_at_call 39; refine (FT.out w6.drew ⟨B6.out.os, B6.out.tape, B6.out.output, B6.out.size, B6.out.block⟩).mono ?_; rintro e w7 ⟨rfl, bb⟩; have B7 : Hid (Below W5.heap.size W5 w7) := Lib.hid (Below.trans (b := w6.drew) ⟨B6.out.os, B6.out.tape, B6.out.output, B6.out.size, B6.out.block⟩ (bb.mono B6.out.size)); obtain ⟨r0, r1, r2⟩ := KEEP.out w7 B7.out))
        clear p0 p1 p2 FT bb
        go_upto_region 16 with fail
        refine held_begin (S := (fun W' => W'.cell? ⟨J, 0, none⟩ = some (.pointer (some ⟨hb.h, 0, none⟩)) ∧ W'.cell? ⟨X, 0, none⟩ = some (.int .u64 (a1 : Nat)) ∧ W'.cell? ⟨X, 1, none⟩ = some (.int .u64 (b1 : Nat)))) (by kernel_rfl) ⟨r0, r1, r2⟩ (by kernel_rfl) (fun _ _ _ _ _ h => h) (fun hNS hQP hHeld => ?_)
        refine held_yes (i := 0) (d := 89) (v := .pointer (some ⟨J, 0, none⟩)) hNS hQP rfl (by kernel_rfl) rfl hHeld (fun _ _ => rfl) ?_
        try simp only [Act.put, List.setIfInBounds_toArray, List.set_cons_zero, List.set_cons_succ]
        refine held_yes (i := 1) (d := 90) (v := .pointer (some ⟨J, 0, none⟩)) hNS hQP rfl (by kernel_rfl) rfl hHeld (by intro w hSw; (try dsimp only at hSw); go_simp) ?_
        try simp only [Act.put, List.setIfInBounds_toArray, List.set_cons_zero, List.set_cons_succ]
        refine held_yes (i := 2) (d := 91) (v := .pointer (some ⟨J, 0, none⟩)) hNS hQP rfl (by kernel_rfl) rfl hHeld (by intro w hSw; (try dsimp only at hSw); go_simp) ?_
        try simp only [Act.put, List.setIfInBounds_toArray, List.set_cons_zero, List.set_cons_succ]
        refine held_yes (i := 3) (d := 92) (v := .pointer (some ⟨hb.h, 0, none⟩)) hNS hQP rfl (by kernel_rfl) rfl hHeld (by intro w hSw; (try dsimp only at hSw); go_simp) ?_
        try simp only [Act.put, List.setIfInBounds_toArray, List.set_cons_zero, List.set_cons_succ]
        refine held_yes (i := 4) (d := 93) (v := .pointer (some ⟨X, 0, none⟩)) hNS hQP rfl (by kernel_rfl) rfl hHeld (by intro w hSw; (try dsimp only at hSw); go_simp) ?_
        try simp only [Act.put, List.setIfInBounds_toArray, List.set_cons_zero, List.set_cons_succ]
        refine held_yes (i := 5) (d := 94) (v := .int .u64 (a1 : Nat)) hNS hQP rfl (by kernel_rfl) rfl hHeld (by intro w hSw; (try dsimp only at hSw); go_simp) ?_
        try simp only [Act.put, List.setIfInBounds_toArray, List.set_cons_zero, List.set_cons_succ]
        refine wpAnyH_ready (rs := [6]) (by kernel_rfl) (by simp) ?_
        refine AllReadyH.cons rfl (fun K hK => ?_) AllReadyH.nil
        go_simp
        (go_at_call 52; refine (FP.out w7.drew ⟨B7.out.os, B7.out.tape, B7.out.output, B7.out.size, B7.out.block⟩).mono ?_; rintro e w8 ⟨rfl, b8⟩; have B8 : Hid (Below W5.heap.size W5 w8) := Lib.hid (Below.trans (b := w7.drew) ⟨B7.out.os, B7.out.tape, B7.out.output, B7.out.size, B7.out.block⟩ (b8.mono B7.out.size)); obtain ⟨t0, t1, t2⟩ := KEEP.out w8 B8.out)
        try go_simp
        refine hK.out _ _ ⟨t0, t1, t2⟩ (fun hHeld => ?_)
        clear hK K
        try simp only [Act.put, List.setIfInBounds_toArray, List.set_cons_zero, List.set_cons_succ]
        refine held_yes (i := 7) (d := 96) (v := .bool true) hNS hQP rfl (by kernel_rfl) rfl hHeld (fun _ _ => rfl) ?_
        try simp only [Act.put, List.setIfInBounds_toArray, List.set_cons_zero, List.set_cons_succ]
        refine held_yes (i := 8) (d := 97) (v := .pointer (some ⟨J, 0, none⟩)) hNS hQP rfl (by kernel_rfl) rfl hHeld (fun _ _ => rfl) ?_
        try simp only [Act.put, List.setIfInBounds_toArray, List.set_cons_zero, List.set_cons_succ]
        refine held_yes (i := 9) (d := 98) (v := .pointer (some ⟨J, 0, none⟩)) hNS hQP rfl (by kernel_rfl) rfl hHeld (by intro w hSw; (try dsimp only at hSw); go_simp) ?_
        try simp only [Act.put, List.setIfInBounds_toArray, List.set_cons_zero, List.set_cons_succ]
        refine held_yes (i := 10) (d := 99) (v := .pointer (some ⟨J, 0, none⟩)) hNS hQP rfl (by kernel_rfl) rfl hHeld (by intro w hSw; (try dsimp only at hSw); go_simp) ?_
        try simp only [Act.put, List.setIfInBounds_toArray, List.set_cons_zero, List.set_cons_succ]
        refine held_yes (i := 11) (d := 100) (v := .pointer (some ⟨hb.h, 0, none⟩)) hNS hQP rfl (by kernel_rfl) rfl hHeld (by intro w hSw; (try dsimp only at hSw); go_simp) ?_
        try simp only [Act.put, List.setIfInBounds_toArray, List.set_cons_zero, List.set_cons_succ]
        refine held_yes (i := 12) (d := 101) (v := .pointer (some ⟨X, 1, none⟩)) hNS hQP rfl (by kernel_rfl) rfl hHeld (by intro w hSw; (try dsimp only at hSw); go_simp) ?_
        try simp only [Act.put, List.setIfInBounds_toArray, List.set_cons_zero, List.set_cons_succ]
        refine held_yes (i := 13) (d := 102) (v := .int .u64 (b1 : Nat)) hNS hQP rfl (by kernel_rfl) rfl hHeld (by intro w hSw; (try dsimp only at hSw); go_simp) ?_
        try simp only [Act.put, List.setIfInBounds_toArray, List.set_cons_zero, List.set_cons_succ]
        refine wpAnyH_ready (rs := [14]) (by kernel_rfl) (by simp) ?_
        refine AllReadyH.cons rfl (fun K hK => ?_) AllReadyH.nil
        go_simp
        (go_at_call 52; refine (FPB.out _ B8.out).mono ?_; rintro e w9 ⟨rfl, b9⟩; have B9 : Hid (Below W5.heap.size W5 w9) := Lib.hid (B8.out.trans (b9.mono B8.out.size)); obtain ⟨s0, s1, s2⟩ := KEEP.out w9 B9.out)
        try go_simp
        refine hK.out _ _ ⟨s0, s1, s2⟩ (fun hHeld => ?_)
        clear hK K
        try simp only [Act.put, List.setIfInBounds_toArray, List.set_cons_zero, List.set_cons_succ]
        refine held_yes (i := 15) (d := 104) (v := .bool true) hNS hQP rfl (by kernel_rfl) rfl hHeld (by intro w hSw; (try dsimp only at hSw); go_simp) ?_
        try simp only [Act.put, List.setIfInBounds_toArray, List.set_cons_zero, List.set_cons_succ]
        refine held_yes (i := 16) (d := 88) (v := .bool true) hNS hQP rfl (by kernel_rfl) rfl hHeld (fun _ _ => rfl) ?_
        try simp only [Act.put, List.setIfInBounds_toArray, List.set_cons_zero, List.set_cons_succ]
        refine wpAnyH_done (by kernel_rfl) ?_ _
        clear hNS hQP hHeld
        clear r0 r1 r2 t0 t1 t2 FP FPB
        go_upto_region 17 with fail
        go_region_held3 (fun W' => W'.cell? ⟨J, 0, none⟩ = some (.pointer (some ⟨hb.h, 0, none⟩)) ∧ W'.cell? ⟨X, 0, none⟩ = some (.int .u64 (a1 : Nat))) (go_keep) (first | (go_at_call 37; refine (FDA.out w9.drew ⟨B9.out.os, B9.out.tape, B9.out.output, B9.out.size, B9.out.block⟩).mono ?_; rintro e w10 ⟨rfl, bb⟩; have B10 : Hid (Below W5.heap.size W5 w10) := Lib.hid (Below.trans (b := w9.drew) ⟨B9.out.os, B9.out.tape, B9.out.output, B9.out.size, B9.out.block⟩ (bb.mono B9.out.size)); obtain ⟨p0, p1, p2⟩ := KEEP.out w10 B10.out))
        clear s0 s1 s2 FDA bb
        go_upto_region 18 with fail
        go_region_held3 (fun W' => W'.cell? ⟨J, 0, none⟩ = some (.pointer (some ⟨hb.h, 0, none⟩)) ∧ W'.cell? ⟨X, 1, none⟩ = some (.int .u64 (b1 : Nat))) (go_keep) (first | (go_at_call 37; refine (FDB.out w10.drew ⟨B10.out.os, B10.out.tape, B10.out.output, B10.out.size, B10.out.block⟩).mono ?_; rintro e w11 ⟨rfl, bb⟩; have B11 : Hid (Below W5.heap.size W5 w11) := Lib.hid (Below.trans (b := w10.drew) ⟨B10.out.os, B10.out.tape, B10.out.output, B10.out.size, B10.out.block⟩ (bb.mono B10.out.size)); obtain ⟨r0, r1, r2⟩ := KEEP.out w11 B11.out))
        clear p0 p1 p2 FDB bb
        have hpu := push2_any (N := X) (T := w.heap.size + 1) (s := t'.reverse) (B := w.heap.size) (by have := E5.out.size; have := B11.out.size; omega) (Nat.lt_of_lt_of_le XL.out B11.out.size) (LN5.out.below B11.out) (by rw [List.length_reverse]; have := HLEN.out; omega) y y'
        clear r0 r1 r2
        go_wp2_with fail
        refine hpu.mono ?_
        rintro e w12 ⟨⟨v12, rfl⟩, l12, o12, ta12, ou12, sz12, bk12⟩
        have E12 := Lib.hid (eq_push (E5.out.below B11.out) HLT.out hJl l12 o12 ta12 ou12 sz12 bk12)
        have x12 : w12.heap[X]? = some (.cells #[.int .u64 (a1 : Nat), .int .u64 (b1 : Nat)] 204 (0, 0)) := (bk12 X (Nat.lt_of_lt_of_le XL.out B11.out.size) (.inr rfl) (by have := XT.out; omega)).trans ((B11.out.block X XL.out).trans X5.out)
        have keep2 : ∀ W', Below w12.heap.size w12 W' → W'.cell? ⟨J, 0, none⟩ = some (.pointer (some ⟨hb.h, 0, none⟩)) ∧ W'.cell? ⟨X, 0, none⟩ = some (.int .u64 (a1 : Nat)) ∧ W'.cell? ⟨X, 1, none⟩ = some (.int .u64 (b1 : Nat)) := fun W' b => by
          have h9 := (b.block X (lt_of_block x12)).trans x12
          exact ⟨(E12.out.jd.below b).cells.1, by simp [World.cell?, h9], by simp [World.cell?, h9]⟩
        have KEEP2 := Lib.hid keep2
        have X12 := Lib.hid (lt_of_block x12)
        have L12 := Lib.hid l12
        have FAA2 := Lib.hid (fun (W' : World) (bb : Below w12.heap.size w12 W') => FAA.out W' (E12.out.rep.below bb))
        have FAB2 := Lib.hid (fun (W' : World) (bb : Below w12.heap.size w12 W') => FAB.out W' (E12.out.rep.below bb))
        obtain ⟨p0, p1, p2⟩ := keep2 w12 (Below.refl _ _)
        have B12 := Lib.hid (Below.refl w12.heap.size w12)
        clear hpu l12 o12 ta12 ou12 sz12 bk12 x12 keep2 FAA FAB
        go_upto_region 20 with fail
        go_region_held3 (fun W' => W'.cell? ⟨J, 0, none⟩ = some (.pointer (some ⟨hb.h, 0, none⟩)) ∧ W'.cell? ⟨X, 0, none⟩ = some (.int .u64 (a1 : Nat))) (go_keep) (first | (go_at_call 36; refine (FAA2.out w12.drew ⟨B12.out.os, B12.out.tape, B12.out.output, B12.out.size, B12.out.block⟩).mono ?_; rintro e w13 ⟨rfl, bb⟩; have B13 : Hid (Below w12.heap.size w12 w13) := Lib.hid (Below.trans (b := w12.drew) ⟨B12.out.os, B12.out.tape, B12.out.output, B12.out.size, B12.out.block⟩ (bb.mono B12.out.size)); obtain ⟨r0, r1, r2⟩ := KEEP2.out w13 B13.out))
        clear p0 p1 p2 FAA2 bb
        go_upto_region 21 with fail
        go_region_held3 (fun W' => W'.cell? ⟨J, 0, none⟩ = some (.pointer (some ⟨hb.h, 0, none⟩)) ∧ W'.cell? ⟨X, 1, none⟩ = some (.int .u64 (b1 : Nat))) (go_keep) (first | (go_at_call 36; refine (FAB2.out w13.drew ⟨B13.out.os, B13.out.tape, B13.out.output, B13.out.size, B13.out.block⟩).mono ?_; rintro e w14 ⟨rfl, bb⟩; have B14 : Hid (Below w12.heap.size w12 w14) := Lib.hid (Below.trans (b := w13.drew) ⟨B13.out.os, B13.out.tape, B13.out.output, B13.out.size, B13.out.block⟩ (bb.mono B13.out.size)); obtain ⟨p0, p1, p2⟩ := KEEP2.out w14 B14.out))
        clear r0 r1 r2 FAB2 bb
        have hpu := push2_any (N := X) (T := w.heap.size + 1) (s := t'.reverse ++ [(y, y')]) (B := w.heap.size) (by have := E12.out.size; have := B14.out.size; omega) (Nat.lt_of_lt_of_le X12.out B14.out.size) (L12.out.below B14.out) (by rw [List.length_append, List.length_reverse]; have := HLEN.out; simp; omega) x x'
        clear p0 p1 p2
        go_wp2_with fail
        refine hpu.mono ?_
        rintro e w15 ⟨⟨v15, rfl⟩, l15, o15, ta15, ou15, sz15, bk15⟩
        have E15 := Lib.hid (eq_push (E12.out.below B14.out) HLT.out hJl (by rw [List.reverse_cons]; exact l15) o15 ta15 ou15 sz15 bk15)
        clear hpu l15 o15 ta15 ou15 sz15 bk15
        go_wp2_with fail
        go_roundw
        case rel => exact ⟨(x, x') :: (y, y') :: t', m', cnt + 1, by omega, HS.out, by have := HLEN.out; simp; omega, E15.out⟩
        case measure => rw [E15.out.jd.cnt, HMS.out]; omega
      | no hne hal hbl hor =>
        have hV := value_any E5.out.rep HT.out E5.out.jd a1 b1 hal hbl
        rw [decide_eq_false hne] at hV
        have HAL := Lib.hid hal
        have HBL := Lib.hid hbl
        clear hal hbl hne
        refine hV.mono ?_
        rintro e w6 ⟨rfl, b6⟩
        obtain ⟨q0, q1, q2⟩ := KEEP.out w6 b6
        have B6 := Lib.hid b6
        have FT : Hid (Calls Try.prog 39 #[.pointer (some ⟨hb.h, 0, none⟩), .int .u64 (a1 : Nat)] w6.drew fun e w' => e = .returned (.int .i64 (0 : Nat)) ∧ Below w6.drew.heap.size w6.drew w') := Lib.hid (by
          have h := type_any (E5.out.rep.below (w' := w6.drew) ⟨b6.os, b6.tape, b6.output, b6.size, b6.block⟩) a1 HAL.out
          rw [HT.out] at h
          exact h)
        clear b6 hV
        go_upto_region 10 with fail
        go_region_held3 (fun W' => W'.cell? ⟨J, 0, none⟩ = some (.pointer (some ⟨hb.h, 0, none⟩)) ∧ W'.cell? ⟨X, 0, none⟩ = some (.int .u64 (a1 : Nat))) (go_keep) (first | (go_at_call 39; refine FT.out.mono ?_; rintro e w7 ⟨rfl, b7⟩; have B7 : Hid (Below W5.heap.size W5 w7) := Lib.hid (Below.trans (b := w6.drew) ⟨B6.out.os, B6.out.tape, B6.out.output, B6.out.size, B6.out.block⟩ (b7.mono B6.out.size)); obtain ⟨p0, p1, p2⟩ := KEEP.out w7 B7.out))
        clear FT q0 q1 q2 b7
        cases hpa : M.pairOf a1 with
        | none =>
          have FP : Hid (Calls Try.prog 52 #[.pointer (some ⟨hb.h, 0, none⟩), .int .u64 (a1 : Nat)] w7.drew fun e w' => e = .returned (.bool false) ∧ Below w7.drew.heap.size w7.drew w') := Lib.hid (by
            have h := isPair_any (E5.out.rep.below (w' := w7.drew) ⟨B7.out.os, B7.out.tape, B7.out.output, B7.out.size, B7.out.block⟩) a1 HAL.out
            rw [hpa] at h
            exact h)
          clear hpa hor
          go_upto_region 16 with fail
          refine held_begin (S := (fun W' => W'.cell? ⟨J, 0, none⟩ = some (.pointer (some ⟨hb.h, 0, none⟩)) ∧ W'.cell? ⟨X, 0, none⟩ = some (.int .u64 (a1 : Nat)) ∧ W'.cell? ⟨X, 1, none⟩ = some (.int .u64 (b1 : Nat)))) (by kernel_rfl) ⟨p0, p1, p2⟩ (by kernel_rfl) (fun _ _ _ _ _ h => h) (fun hNS hQP hHeld => ?_)
          refine held_yes (i := 0) (d := 89) (v := .pointer (some ⟨J, 0, none⟩)) hNS hQP rfl (by kernel_rfl) rfl hHeld (fun _ _ => rfl) ?_
          try simp only [Act.put, List.setIfInBounds_toArray, List.set_cons_zero, List.set_cons_succ]
          refine held_yes (i := 1) (d := 90) (v := .pointer (some ⟨J, 0, none⟩)) hNS hQP rfl (by kernel_rfl) rfl hHeld (by intro w hSw; (try dsimp only at hSw); go_simp) ?_
          try simp only [Act.put, List.setIfInBounds_toArray, List.set_cons_zero, List.set_cons_succ]
          refine held_yes (i := 2) (d := 91) (v := .pointer (some ⟨J, 0, none⟩)) hNS hQP rfl (by kernel_rfl) rfl hHeld (by intro w hSw; (try dsimp only at hSw); go_simp) ?_
          try simp only [Act.put, List.setIfInBounds_toArray, List.set_cons_zero, List.set_cons_succ]
          refine held_yes (i := 3) (d := 92) (v := .pointer (some ⟨hb.h, 0, none⟩)) hNS hQP rfl (by kernel_rfl) rfl hHeld (by intro w hSw; (try dsimp only at hSw); go_simp) ?_
          try simp only [Act.put, List.setIfInBounds_toArray, List.set_cons_zero, List.set_cons_succ]
          refine held_yes (i := 4) (d := 93) (v := .pointer (some ⟨X, 0, none⟩)) hNS hQP rfl (by kernel_rfl) rfl hHeld (by intro w hSw; (try dsimp only at hSw); go_simp) ?_
          try simp only [Act.put, List.setIfInBounds_toArray, List.set_cons_zero, List.set_cons_succ]
          refine held_yes (i := 5) (d := 94) (v := .int .u64 (a1 : Nat)) hNS hQP rfl (by kernel_rfl) rfl hHeld (by intro w hSw; (try dsimp only at hSw); go_simp) ?_
          try simp only [Act.put, List.setIfInBounds_toArray, List.set_cons_zero, List.set_cons_succ]
          refine wpAnyH_ready (rs := [6]) (by kernel_rfl) (by simp) ?_
          refine AllReadyH.cons rfl (fun K hK => ?_) AllReadyH.nil
          go_simp
          (go_at_call 52; refine FP.out.mono ?_; rintro e w8 ⟨rfl, b8⟩; have B8 : Hid (Below W5.heap.size W5 w8) := Lib.hid (Below.trans (b := w7.drew) ⟨B7.out.os, B7.out.tape, B7.out.output, B7.out.size, B7.out.block⟩ (b8.mono B7.out.size)); obtain ⟨r0, r1, r2⟩ := KEEP.out w8 B8.out)
          try go_simp
          refine hK.out _ _ ⟨r0, r1, r2⟩ (fun hHeld => ?_)
          clear hK K
          try simp only [Act.put, List.setIfInBounds_toArray, List.set_cons_zero, List.set_cons_succ]
          refine held_yes (i := 7) (d := 96) (v := .bool false) hNS hQP rfl (by kernel_rfl) rfl hHeld (fun _ _ => rfl) ?_
          try simp only [Act.put, List.setIfInBounds_toArray, List.set_cons_zero, List.set_cons_succ]
          refine held_skip (i := 8) (d := 97) hNS hQP rfl (by kernel_rfl) rfl hHeld ?_
          try simp only [Act.put, List.setIfInBounds_toArray, List.set_cons_zero, List.set_cons_succ]
          refine held_skip (i := 9) (d := 98) hNS hQP rfl (by kernel_rfl) rfl hHeld ?_
          try simp only [Act.put, List.setIfInBounds_toArray, List.set_cons_zero, List.set_cons_succ]
          refine held_skip (i := 10) (d := 99) hNS hQP rfl (by kernel_rfl) rfl hHeld ?_
          try simp only [Act.put, List.setIfInBounds_toArray, List.set_cons_zero, List.set_cons_succ]
          refine held_skip (i := 11) (d := 100) hNS hQP rfl (by kernel_rfl) rfl hHeld ?_
          try simp only [Act.put, List.setIfInBounds_toArray, List.set_cons_zero, List.set_cons_succ]
          refine held_skip (i := 12) (d := 101) hNS hQP rfl (by kernel_rfl) rfl hHeld ?_
          try simp only [Act.put, List.setIfInBounds_toArray, List.set_cons_zero, List.set_cons_succ]
          refine held_skip (i := 13) (d := 102) hNS hQP rfl (by kernel_rfl) rfl hHeld ?_
          try simp only [Act.put, List.setIfInBounds_toArray, List.set_cons_zero, List.set_cons_succ]
          refine held_skip (i := 14) (d := 103) hNS hQP rfl (by kernel_rfl) rfl hHeld ?_
          try simp only [Act.put, List.setIfInBounds_toArray, List.set_cons_zero, List.set_cons_succ]
          refine held_yes (i := 15) (d := 104) (v := .bool false) hNS hQP rfl (by kernel_rfl) rfl hHeld (by intro w hSw; (try dsimp only at hSw); go_simp) ?_
          try simp only [Act.put, List.setIfInBounds_toArray, List.set_cons_zero, List.set_cons_succ]
          refine held_yes (i := 16) (d := 88) (v := .bool false) hNS hQP rfl (by kernel_rfl) rfl hHeld (fun _ _ => rfl) ?_
          try simp only [Act.put, List.setIfInBounds_toArray, List.set_cons_zero, List.set_cons_succ]
          refine wpAnyH_done (by kernel_rfl) ?_ _
          clear hNS hQP hHeld
          clear r0 r1 r2 p0 p1 p2
          obtain ⟨t0, t1, t2⟩ := KEEP.out w8 B8.out
          have FT2 : Hid (Calls Try.prog 39 #[.pointer (some ⟨hb.h, 0, none⟩), .int .u64 (b1 : Nat)] w8.drew fun e w' => e = .returned (.int .i64 (0 : Nat)) ∧ Below w8.drew.heap.size w8.drew w') := Lib.hid (by
            have h := type_any (E5.out.rep.below (w' := w8.drew) ⟨B8.out.os, B8.out.tape, B8.out.output, B8.out.size, B8.out.block⟩) b1 HBL.out
            rw [HT.out] at h
            exact h)
          go_upto_region 23 with fail
          refine held_begin (S := (fun W' => W'.cell? ⟨J, 0, none⟩ = some (.pointer (some ⟨hb.h, 0, none⟩)) ∧ W'.cell? ⟨X, 0, none⟩ = some (.int .u64 (a1 : Nat)) ∧ W'.cell? ⟨X, 1, none⟩ = some (.int .u64 (b1 : Nat)))) (by kernel_rfl) ⟨t0, t1, t2⟩ (by kernel_rfl) (fun _ _ _ _ _ h => h) (fun hNS hQP hHeld => ?_)
          refine held_yes (i := 0) (d := 154) (v := .int .i64 0) hNS hQP rfl (by kernel_rfl) rfl hHeld (fun _ _ => rfl) ?_
          try simp only [Act.put, List.setIfInBounds_toArray, List.set_cons_zero, List.set_cons_succ]
          refine held_yes (i := 1) (d := 155) (v := .pointer (some ⟨J, 0, none⟩)) hNS hQP rfl (by kernel_rfl) rfl hHeld (fun _ _ => rfl) ?_
          try simp only [Act.put, List.setIfInBounds_toArray, List.set_cons_zero, List.set_cons_succ]
          refine held_yes (i := 2) (d := 156) (v := .pointer (some ⟨J, 0, none⟩)) hNS hQP rfl (by kernel_rfl) rfl hHeld (by intro w hSw; (try dsimp only at hSw); go_simp) ?_
          try simp only [Act.put, List.setIfInBounds_toArray, List.set_cons_zero, List.set_cons_succ]
          refine held_yes (i := 3) (d := 157) (v := .pointer (some ⟨J, 0, none⟩)) hNS hQP rfl (by kernel_rfl) rfl hHeld (by intro w hSw; (try dsimp only at hSw); go_simp) ?_
          try simp only [Act.put, List.setIfInBounds_toArray, List.set_cons_zero, List.set_cons_succ]
          refine held_yes (i := 4) (d := 158) (v := .pointer (some ⟨hb.h, 0, none⟩)) hNS hQP rfl (by kernel_rfl) rfl hHeld (by intro w hSw; (try dsimp only at hSw); go_simp) ?_
          try simp only [Act.put, List.setIfInBounds_toArray, List.set_cons_zero, List.set_cons_succ]
          refine held_yes (i := 5) (d := 159) (v := .pointer (some ⟨X, 1, none⟩)) hNS hQP rfl (by kernel_rfl) rfl hHeld (by intro w hSw; (try dsimp only at hSw); go_simp) ?_
          try simp only [Act.put, List.setIfInBounds_toArray, List.set_cons_zero, List.set_cons_succ]
          refine held_yes (i := 6) (d := 160) (v := .int .u64 (b1 : Nat)) hNS hQP rfl (by kernel_rfl) rfl hHeld (by intro w hSw; (try dsimp only at hSw); go_simp) ?_
          try simp only [Act.put, List.setIfInBounds_toArray, List.set_cons_zero, List.set_cons_succ]
          refine wpAnyH_ready (rs := [7]) (by kernel_rfl) (by simp) ?_
          refine AllReadyH.cons rfl (fun K hK => ?_) AllReadyH.nil
          go_simp
          (go_at_call 39; refine FT2.out.mono ?_; rintro e w10 ⟨rfl, b10⟩; have B10 : Hid (Below W5.heap.size W5 w10) := Lib.hid (Below.trans (b := w8.drew) ⟨B8.out.os, B8.out.tape, B8.out.output, B8.out.size, B8.out.block⟩ (b10.mono B8.out.size)); obtain ⟨v0, v1, v2⟩ := KEEP.out w10 B10.out)
          try go_simp
          refine hK.out _ _ ⟨v0, v1, v2⟩ (fun hHeld => ?_)
          clear hK K
          try simp only [Act.put, List.setIfInBounds_toArray, List.set_cons_zero, List.set_cons_succ]
          refine held_yes (i := 8) (d := 162) (v := .bool false) hNS hQP rfl (by kernel_rfl) rfl hHeld (by intro w hSw; (try dsimp only at hSw); go_simp) ?_
          try simp only [Act.put, List.setIfInBounds_toArray, List.set_cons_zero, List.set_cons_succ]
          refine held_yes (i := 9) (d := 163) (v := .bool false) hNS hQP rfl (by kernel_rfl) rfl hHeld (fun _ _ => rfl) ?_
          try simp only [Act.put, List.setIfInBounds_toArray, List.set_cons_zero, List.set_cons_succ]
          refine held_yes (i := 10) (d := 164) (v := .int .i64 0) hNS hQP rfl (by kernel_rfl) rfl hHeld (fun _ _ => rfl) ?_
          try simp only [Act.put, List.setIfInBounds_toArray, List.set_cons_zero, List.set_cons_succ]
          refine held_yes (i := 11) (d := 165) (v := .bool true) hNS hQP rfl (by kernel_rfl) rfl hHeld (by intro w hSw; (try dsimp only at hSw); go_simp) ?_
          try simp only [Act.put, List.setIfInBounds_toArray, List.set_cons_zero, List.set_cons_succ]
          refine held_yes (i := 12) (d := 166) (v := .bool true) hNS hQP rfl (by kernel_rfl) rfl hHeld (fun _ _ => rfl) ?_
          try simp only [Act.put, List.setIfInBounds_toArray, List.set_cons_zero, List.set_cons_succ]
          refine held_yes (i := 13) (d := 167) (v := .int .i64 0) hNS hQP rfl (by kernel_rfl) rfl hHeld (fun _ _ => rfl) ?_
          try simp only [Act.put, List.setIfInBounds_toArray, List.set_cons_zero, List.set_cons_succ]
          refine held_yes (i := 14) (d := 168) (v := .bool true) hNS hQP rfl (by kernel_rfl) rfl hHeld (by intro w hSw; (try dsimp only at hSw); go_simp) ?_
          try simp only [Act.put, List.setIfInBounds_toArray, List.set_cons_zero, List.set_cons_succ]
          refine held_yes (i := 15) (d := 169) (v := .bool true) hNS hQP rfl (by kernel_rfl) rfl hHeld (by intro w hSw; (try dsimp only at hSw); go_simp) ?_
          try simp only [Act.put, List.setIfInBounds_toArray, List.set_cons_zero, List.set_cons_succ]
          refine held_yes (i := 16) (d := 170) (v := .bool true) hNS hQP rfl (by kernel_rfl) rfl hHeld (by intro w hSw; (try dsimp only at hSw); go_simp) ?_
          try simp only [Act.put, List.setIfInBounds_toArray, List.set_cons_zero, List.set_cons_succ]
          refine held_yes (i := 17) (d := 171) (v := .bool true) hNS hQP rfl (by kernel_rfl) rfl hHeld (fun _ _ => rfl) ?_
          try simp only [Act.put, List.setIfInBounds_toArray, List.set_cons_zero, List.set_cons_succ]
          refine held_skip (i := 18) (d := 172) hNS hQP rfl (by kernel_rfl) rfl hHeld ?_
          try simp only [Act.put, List.setIfInBounds_toArray, List.set_cons_zero, List.set_cons_succ]
          refine held_skip (i := 19) (d := 173) hNS hQP rfl (by kernel_rfl) rfl hHeld ?_
          try simp only [Act.put, List.setIfInBounds_toArray, List.set_cons_zero, List.set_cons_succ]
          refine held_skip (i := 20) (d := 174) hNS hQP rfl (by kernel_rfl) rfl hHeld ?_
          try simp only [Act.put, List.setIfInBounds_toArray, List.set_cons_zero, List.set_cons_succ]
          refine held_skip (i := 21) (d := 175) hNS hQP rfl (by kernel_rfl) rfl hHeld ?_
          try simp only [Act.put, List.setIfInBounds_toArray, List.set_cons_zero, List.set_cons_succ]
          refine held_skip (i := 22) (d := 176) hNS hQP rfl (by kernel_rfl) rfl hHeld ?_
          try simp only [Act.put, List.setIfInBounds_toArray, List.set_cons_zero, List.set_cons_succ]
          refine held_skip (i := 23) (d := 177) hNS hQP rfl (by kernel_rfl) rfl hHeld ?_
          try simp only [Act.put, List.setIfInBounds_toArray, List.set_cons_zero, List.set_cons_succ]
          refine held_skip (i := 24) (d := 178) hNS hQP rfl (by kernel_rfl) rfl hHeld ?_
          try simp only [Act.put, List.setIfInBounds_toArray, List.set_cons_zero, List.set_cons_succ]
          refine held_skip (i := 25) (d := 179) hNS hQP rfl (by kernel_rfl) rfl hHeld ?_
          try simp only [Act.put, List.setIfInBounds_toArray, List.set_cons_zero, List.set_cons_succ]
          refine held_skip (i := 26) (d := 180) hNS hQP rfl (by kernel_rfl) rfl hHeld ?_
          try simp only [Act.put, List.setIfInBounds_toArray, List.set_cons_zero, List.set_cons_succ]
          refine held_skip (i := 27) (d := 181) hNS hQP rfl (by kernel_rfl) rfl hHeld ?_
          try simp only [Act.put, List.setIfInBounds_toArray, List.set_cons_zero, List.set_cons_succ]
          refine held_skip (i := 28) (d := 182) hNS hQP rfl (by kernel_rfl) rfl hHeld ?_
          try simp only [Act.put, List.setIfInBounds_toArray, List.set_cons_zero, List.set_cons_succ]
          refine held_skip (i := 29) (d := 183) hNS hQP rfl (by kernel_rfl) rfl hHeld ?_
          try simp only [Act.put, List.setIfInBounds_toArray, List.set_cons_zero, List.set_cons_succ]
          refine held_skip (i := 30) (d := 184) hNS hQP rfl (by kernel_rfl) rfl hHeld ?_
          try simp only [Act.put, List.setIfInBounds_toArray, List.set_cons_zero, List.set_cons_succ]
          refine held_skip (i := 31) (d := 185) hNS hQP rfl (by kernel_rfl) rfl hHeld ?_
          try simp only [Act.put, List.setIfInBounds_toArray, List.set_cons_zero, List.set_cons_succ]
          refine held_skip (i := 32) (d := 186) hNS hQP rfl (by kernel_rfl) rfl hHeld ?_
          try simp only [Act.put, List.setIfInBounds_toArray, List.set_cons_zero, List.set_cons_succ]
          refine held_yes (i := 33) (d := 187) (v := .bool true) hNS hQP rfl (by kernel_rfl) rfl hHeld (by intro w hSw; (try dsimp only at hSw); go_simp) ?_
          try simp only [Act.put, List.setIfInBounds_toArray, List.set_cons_zero, List.set_cons_succ]
          refine held_yes (i := 34) (d := 153) (v := .bool true) hNS hQP rfl (by kernel_rfl) rfl hHeld (fun _ _ => rfl) ?_
          try simp only [Act.put, List.setIfInBounds_toArray, List.set_cons_zero, List.set_cons_succ]
          refine wpAnyH_done (by kernel_rfl) ?_ _
          clear hNS hQP hHeld
          clear t0 t1 t2 v0 v1 v2
          go_wp2_with fail
          go_ret2
          have E10 := E5.out.below B10.out
          exact ⟨by simp, E10.rep, ⟨cnt + 1, E10.jd, by omega⟩, E10.os, E10.tape, E10.output, E10.size, E10.block⟩
        | some pa =>
          have hpb : M.pairOf b1 = none := by rcases hor with h | h; (rw [hpa] at h; cases h); exact h
          clear hor
          have FP : Hid (Calls Try.prog 52 #[.pointer (some ⟨hb.h, 0, none⟩), .int .u64 (a1 : Nat)] w7.drew fun e w' => e = .returned (.bool true) ∧ Below w7.drew.heap.size w7.drew w') := Lib.hid (by
            have h := isPair_any (E5.out.rep.below (w' := w7.drew) ⟨B7.out.os, B7.out.tape, B7.out.output, B7.out.size, B7.out.block⟩) a1 HAL.out
            rw [hpa] at h
            exact h)
          have FPB : Hid (∀ W', Below W5.heap.size W5 W' → Calls Try.prog 52 #[.pointer (some ⟨hb.h, 0, none⟩), .int .u64 (b1 : Nat)] W' fun e w' => e = .returned (.bool false) ∧ Below W'.heap.size W' w') := Lib.hid (by
            intro W' b
            have h := isPair_any (E5.out.rep.below b) b1 HBL.out
            rw [hpb] at h
            exact h)
          clear hpa hpb
          go_upto_region 16 with fail
          refine held_begin (S := (fun W' => W'.cell? ⟨J, 0, none⟩ = some (.pointer (some ⟨hb.h, 0, none⟩)) ∧ W'.cell? ⟨X, 0, none⟩ = some (.int .u64 (a1 : Nat)) ∧ W'.cell? ⟨X, 1, none⟩ = some (.int .u64 (b1 : Nat)))) (by kernel_rfl) ⟨p0, p1, p2⟩ (by kernel_rfl) (fun _ _ _ _ _ h => h) (fun hNS hQP hHeld => ?_)
          refine held_yes (i := 0) (d := 89) (v := .pointer (some ⟨J, 0, none⟩)) hNS hQP rfl (by kernel_rfl) rfl hHeld (fun _ _ => rfl) ?_
          try simp only [Act.put, List.setIfInBounds_toArray, List.set_cons_zero, List.set_cons_succ]
          refine held_yes (i := 1) (d := 90) (v := .pointer (some ⟨J, 0, none⟩)) hNS hQP rfl (by kernel_rfl) rfl hHeld (by intro w hSw; (try dsimp only at hSw); go_simp) ?_
          try simp only [Act.put, List.setIfInBounds_toArray, List.set_cons_zero, List.set_cons_succ]
          refine held_yes (i := 2) (d := 91) (v := .pointer (some ⟨J, 0, none⟩)) hNS hQP rfl (by kernel_rfl) rfl hHeld (by intro w hSw; (try dsimp only at hSw); go_simp) ?_
          try simp only [Act.put, List.setIfInBounds_toArray, List.set_cons_zero, List.set_cons_succ]
          refine held_yes (i := 3) (d := 92) (v := .pointer (some ⟨hb.h, 0, none⟩)) hNS hQP rfl (by kernel_rfl) rfl hHeld (by intro w hSw; (try dsimp only at hSw); go_simp) ?_
          try simp only [Act.put, List.setIfInBounds_toArray, List.set_cons_zero, List.set_cons_succ]
          refine held_yes (i := 4) (d := 93) (v := .pointer (some ⟨X, 0, none⟩)) hNS hQP rfl (by kernel_rfl) rfl hHeld (by intro w hSw; (try dsimp only at hSw); go_simp) ?_
          try simp only [Act.put, List.setIfInBounds_toArray, List.set_cons_zero, List.set_cons_succ]
          refine held_yes (i := 5) (d := 94) (v := .int .u64 (a1 : Nat)) hNS hQP rfl (by kernel_rfl) rfl hHeld (by intro w hSw; (try dsimp only at hSw); go_simp) ?_
          try simp only [Act.put, List.setIfInBounds_toArray, List.set_cons_zero, List.set_cons_succ]
          refine wpAnyH_ready (rs := [6]) (by kernel_rfl) (by simp) ?_
          refine AllReadyH.cons rfl (fun K hK => ?_) AllReadyH.nil
          go_simp
          (go_at_call 52; refine FP.out.mono ?_; rintro e w8 ⟨rfl, b8⟩; have B8 : Hid (Below W5.heap.size W5 w8) := Lib.hid (Below.trans (b := w7.drew) ⟨B7.out.os, B7.out.tape, B7.out.output, B7.out.size, B7.out.block⟩ (b8.mono B7.out.size)); obtain ⟨r0, r1, r2⟩ := KEEP.out w8 B8.out)
          try go_simp
          refine hK.out _ _ ⟨r0, r1, r2⟩ (fun hHeld => ?_)
          clear hK K
          try simp only [Act.put, List.setIfInBounds_toArray, List.set_cons_zero, List.set_cons_succ]
          refine held_yes (i := 7) (d := 96) (v := .bool true) hNS hQP rfl (by kernel_rfl) rfl hHeld (fun _ _ => rfl) ?_
          try simp only [Act.put, List.setIfInBounds_toArray, List.set_cons_zero, List.set_cons_succ]
          refine held_yes (i := 8) (d := 97) (v := .pointer (some ⟨J, 0, none⟩)) hNS hQP rfl (by kernel_rfl) rfl hHeld (fun _ _ => rfl) ?_
          try simp only [Act.put, List.setIfInBounds_toArray, List.set_cons_zero, List.set_cons_succ]
          refine held_yes (i := 9) (d := 98) (v := .pointer (some ⟨J, 0, none⟩)) hNS hQP rfl (by kernel_rfl) rfl hHeld (by intro w hSw; (try dsimp only at hSw); go_simp) ?_
          try simp only [Act.put, List.setIfInBounds_toArray, List.set_cons_zero, List.set_cons_succ]
          refine held_yes (i := 10) (d := 99) (v := .pointer (some ⟨J, 0, none⟩)) hNS hQP rfl (by kernel_rfl) rfl hHeld (by intro w hSw; (try dsimp only at hSw); go_simp) ?_
          try simp only [Act.put, List.setIfInBounds_toArray, List.set_cons_zero, List.set_cons_succ]
          refine held_yes (i := 11) (d := 100) (v := .pointer (some ⟨hb.h, 0, none⟩)) hNS hQP rfl (by kernel_rfl) rfl hHeld (by intro w hSw; (try dsimp only at hSw); go_simp) ?_
          try simp only [Act.put, List.setIfInBounds_toArray, List.set_cons_zero, List.set_cons_succ]
          refine held_yes (i := 12) (d := 101) (v := .pointer (some ⟨X, 1, none⟩)) hNS hQP rfl (by kernel_rfl) rfl hHeld (by intro w hSw; (try dsimp only at hSw); go_simp) ?_
          try simp only [Act.put, List.setIfInBounds_toArray, List.set_cons_zero, List.set_cons_succ]
          refine held_yes (i := 13) (d := 102) (v := .int .u64 (b1 : Nat)) hNS hQP rfl (by kernel_rfl) rfl hHeld (by intro w hSw; (try dsimp only at hSw); go_simp) ?_
          try simp only [Act.put, List.setIfInBounds_toArray, List.set_cons_zero, List.set_cons_succ]
          refine wpAnyH_ready (rs := [14]) (by kernel_rfl) (by simp) ?_
          refine AllReadyH.cons rfl (fun K hK => ?_) AllReadyH.nil
          go_simp
          (go_at_call 52; refine (FPB.out _ B8.out).mono ?_; rintro e w9 ⟨rfl, b9⟩; have B9 : Hid (Below W5.heap.size W5 w9) := Lib.hid (B8.out.trans (b9.mono B8.out.size)); obtain ⟨s0, s1, s2⟩ := KEEP.out w9 B9.out)
          try go_simp
          refine hK.out _ _ ⟨s0, s1, s2⟩ (fun hHeld => ?_)
          clear hK K
          try simp only [Act.put, List.setIfInBounds_toArray, List.set_cons_zero, List.set_cons_succ]
          refine held_yes (i := 15) (d := 104) (v := .bool false) hNS hQP rfl (by kernel_rfl) rfl hHeld (by intro w hSw; (try dsimp only at hSw); go_simp) ?_
          try simp only [Act.put, List.setIfInBounds_toArray, List.set_cons_zero, List.set_cons_succ]
          refine held_yes (i := 16) (d := 88) (v := .bool false) hNS hQP rfl (by kernel_rfl) rfl hHeld (fun _ _ => rfl) ?_
          try simp only [Act.put, List.setIfInBounds_toArray, List.set_cons_zero, List.set_cons_succ]
          refine wpAnyH_done (by kernel_rfl) ?_ _
          clear hNS hQP hHeld
          clear r0 r1 r2 p0 p1 p2 s0 s1 s2
          have B8 := B9
          obtain ⟨t0, t1, t2⟩ := KEEP.out w9 B8.out
          have FT2 : Hid (Calls Try.prog 39 #[.pointer (some ⟨hb.h, 0, none⟩), .int .u64 (b1 : Nat)] w9.drew fun e w' => e = .returned (.int .i64 (0 : Nat)) ∧ Below w9.drew.heap.size w9.drew w') := Lib.hid (by
            have h := type_any (E5.out.rep.below (w' := w9.drew) ⟨B8.out.os, B8.out.tape, B8.out.output, B8.out.size, B8.out.block⟩) b1 HBL.out
            rw [HT.out] at h
            exact h)
          go_upto_region 23 with fail
          refine held_begin (S := (fun W' => W'.cell? ⟨J, 0, none⟩ = some (.pointer (some ⟨hb.h, 0, none⟩)) ∧ W'.cell? ⟨X, 0, none⟩ = some (.int .u64 (a1 : Nat)) ∧ W'.cell? ⟨X, 1, none⟩ = some (.int .u64 (b1 : Nat)))) (by kernel_rfl) ⟨t0, t1, t2⟩ (by kernel_rfl) (fun _ _ _ _ _ h => h) (fun hNS hQP hHeld => ?_)
          refine held_yes (i := 0) (d := 154) (v := .int .i64 0) hNS hQP rfl (by kernel_rfl) rfl hHeld (fun _ _ => rfl) ?_
          try simp only [Act.put, List.setIfInBounds_toArray, List.set_cons_zero, List.set_cons_succ]
          refine held_yes (i := 1) (d := 155) (v := .pointer (some ⟨J, 0, none⟩)) hNS hQP rfl (by kernel_rfl) rfl hHeld (fun _ _ => rfl) ?_
          try simp only [Act.put, List.setIfInBounds_toArray, List.set_cons_zero, List.set_cons_succ]
          refine held_yes (i := 2) (d := 156) (v := .pointer (some ⟨J, 0, none⟩)) hNS hQP rfl (by kernel_rfl) rfl hHeld (by intro w hSw; (try dsimp only at hSw); go_simp) ?_
          try simp only [Act.put, List.setIfInBounds_toArray, List.set_cons_zero, List.set_cons_succ]
          refine held_yes (i := 3) (d := 157) (v := .pointer (some ⟨J, 0, none⟩)) hNS hQP rfl (by kernel_rfl) rfl hHeld (by intro w hSw; (try dsimp only at hSw); go_simp) ?_
          try simp only [Act.put, List.setIfInBounds_toArray, List.set_cons_zero, List.set_cons_succ]
          refine held_yes (i := 4) (d := 158) (v := .pointer (some ⟨hb.h, 0, none⟩)) hNS hQP rfl (by kernel_rfl) rfl hHeld (by intro w hSw; (try dsimp only at hSw); go_simp) ?_
          try simp only [Act.put, List.setIfInBounds_toArray, List.set_cons_zero, List.set_cons_succ]
          refine held_yes (i := 5) (d := 159) (v := .pointer (some ⟨X, 1, none⟩)) hNS hQP rfl (by kernel_rfl) rfl hHeld (by intro w hSw; (try dsimp only at hSw); go_simp) ?_
          try simp only [Act.put, List.setIfInBounds_toArray, List.set_cons_zero, List.set_cons_succ]
          refine held_yes (i := 6) (d := 160) (v := .int .u64 (b1 : Nat)) hNS hQP rfl (by kernel_rfl) rfl hHeld (by intro w hSw; (try dsimp only at hSw); go_simp) ?_
          try simp only [Act.put, List.setIfInBounds_toArray, List.set_cons_zero, List.set_cons_succ]
          refine wpAnyH_ready (rs := [7]) (by kernel_rfl) (by simp) ?_
          refine AllReadyH.cons rfl (fun K hK => ?_) AllReadyH.nil
          go_simp
          (go_at_call 39; refine FT2.out.mono ?_; rintro e w10 ⟨rfl, b10⟩; have B10 : Hid (Below W5.heap.size W5 w10) := Lib.hid (Below.trans (b := w9.drew) ⟨B8.out.os, B8.out.tape, B8.out.output, B8.out.size, B8.out.block⟩ (b10.mono B8.out.size)); obtain ⟨v0, v1, v2⟩ := KEEP.out w10 B10.out)
          try go_simp
          refine hK.out _ _ ⟨v0, v1, v2⟩ (fun hHeld => ?_)
          clear hK K
          try simp only [Act.put, List.setIfInBounds_toArray, List.set_cons_zero, List.set_cons_succ]
          refine held_yes (i := 8) (d := 162) (v := .bool false) hNS hQP rfl (by kernel_rfl) rfl hHeld (by intro w hSw; (try dsimp only at hSw); go_simp) ?_
          try simp only [Act.put, List.setIfInBounds_toArray, List.set_cons_zero, List.set_cons_succ]
          refine held_yes (i := 9) (d := 163) (v := .bool false) hNS hQP rfl (by kernel_rfl) rfl hHeld (fun _ _ => rfl) ?_
          try simp only [Act.put, List.setIfInBounds_toArray, List.set_cons_zero, List.set_cons_succ]
          refine held_yes (i := 10) (d := 164) (v := .int .i64 0) hNS hQP rfl (by kernel_rfl) rfl hHeld (fun _ _ => rfl) ?_
          try simp only [Act.put, List.setIfInBounds_toArray, List.set_cons_zero, List.set_cons_succ]
          refine held_yes (i := 11) (d := 165) (v := .bool true) hNS hQP rfl (by kernel_rfl) rfl hHeld (by intro w hSw; (try dsimp only at hSw); go_simp) ?_
          try simp only [Act.put, List.setIfInBounds_toArray, List.set_cons_zero, List.set_cons_succ]
          refine held_yes (i := 12) (d := 166) (v := .bool true) hNS hQP rfl (by kernel_rfl) rfl hHeld (fun _ _ => rfl) ?_
          try simp only [Act.put, List.setIfInBounds_toArray, List.set_cons_zero, List.set_cons_succ]
          refine held_yes (i := 13) (d := 167) (v := .int .i64 0) hNS hQP rfl (by kernel_rfl) rfl hHeld (fun _ _ => rfl) ?_
          try simp only [Act.put, List.setIfInBounds_toArray, List.set_cons_zero, List.set_cons_succ]
          refine held_yes (i := 14) (d := 168) (v := .bool true) hNS hQP rfl (by kernel_rfl) rfl hHeld (by intro w hSw; (try dsimp only at hSw); go_simp) ?_
          try simp only [Act.put, List.setIfInBounds_toArray, List.set_cons_zero, List.set_cons_succ]
          refine held_yes (i := 15) (d := 169) (v := .bool true) hNS hQP rfl (by kernel_rfl) rfl hHeld (by intro w hSw; (try dsimp only at hSw); go_simp) ?_
          try simp only [Act.put, List.setIfInBounds_toArray, List.set_cons_zero, List.set_cons_succ]
          refine held_yes (i := 16) (d := 170) (v := .bool true) hNS hQP rfl (by kernel_rfl) rfl hHeld (by intro w hSw; (try dsimp only at hSw); go_simp) ?_
          try simp only [Act.put, List.setIfInBounds_toArray, List.set_cons_zero, List.set_cons_succ]
          refine held_yes (i := 17) (d := 171) (v := .bool true) hNS hQP rfl (by kernel_rfl) rfl hHeld (fun _ _ => rfl) ?_
          try simp only [Act.put, List.setIfInBounds_toArray, List.set_cons_zero, List.set_cons_succ]
          refine held_skip (i := 18) (d := 172) hNS hQP rfl (by kernel_rfl) rfl hHeld ?_
          try simp only [Act.put, List.setIfInBounds_toArray, List.set_cons_zero, List.set_cons_succ]
          refine held_skip (i := 19) (d := 173) hNS hQP rfl (by kernel_rfl) rfl hHeld ?_
          try simp only [Act.put, List.setIfInBounds_toArray, List.set_cons_zero, List.set_cons_succ]
          refine held_skip (i := 20) (d := 174) hNS hQP rfl (by kernel_rfl) rfl hHeld ?_
          try simp only [Act.put, List.setIfInBounds_toArray, List.set_cons_zero, List.set_cons_succ]
          refine held_skip (i := 21) (d := 175) hNS hQP rfl (by kernel_rfl) rfl hHeld ?_
          try simp only [Act.put, List.setIfInBounds_toArray, List.set_cons_zero, List.set_cons_succ]
          refine held_skip (i := 22) (d := 176) hNS hQP rfl (by kernel_rfl) rfl hHeld ?_
          try simp only [Act.put, List.setIfInBounds_toArray, List.set_cons_zero, List.set_cons_succ]
          refine held_skip (i := 23) (d := 177) hNS hQP rfl (by kernel_rfl) rfl hHeld ?_
          try simp only [Act.put, List.setIfInBounds_toArray, List.set_cons_zero, List.set_cons_succ]
          refine held_skip (i := 24) (d := 178) hNS hQP rfl (by kernel_rfl) rfl hHeld ?_
          try simp only [Act.put, List.setIfInBounds_toArray, List.set_cons_zero, List.set_cons_succ]
          refine held_skip (i := 25) (d := 179) hNS hQP rfl (by kernel_rfl) rfl hHeld ?_
          try simp only [Act.put, List.setIfInBounds_toArray, List.set_cons_zero, List.set_cons_succ]
          refine held_skip (i := 26) (d := 180) hNS hQP rfl (by kernel_rfl) rfl hHeld ?_
          try simp only [Act.put, List.setIfInBounds_toArray, List.set_cons_zero, List.set_cons_succ]
          refine held_skip (i := 27) (d := 181) hNS hQP rfl (by kernel_rfl) rfl hHeld ?_
          try simp only [Act.put, List.setIfInBounds_toArray, List.set_cons_zero, List.set_cons_succ]
          refine held_skip (i := 28) (d := 182) hNS hQP rfl (by kernel_rfl) rfl hHeld ?_
          try simp only [Act.put, List.setIfInBounds_toArray, List.set_cons_zero, List.set_cons_succ]
          refine held_skip (i := 29) (d := 183) hNS hQP rfl (by kernel_rfl) rfl hHeld ?_
          try simp only [Act.put, List.setIfInBounds_toArray, List.set_cons_zero, List.set_cons_succ]
          refine held_skip (i := 30) (d := 184) hNS hQP rfl (by kernel_rfl) rfl hHeld ?_
          try simp only [Act.put, List.setIfInBounds_toArray, List.set_cons_zero, List.set_cons_succ]
          refine held_skip (i := 31) (d := 185) hNS hQP rfl (by kernel_rfl) rfl hHeld ?_
          try simp only [Act.put, List.setIfInBounds_toArray, List.set_cons_zero, List.set_cons_succ]
          refine held_skip (i := 32) (d := 186) hNS hQP rfl (by kernel_rfl) rfl hHeld ?_
          try simp only [Act.put, List.setIfInBounds_toArray, List.set_cons_zero, List.set_cons_succ]
          refine held_yes (i := 33) (d := 187) (v := .bool true) hNS hQP rfl (by kernel_rfl) rfl hHeld (by intro w hSw; (try dsimp only at hSw); go_simp) ?_
          try simp only [Act.put, List.setIfInBounds_toArray, List.set_cons_zero, List.set_cons_succ]
          refine held_yes (i := 34) (d := 153) (v := .bool true) hNS hQP rfl (by kernel_rfl) rfl hHeld (fun _ _ => rfl) ?_
          try simp only [Act.put, List.setIfInBounds_toArray, List.set_cons_zero, List.set_cons_succ]
          refine wpAnyH_done (by kernel_rfl) ?_ _
          clear hNS hQP hHeld
          clear t0 t1 t2 v0 v1 v2
          go_wp2_with fail
          go_ret2
          have E10 := E5.out.below B10.out
          exact ⟨by simp, E10.rep, ⟨cnt + 1, E10.jd, by omega⟩, E10.os, E10.tape, E10.output, E10.size, E10.block⟩
end Go.Proofs.Ytecemlamoiepdaa
