/- lists.find's walk. -/
import Derived.Test.YtecemlamoiepdaaFind
namespace Go.Proofs.Ytecemlamoiepdaa
open Go.RowKit Go.Shelf
attribute [local go_sem] Oper.semAt_some

set_option maxRecDepth 100000 in
set_option maxHeartbeats 8000000 in
theorem find_any {hb : HB} {M : Hp} {w : World} (r : Rep hb M w) {v x : Nat} {l : List (Nat × Nat)} (hL : Lst M v l) (hv : v < 18446744073709551616) (hl : l.length ≤ 5000) (kd : Int) (cb : Bool) (ks outs : List Nat)
    (hk1 : cb = false → ks = l.map (·.2) ∧ outs = l.map (·.1)) (hk2 : cb = true → ks.length = l.length ∧ outs = l.map (·.2) ∧ ∀ (i y k : Nat), (l.map (·.2))[i]? = some y → ks[i]? = some k → M.half y 0 = some k) (hlt2 : ∀ y ∈ l.map (·.2), y < 18446744073709551616)
    (hS : SameOk hb M kd x ks) (j : Nat) (hj : j ≤ l.length) (hno : ∀ i, i < j → ∀ k, ks[i]? = some k → x ≠ k) (hyes : j < l.length → ks[j]? = some x) :
    Calls Try.prog 98 #[.pointer (some ⟨hb.h, 0, none⟩), .int .i64 kd, .int .u64 (x : Nat), .int .u64 (v : Nat), .bool cb] w fun e w' => e = .returned (.tuple #[.int .u64 ((outs[j]?).getD 4 : Nat), .int .i64 0]) ∧ Below w.heap.size w w' := by
  have hlt := r.lt
  obtain ⟨m, hm⟩ : ∃ m, m = l.length := ⟨_, rfl⟩
  obtain ⟨res, hres⟩ : ∃ z, z = (outs[j]?).getD 4 := ⟨_, rfl⟩
  rw [← hres]
  refine (callsIn_wide (n := 5)).1 ?_
  refine callsIn_of_wp_marks Try.func98 rfl trivial ?_ rfl
  simp only [Try.ntmps98, List.size_toArray, List.length_cons, List.length_nil, Nat.reduceAdd, Nat.reduceSub, Array.replicate_succ, Array.replicate_zero, List.push_toArray, List.append_toArray, List.nil_append, List.cons_append]
  have HV := Lib.hid hv
  have HLT := Lib.hid hlt
  have HL := Lib.hid hL
  have HM := Lib.hid hm
  have HR := Lib.hid hres
  have HK1 := Lib.hid hk1
  have HK2 := Lib.hid hk2
  have HL2 := Lib.hid hlt2
  have HS := Lib.hid hS
  have HNO := Lib.hid hno
  have HYES := Lib.hid hyes
  have R := Lib.hid r
  rw [← hm] at hl hj
  clear hv hlt hL hm r hres hk1 hk2 hlt2 hS hno hyes
  gi_wp2_with fail
  obtain ⟨w0, hw0⟩ : ∃ w0, w0 = (((((w.alloc (.cells #[.pointer (some ⟨hb.h, 0, none⟩)] 23)).alloc (.cells #[.int .i64 kd] 3)).alloc (.cells #[.int .u64 (x : Nat)] 29)).alloc (.cells #[.bool cb] 4)).alloc (.cells #[.int .u64 0] 29)).alloc (.cells #[.int .i64 0] 24) := ⟨_, rfl⟩
  rw [← hw0]
  obtain ⟨a0, a1, a2, a3, a4, a5, az, ab⟩ := alloc6 w _ _ _ _ _ _ w0 hw0
  refine ⟨trivial, (callsIn_wide.2 (list_any (R.out.below ab) HL.out HV.out (by rw [← HM.out]; omega))).mono ?_⟩
  rintro e w1 ⟨u, rfl, ou, ku, b1⟩
  have hz1 := b1.size
  have g0 := (b1.block _ (lt_of_block a0)).trans a0
  have g1 := (b1.block _ (lt_of_block a1)).trans a1
  have g2 := (b1.block _ (lt_of_block a2)).trans a2
  have g3 := (b1.block _ (lt_of_block a3)).trans a3
  have g4 := (b1.block _ (lt_of_block a4)).trans a4
  have g5 := (b1.block _ (lt_of_block a5)).trans a5
  obtain ⟨c0, _⟩ := box_at g0
  have B1 := Lib.hid (ab.trans (b1.mono (by rw [az]; omega)))
  have GS := Lib.hid (And.intro g0 (And.intro g1 (And.intro g2 (And.intro g3 (And.intro g4 g5)))))
  have HZ1 : Hid (w.heap.size + 6 ≤ w1.heap.size) := Lib.hid (by rw [az] at hz1; exact hz1)
  have hz6 : w.heap.size < w1.heap.size := by have := HZ1.out; omega
  clear hw0 a0 a1 a2 a3 a4 a5 az ab b1 ou ku hz1 g0 g1 g2 g3 g4 g5
  gi_wp2_with fail
  obtain ⟨J, hJ⟩ : ∃ J, J = w1.heap.size := ⟨_, rfl⟩
  refine ⟨trivial, (callsIn_wide.2 (pairs_any _ _ _)).mono ?_⟩
  rintro e w2 ⟨rfl, hw2⟩
  obtain ⟨a0, a1, a2, a3, az, ab⟩ := alloc4 w1 _ _ _ _ w2 hw2
  have B2 := Lib.hid (B1.out.trans (ab.mono B1.out.size))
  have st0 : FiAt hb M w kd x cb w.heap.size w1.heap.size 0 w2 := ⟨R.out.below B2.out, (ab.block _ (lt_of_block GS.out.1)).trans GS.out.1, (ab.block _ (lt_of_block GS.out.2.1)).trans GS.out.2.1, (ab.block _ (lt_of_block GS.out.2.2.1)).trans GS.out.2.2.1, (ab.block _ (lt_of_block GS.out.2.2.2.1)).trans GS.out.2.2.2.1, (ab.block _ (lt_of_block GS.out.2.2.2.2.1)).trans GS.out.2.2.2.2.1, (ab.block _ (lt_of_block GS.out.2.2.2.2.2)).trans GS.out.2.2.2.2.2,
    ⟨a0, fun h => by have := HLT.out _ h; omega⟩, a1, B2.out⟩
  have ST0 := Lib.hid st0
  have A2 := Lib.hid a2
  have A3 := Lib.hid a3
  have hJ6 := HZ1.out
  clear hw2 a0 a1 a2 a3 ab st0 c0
  simp only [World.size_alloc]
  rw [← hJ] at ST0 A2 A3 az hJ6 ⊢
  clear hz6 GS HZ1 hJ B1
  gi_wp2_with fail
  have hseq := pairs_seq (n := 4) ST0.out.rep HL.out HV.out (by omega) (nopair (by decide)) (by rw [← HM.out]; omega) (J + 1 + 1) (J + 1 + 1 + 1) (by omega) (fun h => by have := HLT.out _ h; omega) (fun h => by have := HLT.out _ h; omega) A2.out A3.out
  refine wpIn_range (gf := 128) (lb := #[.pointer (some ⟨J + 1 + 1, 0, none⟩), .pointer (some ⟨J + 1 + 1 + 1, 0, none⟩)]) rfl (enters_of Try.func128 (by kernel_rfl) rfl) hseq (by omega) ?hkk (fun _ => rfl)
    (fun pre W => ∃ i c : Nat, i ≤ j ∧ c ≤ i ∧ pre = (items 20 l).take i ∧ FiAt hb M w kd x cb w.heap.size J c W)
    (fun c _ W => (c = .exit 0 ∧ j = m ∧ ∃ c : Nat, FiAt hb M w kd x cb w.heap.size J c W) ∨ (c = .ret ∧ j < m ∧ FoAt w w.heap.size res W))
    ?hI ?hIx ⟨0, 0, Nat.zero_le _, Nat.le_refl _, by simp, ST0.out⟩ ?round ?done ?stop
  case hkk =>
    rintro k (hk | rfl | rfl)
    · have := HLT.out k hk; omega
    · omega
    · omega
  case hI =>
    refine OwnV.of_cells (n₀ := w.heap.size) (by omega) (by omega) ?_
    rintro s W W' ⟨i, c, h1, h2, h3, h4⟩ hk hbl
    exact ⟨i, c, h1, h2, h3, h4.step (by omega) hJ6 HLT.out hk hbl⟩
  case hIx =>
    intro c
    refine OwnV.of_cells (n₀ := w.heap.size) (by omega) (by omega) ?_
    rintro s W W' h hk hbl
    rcases h with ⟨h1, h2, c, h3⟩ | ⟨h1, h2, h3⟩
    · exact .inl ⟨h1, h2, c, h3.step (by omega) hJ6 HLT.out hk hbl⟩
    · exact .inr ⟨h1, h2, h3.step (by omega) hk hbl⟩
  case round =>
    constructor
    refine And.intro (fun l x W => ?_) ?_
    · gi_wp2
      exact ⟨rfl, trivial⟩
    rintro l0 pre x2 W ⟨i, c, h1, h2, h3, h4⟩ hz ⟨k, hpk, hxk⟩
    obtain rfl : i = k := by
      have h5 := congrArg List.length (h3.symm.trans hpk)
      have h6 := (List.getElem?_eq_some_iff.1 hxk).1
      rw [items_len] at h6
      rw [List.length_take, List.length_take, items_len] at h5
      have := HM.out
      omega
    by_cases hlt : i < m
    · obtain ⟨⟨uu, y⟩, hy⟩ : ∃ p, l[i]? = some p := ⟨_, List.getElem?_eq_getElem (by rw [← HM.out]; omega)⟩
      obtain rfl : x2 = (uu, false) := by rw [items_get hy] at hxk; cases hxk; rfl
      obtain ⟨kk, d, hu, hp, hd⟩ := LSeg.step HL.out i uu y hy
      have hul : uu < 18446744073709551616 := by have := hp.lt h4.rep.ok; omega
      have hC := car_ok h4.rep uu hul (v := y) (by rw [hu]; exact hp.car h4.rep.ok)
      obtain ⟨c0, _⟩ := box_at h4.b0
      obtain ⟨c3, _⟩ := box_at h4.b3
      have H4 := Lib.hid h4
      have HY := Lib.hid hy
      have HPK := Lib.hid hpk
      have HCI := Lib.hid h2
      clear h2 h3 h4 hpk hxk hu hp hd hul hy
      gi_wp2_with fail
      refine ⟨trivial, (CallsIn.inRound l0 (callsIn_wide.2 hC)).mono ?_⟩
      rintro e w3 ⟨rfl, b3⟩
      have H5 := Lib.hid (H4.out.on hJ6 b3)
      obtain ⟨c30, _⟩ := box_at H5.out.b0
      obtain ⟨c31, _⟩ := box_at H5.out.b1
      obtain ⟨c32, _⟩ := box_at H5.out.b2
      obtain ⟨c33, _⟩ := box_at H5.out.b3
      obtain ⟨c34, _⟩ := box_at H5.out.jb
      clear hC c0 c3
      cases cb with
      | false =>
        obtain ⟨e1, e2⟩ := HK1.out rfl
        have KEY : Hid (ks[i]? = some y) := Lib.hid (by rw [e1, List.getElem?_map, HY.out]; rfl)
        have HOUT : Hid (i = j → res = uu) := Lib.hid (by intro h; rw [HR.out, ← h, e2, List.getElem?_map, HY.out]; rfl)
        have hSm := HS.out w3 J c y (List.mem_of_getElem? KEY.out) H5.out.rep H5.out.jd (by have := HCI.out; omega)
        have H5SZ := Lib.hid b3.size
        have FR := Lib.hid b3.block
        clear e1 e2 b3
        gi_wp2_with fail
        have hfr0 : ∀ k, k < W.heap.size → w3.heap[k]? = W.heap[k]? := fun k h => FR.out k h
        have hsz0 : W.heap.size ≤ w3.heap.size := H5SZ.out
        by_cases hij : i = j
        · subst hij
          obtain rfl : y = x := by
            have h9 := HYES.out (by rw [← HM.out]; exact hlt)
            rw [KEY.out] at h9
            exact Option.some.inj h9
          rw [decide_eq_true rfl] at hSm
          clear c30 c31 c32 c33 c34
          refine ⟨trivial, (CallsIn.inRound l0 (callsIn_wide.2 hSm)).mono ?_⟩
          rintro e w9 ⟨rfl, r9, ⟨c1, j9, hc1⟩, o9, t9, u9, s9, k9⟩
          have H9 := Lib.hid (H5.out.judged hJ6 r9 j9 o9 t9 u9 s9 k9)
          obtain ⟨d4, f4⟩ := box_at H9.out.b4
          obtain ⟨d5, f5⟩ := box_at H9.out.b5
          have hres : res = uu := HOUT.out rfl
          subst hres
          have K9 := Lib.hid (fun k (h1 : k < W.heap.size) (h2 : k ≠ J) => (k9 k (Nat.lt_of_lt_of_le h1 hsz0) h2).trans (hfr0 k h1))
          have S9 := Lib.hid (Nat.le_trans hsz0 s9)
          clear hSm r9 j9 o9 t9 u9 s9 k9 hfr0 hsz0
          gi_wp2_with fail
          obtain ⟨k1, k2⟩ := fo_next (z := res) (N := J + 4) H9.out (by omega)
          refine ⟨?_, .inr ⟨rfl, hlt, k2⟩⟩
          rw [az]
          exact KeepsFrom.trans ⟨S9.out, fun k o hk hc hn => (K9.out k (lt_of_block hc) (by omega)).trans hc⟩ k1
        · have hne : x ≠ y := HNO.out i (by omega) y KEY.out
          rw [decide_eq_false hne] at hSm
          clear c30 c31 c32 c33 c34
          refine ⟨trivial, (CallsIn.inRound l0 (callsIn_wide.2 hSm)).mono ?_⟩
          rintro e w9 ⟨rfl, r9, ⟨c1, j9, hc1⟩, o9, t9, u9, s9, k9⟩
          have H9 := Lib.hid (H5.out.judged hJ6 r9 j9 o9 t9 u9 s9 k9)
          have K9 := Lib.hid (fun k (h1 : k < W.heap.size) (h2 : k ≠ J) => (k9 k (Nat.lt_of_lt_of_le h1 hsz0) h2).trans (hfr0 k h1))
          have S9 := Lib.hid (Nat.le_trans hsz0 s9)
          clear hSm r9 j9 o9 t9 u9 s9 k9 hfr0 hsz0
          gi_wp2_with fail
          refine ⟨?_, fun k hk => K9.out k ?_ ?_, i + 1, c1, by omega, by have := HCI.out; omega, ?_, H9.out⟩
          · rw [az]
            exact ⟨S9.out, fun k o hk hc hn => (K9.out k (lt_of_block hc) (by omega)).trans hc⟩
          · rcases hk with hk | rfl | rfl
            · have := HLT.out k hk; omega
            · omega
            · omega
          · rcases hk with hk | rfl | rfl
            · have := HLT.out k hk; omega
            · omega
            · omega
          · rw [List.take_add_one, items_get HY.out, HPK.out]; rfl
      | true =>
        obtain ⟨e1, e2, e3⟩ := HK2.out rfl
        obtain ⟨kx, hkx⟩ : ∃ kx, ks[i]? = some kx := ⟨_, List.getElem?_eq_getElem (by rw [e1, ← HM.out]; exact hlt)⟩
        have hyi : (l.map (·.2))[i]? = some y := by rw [List.getElem?_map, HY.out]; rfl
        have KEY := Lib.hid hkx
        have HOUT : Hid (i = j → res = y) := Lib.hid (by intro h; rw [HR.out, ← h, e2, hyi]; rfl)
        have hC2 := car_ok H5.out.rep y (HL2.out y (List.mem_of_getElem? hyi)) (e3 i y kx hyi hkx)
        have FR := Lib.hid b3
        clear e1 e2 e3 hkx hyi b3
        gi_wp2_with fail
        refine ⟨trivial, (CallsIn.inRound l0 (callsIn_wide.2 hC2)).mono ?_⟩
        rintro e w5 ⟨rfl, b5⟩
        have H6 := Lib.hid (H5.out.on hJ6 b5)
        have FR2 := Lib.hid (FR.out.trans (b5.mono FR.out.size))
        have H6SZ := Lib.hid FR2.out.size
        clear c30 c31 c32 c33 c34 b5 hC2
        obtain ⟨c30, _⟩ := box_at H6.out.b0
        obtain ⟨c31, _⟩ := box_at H6.out.b1
        obtain ⟨c32, _⟩ := box_at H6.out.b2
        obtain ⟨c33, _⟩ := box_at H6.out.b3
        obtain ⟨c34, _⟩ := box_at H6.out.jb
        have hSm := HS.out w5 J c kx (List.mem_of_getElem? KEY.out) H6.out.rep H6.out.jd (by have := HCI.out; omega)
        gi_wp2_with fail
        have hfr0 : ∀ k, k < W.heap.size → w5.heap[k]? = W.heap[k]? := fun k h => FR2.out.block k h
        have hsz0 : W.heap.size ≤ w5.heap.size := H6SZ.out
        by_cases hij : i = j
        · subst hij
          obtain rfl : kx = x := by
            have h9 := HYES.out (by rw [← HM.out]; exact hlt)
            rw [KEY.out] at h9
            exact Option.some.inj h9
          rw [decide_eq_true rfl] at hSm
          clear c30 c31 c32 c33 c34
          refine ⟨trivial, (CallsIn.inRound l0 (callsIn_wide.2 hSm)).mono ?_⟩
          rintro e w9 ⟨rfl, r9, ⟨c1, j9, hc1⟩, o9, t9, u9, s9, k9⟩
          have H9 := Lib.hid (H6.out.judged hJ6 r9 j9 o9 t9 u9 s9 k9)
          obtain ⟨d4, f4⟩ := box_at H9.out.b4
          obtain ⟨d5, f5⟩ := box_at H9.out.b5
          have hres : res = y := HOUT.out rfl
          subst hres
          have K9 := Lib.hid (fun k (h1 : k < W.heap.size) (h2 : k ≠ J) => (k9 k (Nat.lt_of_lt_of_le h1 hsz0) h2).trans (hfr0 k h1))
          have S9 := Lib.hid (Nat.le_trans hsz0 s9)
          clear hSm r9 j9 o9 t9 u9 s9 k9 hfr0 hsz0
          gi_wp2_with fail
          obtain ⟨k1, k2⟩ := fo_next (z := res) (N := J + 4) H9.out (by omega)
          refine ⟨?_, .inr ⟨rfl, hlt, k2⟩⟩
          rw [az]
          exact KeepsFrom.trans ⟨S9.out, fun k o hk hc hn => (K9.out k (lt_of_block hc) (by omega)).trans hc⟩ k1
        · have hne : x ≠ kx := HNO.out i (by omega) kx KEY.out
          rw [decide_eq_false hne] at hSm
          clear c30 c31 c32 c33 c34
          refine ⟨trivial, (CallsIn.inRound l0 (callsIn_wide.2 hSm)).mono ?_⟩
          rintro e w9 ⟨rfl, r9, ⟨c1, j9, hc1⟩, o9, t9, u9, s9, k9⟩
          have H9 := Lib.hid (H6.out.judged hJ6 r9 j9 o9 t9 u9 s9 k9)
          have K9 := Lib.hid (fun k (h1 : k < W.heap.size) (h2 : k ≠ J) => (k9 k (Nat.lt_of_lt_of_le h1 hsz0) h2).trans (hfr0 k h1))
          have S9 := Lib.hid (Nat.le_trans hsz0 s9)
          clear hSm r9 j9 o9 t9 u9 s9 k9 hfr0 hsz0
          gi_wp2_with fail
          refine ⟨?_, fun k hk => K9.out k ?_ ?_, i + 1, c1, by omega, by have := HCI.out; omega, ?_, H9.out⟩
          · rw [az]
            exact ⟨S9.out, fun k o hk hc hn => (K9.out k (lt_of_block hc) (by omega)).trans hc⟩
          · rcases hk with hk | rfl | rfl
            · have := HLT.out k hk; omega
            · omega
            · omega
          · rcases hk with hk | rfl | rfl
            · have := HLT.out k hk; omega
            · omega
            · omega
          · rw [List.take_add_one, items_get HY.out, HPK.out]; rfl
    · obtain rfl : i = j := by omega
      obtain rfl : i = m := by omega
      obtain rfl : x2 = (20, true) := by
        have h5 := items_last 20 l
        rw [← HM.out, hxk] at h5
        simpa using h5
      have H4 := Lib.hid h4
      clear h2 h3 h4 hpk hxk
      gi_wp2_with fail
      exact ⟨KeepsFrom.refl _ _, rfl, c, H4.out⟩
  case done =>
    rintro D xs W hD rfl ⟨i, c, h1, h2, h3, h4⟩ hK
    exfalso
    have := congrArg List.length h3
    rw [List.length_take, items_len] at this
    have := HM.out
    omega
  case stop =>
    rintro D c pre W hD _ h hK
    rcases h with ⟨rfl, hjm, c, h3⟩ | ⟨rfl, hjm, h3⟩
    · obtain ⟨c4, f4⟩ := box_at h3.b4
      obtain ⟨c5, f5⟩ := box_at h3.b5
      have H3 := Lib.hid h3
      have HK := Lib.hid hK
      clear h3 hK
      gi_wp2_with fail
      obtain ⟨k1, k2⟩ := fo_next (z := 4) (N := J + 4) H3.out (by omega)
      have hres : res = 4 := by
        rw [HR.out, List.getElem?_eq_none]
        · rfl
        · rw [hjm, HM.out]
          cases cb with
          | false => rw [(HK1.out rfl).2, List.length_map]; exact Nat.le_refl _
          | true => rw [(HK2.out rfl).2.1, List.length_map]; exact Nat.le_refl _
      subst hres
      have h44 : ((4 : Nat) : Int) = 4 := rfl
      rw [h44] at k1
      obtain ⟨W2, hW2⟩ : ∃ W2, W2 = (W.setCell ⟨w.heap.size + 1 + 1 + 1 + 1, 0, none⟩ (.int .u64 4)).setCell ⟨w.heap.size + 1 + 1 + 1 + 1 + 1, 0, none⟩ (.int .i64 0) := ⟨_, rfl⟩
      rw [← hW2] at k1 ⊢
      have k3 : FoAt w w.heap.size 4 W2 := by rw [hW2]; exact k2
      have hK2 : W2.heap[D]? = some (.deferred (some [])) := k1.same D _ (by omega) HK.out rfl
      refine ⟨by simp, .inl ⟨_, _, rfl, run_takeDeferred hK2, ?_⟩⟩
      obtain ⟨W3, hW3⟩ : ∃ W3, W3 = W2.putObj D (.deferred none) := ⟨_, rfl⟩
      rw [← hW3]
      have hold3 : ∀ k, k ≠ D → W3.heap[k]? = W2.heap[k]? := fun k h => by rw [hW3]; exact World.putObj_heap_other h
      obtain ⟨d4, _⟩ := box_at ((hold3 _ (by omega)).trans k3.b4)
      obtain ⟨d5, _⟩ := box_at ((hold3 _ (by omega)).trans k3.b5)
      refine ⟨.tuple #[.int .u64 (4 : Nat), .int .i64 0], by simp [results, Try.f98, go_sem, d4, d5], rfl, ?_⟩
      rw [hW3]
      exact k3.below.grown (grownBy_putObj' W2 D _) k3.below.size (fun k e => by cases e; omega)
    · obtain ⟨c4, f4⟩ := box_at h3.b4
      obtain ⟨c5, f5⟩ := box_at h3.b5
      have H3 := Lib.hid h3
      have HK := Lib.hid hK
      clear h3 hK
      gi_wp2_with fail
      refine ⟨by simp, .inl ⟨_, _, rfl, run_takeDeferred HK.out, ?_⟩⟩
      obtain ⟨W3, hW3⟩ : ∃ W3, W3 = W.putObj D (.deferred none) := ⟨_, rfl⟩
      rw [← hW3]
      have hold3 : ∀ k, k ≠ D → W3.heap[k]? = W.heap[k]? := fun k h => by rw [hW3]; exact World.putObj_heap_other h
      obtain ⟨d4, _⟩ := box_at ((hold3 _ (by omega)).trans H3.out.b4)
      obtain ⟨d5, _⟩ := box_at ((hold3 _ (by omega)).trans H3.out.b5)
      refine ⟨.tuple #[.int .u64 (res : Nat), .int .i64 0], by simp [results, Try.f98, go_sem, d4, d5], rfl, ?_⟩
      rw [hW3]
      exact H3.out.below.grown (grownBy_putObj' W D _) H3.out.below.size (fun k e => by cases e; omega)
end Go.Proofs.Ytecemlamoiepdaa
