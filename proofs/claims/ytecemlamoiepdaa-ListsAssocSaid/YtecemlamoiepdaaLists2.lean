/- The contract of lists.List: the elements of a list. -/
import Derived.Test.YtecemlamoiepdaaLists
import Derived.Outline
namespace Go.Proofs.Ytecemlamoiepdaa
open Go.RowKit Go.Shelf
attribute [local go_sem] Oper.semAt_some

/-- what a loop's own row of words is -/
structure RowAt (B0 Bl : Nat) (W : World) (ws : List Nat) : Prop where
  ex : ∃ u, W.heap[Bl]? = some (.cells #[u] 39 (0, 0)) ∧ OwnW W u ws ∧ ∀ k, u.ownBlock = some k → B0 ≤ k

theorem OwnW.isCells {w : World} {v : Value} {ws : List Nat} (h : OwnW w v ws) {k : Nat} (hk : v.ownBlock = some k) : ∃ cs t z, w.heap[k]? = some (.cells cs t z) := by
  rcases h.2 with ⟨rfl, _⟩ | ⟨g, cap, cur, rfl, _, hg, _⟩
  · cases hk
  · cases hk; exact ⟨_, _, _, hg⟩

theorem Rep.isCells {hb : HB} {M : Hp} {w : World} (r : Rep hb M w) {k : Nat} (hk : hb.has k) : ∃ cs t z, w.heap[k]? = some (.cells cs t z) := by
  rcases hk with rfl | rfl | rfl | rfl | rfl
  · exact ⟨_, _, _, r.bh⟩
  · exact ⟨_, _, _, r.bc⟩
  · obtain ⟨cs, h, _⟩ := r.bs; exact ⟨_, _, _, h⟩
  · exact ⟨_, _, _, r.bm⟩
  · obtain ⟨cs, h, _⟩ := r.bg; exact ⟨_, _, _, h⟩

theorem alloc6 (w : World) (o0 o1 o2 o3 o4 o5 : Obj) : ∀ w1, w1 = (((((w.alloc o0).alloc o1).alloc o2).alloc o3).alloc o4).alloc o5 →
    w1.heap[w.heap.size]? = some o0 ∧ w1.heap[w.heap.size + 1]? = some o1 ∧ w1.heap[w.heap.size + 1 + 1]? = some o2 ∧ w1.heap[w.heap.size + 1 + 1 + 1]? = some o3 ∧ w1.heap[w.heap.size + 1 + 1 + 1 + 1]? = some o4 ∧
    w1.heap[w.heap.size + 1 + 1 + 1 + 1 + 1]? = some o5 ∧ w1.heap.size = w.heap.size + 6 ∧ Below w.heap.size w w1 := by
  rintro w1 rfl
  refine ⟨?_, ?_, ?_, ?_, ?_, ?_, by simp, ?_⟩
  · simp only [heap_alloc_if, World.size_alloc]; rw [if_neg (by omega), if_neg (by omega), if_neg (by omega), if_neg (by omega), if_neg (by omega), if_pos trivial]
  · simp only [heap_alloc_if, World.size_alloc]; rw [if_neg (by omega), if_neg (by omega), if_neg (by omega), if_neg (by omega), if_pos trivial]
  · simp only [heap_alloc_if, World.size_alloc]; rw [if_neg (by omega), if_neg (by omega), if_neg (by omega), if_pos trivial]
  · simp only [heap_alloc_if, World.size_alloc]; rw [if_neg (by omega), if_neg (by omega), if_pos trivial]
  · simp only [heap_alloc_if, World.size_alloc]; rw [if_neg (by omega), if_pos trivial]
  · simp only [heap_alloc_if, World.size_alloc]; rw [if_pos trivial]
  · exact ((((((Below.refl _ w).alloc (Nat.le_refl _) _).alloc (by simp) _).alloc (by simp; omega) _).alloc (by simp; omega) _).alloc (by simp; omega) _).alloc (by simp; omega) _

/-- what stands while List goes on -/
structure LiAt (hb : HB) (M : Hp) (w : World) (B : Nat) (W : World) : Prop where
  rep : Rep hb M W
  b0 : W.heap[B]? = some (.cells #[.pointer (some ⟨hb.h, 0, none⟩)] 23 (0, 0))
  b1 : W.heap[B + 1]? = some (.cells #[.slice none 0 0] 39 (0, 0))
  b2 : W.heap[B + 1 + 1]? = some (.cells #[.bool false] 4 (0, 0))
  below : Below B w W

theorem LiAt.step {hb : HB} {M : Hp} {w W W' : World} {B Bw : Nat} (h : LiAt hb M w B W) (hw : B + 6 ≤ Bw + 1) (hhb : ∀ k, hb.has k → k < B) (hk : ∀ k cs t z, k ≠ Bw → W.heap[k]? = some (.cells cs t z) → W'.heap[k]? = W.heap[k]?) (hB : B ≤ w.heap.size) (hb' : B ≤ W.heap.size → Below B W W') : LiAt hb M w B W' :=
  ⟨h.rep.of_blocks fun k hk' => by obtain ⟨cs, t, z, hc⟩ := h.rep.isCells hk'; exact hk k cs t z (by have := hhb k hk'; omega) hc,
   (hk _ _ _ _ (by omega) h.b0).trans h.b0, (hk _ _ _ _ (by omega) h.b1).trans h.b1, (hk _ _ _ _ (by omega) h.b2).trans h.b2, h.below.trans (hb' (Nat.le_trans hB h.below.size))⟩

theorem RowAt.step {B0 Bl Bw : Nat} {W W' : World} {ws : List Nat} (h : RowAt B0 Bl W ws) (hl : Bl ≠ Bw) (h0 : Bw < B0) (hk : ∀ k cs t z, k ≠ Bw → W.heap[k]? = some (.cells cs t z) → W'.heap[k]? = W.heap[k]?) : RowAt B0 Bl W' ws := by
  obtain ⟨u, h1, h2, h3⟩ := h.ex
  refine ⟨u, (hk _ _ _ _ hl h1).trans h1, ownW_block h2 fun k e => ?_, h3⟩
  obtain ⟨cs, t, z, hc⟩ := h2.isCells e
  exact hk k cs t z (by have := h3 k e; omega) hc

/-- a word is laid behind the row -/
theorem li_append {hb : HB} {M : Hp} {w W w2 w6 : World} {B y : Nat} {u v' : Value} {ws : List Nat} {cs : Array Value} {e : TypeId} (h3 : LiAt hb M w B W) (hB : B = w.heap.size) (g3 : W.heap[B + 1 + 1 + 1]? = some (.cells #[u] 39 (0, 0))) (o3 : OwnW W u ws) (k3 : ∀ k, u.ownBlock = some k → B + 6 ≤ k)
    (b2 : Below W.heap.size W w2) (hgrow : (w2.alloc (.cells cs e)).grownBy w6 u.ownBlock) (hown : w6.ownsRow 0 29 1 v' (ws.length + 1) (ws.map wv ++ [wv y])) (hat : v'.ownBlock = u.ownBlock ∨ v'.ownBlock = some (w2.alloc (.cells cs e)).heap.size)
    (hlt : ∀ k, hb.has k → k < B) (hz : B + 6 ≤ W.heap.size) :
    KeepsFrom (B + 6) W (w6.setCell ⟨B + 1 + 1 + 1, 0, none⟩ v') ∧ (∀ k, k < W.heap.size → k ≠ B + 1 + 1 + 1 → u.ownBlock ≠ some k → (w6.setCell ⟨B + 1 + 1 + 1, 0, none⟩ v').heap[k]? = W.heap[k]?) ∧
      LiAt hb M w B (w6.setCell ⟨B + 1 + 1 + 1, 0, none⟩ v') ∧ RowAt (B + 6) (B + 1 + 1 + 1) (w6.setCell ⟨B + 1 + 1 + 1, 0, none⟩ v') (ws ++ [y]) := by
  have hza : (w2.alloc (.cells cs e)).heap.size = w2.heap.size + 1 := by simp
  have hs2 := b2.size
  have hs6 := hgrow.size
  have hss : (w6.setCell ⟨B + 1 + 1 + 1, 0, none⟩ v').heap.size = w6.heap.size := by simp [World.setCell]
  have key6 : ∀ k, k < W.heap.size → u.ownBlock ≠ some k → w6.heap[k]? = W.heap[k]? := fun k h1 h2 =>
    ((hgrow.block k (by omega) (fun e => h2 e.symm)).trans (heap_alloc_old _ _ (by omega))).trans (b2.block k h1)
  have key : ∀ k, k < W.heap.size → k ≠ B + 1 + 1 + 1 → u.ownBlock ≠ some k → (w6.setCell ⟨B + 1 + 1 + 1, 0, none⟩ v').heap[k]? = W.heap[k]? := fun k h1 h2 h4 =>
    (Below.heap_setCell _ _ _ _ h2).trans (key6 k h1 h4)
  have hu : ∀ k, k < B + 6 → u.ownBlock ≠ some k := fun k hk e => by have := k3 k e; omega
  have hkb : ∀ k, v'.ownBlock = some k → B + 6 ≤ k := by
    intro k hk
    rcases hat with h | h
    · rw [h] at hk; exact k3 k hk
    · rw [h] at hk; cases hk; omega
  refine ⟨⟨by omega, fun k o hk ho hc => ?_⟩, key, ?_, ?_⟩
  · have hkl := (Array.getElem?_eq_some_iff.1 ho).1
    refine (key k hkl (by omega) fun e => ?_).trans ho
    obtain ⟨cs', t, z, hcell⟩ := o3.isCells e
    rw [ho] at hcell; cases hcell; cases hc
  · refine ⟨h3.rep.of_blocks fun k hk => key k (by have := hlt k hk; omega) (by have := hlt k hk; omega) (hu k (by have := hlt k hk; omega)), ?_, ?_, ?_, ?_⟩
    · exact (key B (by omega) (by omega) (hu _ (by omega))).trans h3.b0
    · exact (key (B + 1) (by omega) (by omega) (hu _ (by omega))).trans h3.b1
    · exact (key (B + 1 + 1) (by omega) (by omega) (hu _ (by omega))).trans h3.b2
    · have hW : B ≤ W.heap.size := by omega
      exact ((((h3.below.trans (b2.mono hW)).alloc (by omega) (.cells cs e)).grown hgrow (by omega) (fun k e => by have := k3 k e; omega)).setCell (p := ⟨B + 1 + 1 + 1, 0, none⟩) (by show B ≤ B + 1 + 1 + 1; omega) v')
  · refine ⟨v', ?_, ?_, hkb⟩
    · exact box_set ((key6 _ (by omega) (hu _ (by omega))).trans g3) v'
    · refine ownW_block ?_ fun k hk => Below.heap_setCell _ _ _ _ (show k ≠ B + 1 + 1 + 1 by have := hkb k hk; omega)
      unfold OwnW
      rw [List.length_append, List.map_append]
      exact hown

set_option maxRecDepth 100000 in
set_option maxHeartbeats 2000000 in
theorem list_any {hb : HB} {M : Hp} {w : World} (r : Rep hb M w) {v : Nat} {l : List (Nat × Nat)} (hL : Lst M v l) (hv : v < 18446744073709551616) (hl : l.length ≤ 32768) :
    Calls Try.prog 59 #[.pointer (some ⟨hb.h, 0, none⟩), .int .u64 v] w fun e w' => ∃ u, e = .returned (.tuple #[u, .bool true]) ∧ OwnW w' u (l.map (·.2)) ∧ (∀ k, u.ownBlock = some k → w.heap.size ≤ k) ∧ Below w.heap.size w w' := by
  have hlt := r.lt
  obtain ⟨m, hm⟩ : ∃ m, m = l.length := ⟨_, rfl⟩
  refine (callsIn_wide (n := 5)).1 ?_
  refine callsIn_of_wp_marks Try.func59 rfl trivial ?_ rfl
  simp only [Try.ntmps59, List.size_toArray, List.length_cons, List.length_nil, Nat.reduceAdd, Nat.reduceSub, Array.replicate_succ, Array.replicate_zero, List.push_toArray, List.append_toArray, List.nil_append, List.cons_append]
  have HV := Lib.hid hv
  have HLT := Lib.hid hlt
  have HL := Lib.hid hL
  have HM := Lib.hid hm
  have R := Lib.hid r
  rw [← hm] at hl
  clear hv hlt hL hm r
  gi_wp2_with fail
  refine ⟨trivial, (callsIn_wide.2 (pairs_any _ _ _)).mono ?_⟩
  rintro e w1 ⟨rfl, hw1⟩
  obtain ⟨a0, a1, a2, a3, a4, a5, az, ab⟩ := alloc6 w _ _ _ _ _ _ w1 hw1
  have st0 : LiAt hb M w w.heap.size w1 := ⟨R.out.below ab, a0, a1, a2, ab⟩
  have ro0 : RowAt (w.heap.size + 6) (w.heap.size + 1 + 1 + 1) w1 [] := ⟨_, a3, OwnW.nil' _, by intro k hk; simp [Value.ownBlock] at hk⟩
  have ST0 := Lib.hid st0
  have RO0 := Lib.hid ro0
  have A4 := Lib.hid a4
  have A5 := Lib.hid a5
  clear hw1 a0 a1 a2 a3 a4 a5 ab st0 ro0
  gi_wp2_with fail
  have hseq := pairs_seq (n := 4) ST0.out.rep HL.out HV.out (by omega) (nopair (by decide)) (by rw [← HM.out]; exact hl) (w.heap.size + 1 + 1 + 1 + 1) (w.heap.size + 1 + 1 + 1 + 1 + 1) (by omega) (fun h => by have := HLT.out _ h; omega) (fun h => by have := HLT.out _ h; omega) A4.out A5.out
  refine wpIn_range (gf := 128) (lb := #[.pointer (some ⟨w.heap.size + 1 + 1 + 1 + 1, 0, none⟩), .pointer (some ⟨w.heap.size + 1 + 1 + 1 + 1 + 1, 0, none⟩)]) rfl (enters_of Try.func128 (by kernel_rfl) rfl) hseq (by omega) ?hkk (fun _ => rfl)
    (fun pre W => ∃ j : Nat, j ≤ m ∧ pre = (items 20 l).take j ∧ LiAt hb M w w.heap.size W ∧ RowAt (w.heap.size + 6) (w.heap.size + 1 + 1 + 1) W ((l.map (·.2)).take j))
    (fun c _ W => c = .exit 0 ∧ LiAt hb M w w.heap.size W ∧ RowAt (w.heap.size + 6) (w.heap.size + 1 + 1 + 1) W (l.map (·.2)))
    ?hI ?hIx ⟨0, Nat.zero_le _, by simp, ST0.out, RO0.out⟩ ?round ?done ?stop
  case hkk =>
    rintro k (hk | rfl | rfl)
    · have := HLT.out k hk; omega
    · omega
    · omega
  case hI =>
    refine OwnV.of_cells (n₀ := w.heap.size) (by omega) (by omega) ?_
    rintro s W W' ⟨j, h1, h2, h3, h4⟩ hk hbl
    exact ⟨j, h1, h2, h3.step (by omega) HLT.out hk (Nat.le_refl _) hbl, h4.step (by omega) (by omega) hk⟩
  case hIx =>
    intro c
    refine OwnV.of_cells (n₀ := w.heap.size) (by omega) (by omega) ?_
    rintro s W W' ⟨h1, h3, h4⟩ hk hbl
    exact ⟨h1, h3.step (by omega) HLT.out hk (Nat.le_refl _) hbl, h4.step (by omega) (by omega) hk⟩
  case round =>
    constructor
    refine And.intro (fun l x W => ?_) ?_
    · gi_wp2
      exact ⟨rfl, trivial⟩
    rintro l0 pre x W ⟨j, h1, h2, h3, h4⟩ hz ⟨k, hpk, hxk⟩
    obtain rfl : j = k := by
      have h5 := congrArg List.length (h2.symm.trans hpk)
      have h6 := (List.getElem?_eq_some_iff.1 hxk).1
      rw [items_len] at h6
      rw [List.length_take, List.length_take, items_len] at h5
      have := HM.out
      omega
    by_cases hlt : j < m
    · obtain ⟨⟨uu, y⟩, hy⟩ : ∃ p, l[j]? = some p := ⟨_, List.getElem?_eq_getElem (by rw [← HM.out]; exact hlt)⟩
      obtain rfl : x = (uu, false) := by rw [items_get hy] at hxk; cases hxk; rfl
      obtain ⟨kk, d, hu, hp, hd⟩ := LSeg.step HL.out j uu y hy
      have hul : uu < 18446744073709551616 := by have := hp.lt h3.rep.ok; omega
      have hC := car_ok h3.rep uu hul (v := y) (by rw [hu]; exact hp.car h3.rep.ok)
      obtain ⟨u, g3, o3, k3⟩ := h4.ex
      have hlen : ((l.map (·.2)).take j).length = j := by rw [List.length_take, List.length_map]; have := HM.out; omega
      obtain ⟨ua, uc, rfl⟩ := o3.slice'
      rw [hlen] at g3 o3 k3
      obtain ⟨c0, _⟩ := box_at h3.b0
      obtain ⟨c3, f3⟩ := box_at g3
      have H3 := Lib.hid h3
      have G3 := Lib.hid g3
      have O3 := Lib.hid o3
      have K3 := Lib.hid k3
      have HLEN := Lib.hid hlen
      have HY := Lib.hid hy
      have HPK := Lib.hid hpk
      clear h1 h2 h3 h4 hpk hxk hu hp hd hul g3 o3 k3 hlen hy
      gi_wp2_with fail
      refine ⟨trivial, (CallsIn.inRound l0 (callsIn_wide.2 hC)).mono ?_⟩
      rintro e w2 ⟨rfl, b2⟩
      have hb3l := lt_of_block G3.out
      have g32 := (b2.block _ hb3l).trans G3.out
      obtain ⟨c32, f32⟩ := box_at g32
      have O2 : Hid (World.ownsRow w2 0 29 1 (.slice ua j uc) j (((l.map (·.2)).take j).map wv)) := Lib.hid (by
        have h2 : OwnW w2 (.slice ua j uc) ((l.map (·.2)).take j) := ownW_block O3.out fun q hq => b2.block q (O3.out.lt q hq).2
        unfold OwnW at h2
        rw [HLEN.out] at h2
        exact h2)
      have G32 := Lib.hid g32
      have B2 := Lib.hid b2
      have hub : ∀ k, (Value.slice ua j uc).ownBlock = some k → w.heap.size + 6 ≤ k := K3.out
      have hsz2 := b2.size
      clear hC b2 g32 c0 c3 f3 hb3l hub
      gi_wp2_with (gi_at_builtin; refine wpListIn_app E_word rfl _ _ rfl (.slice ua j uc) j (((l.map (·.2)).take j).map wv) rfl (O2.out.alloc _) (.slice (some ⟨w2.heap.size, 0, none⟩) 1 1) 1 [.int .u64 (y : Nat)] rfl (one_word _ _ _ _ rfl) (by simp) (by simp [Value.oneCell']) (by unfold maxLen; omega) (by omega) ?_; intro v' w6 hown hgrow hat; obtain ⟨va, vc, rfl⟩ := own_slice' hown; have g6 : w6.heap[w.heap.size + 1 + 1 + 1]? = some (.cells #[.slice ua j uc] 39 (0, 0)) := (hgrow.block _ (by have := lt_of_block G32.out; simp; omega) (fun e => by have := K3.out _ e.symm; omega)).trans ((heap_alloc_old _ _ (lt_of_block G32.out)).trans G32.out); obtain ⟨c6, f6⟩ := box_at g6)
      obtain ⟨k1, k2, k4, k5⟩ := li_append (y := y) H3.out rfl G3.out O3.out K3.out B2.out hgrow (by rw [HLEN.out]; exact hown) hat HLT.out (by omega)
      refine ⟨by rw [az]; exact k1, fun k hk => k2 k ?_ ?_ ?_, j + 1, by omega, ?_, k4, ?_⟩
      · rcases hk with hk | rfl | rfl
        · have := HLT.out k hk; omega
        · omega
        · omega
      · rcases hk with hk | rfl | rfl
        · have := HLT.out k hk; omega
        · omega
        · omega
      · intro e
        have h9 := K3.out k e
        rcases hk with hk | rfl | rfl
        · have := HLT.out k hk; omega
        · omega
        · omega
      · rw [List.take_add_one, items_get HY.out, HPK.out]; rfl
      · rw [List.take_add_one, List.getElem?_map, HY.out]; exact k5
    · obtain rfl : j = m := by omega
      obtain rfl : x = (20, true) := by
        have h5 := items_last 20 l
        rw [← HM.out, hxk] at h5
        simpa using h5
      have H3 := Lib.hid h3
      have H4 := Lib.hid h4
      clear h1 h2 h3 h4 hpk hxk
      gi_wp2_with fail
      refine ⟨KeepsFrom.refl _ _, rfl, H3.out, ?_⟩
      have h5 := H4.out
      rw [List.take_of_length_le (by rw [List.length_map]; have := HM.out; omega)] at h5
      exact h5
  case done =>
    rintro D xs W hD rfl ⟨j, h1, h2, h3, h4⟩ hK
    exfalso
    have := congrArg List.length h2
    rw [List.length_take, items_len] at this
    have := HM.out
    omega
  case stop =>
    rintro D c pre W hD _ ⟨rfl, h3, h4⟩ hK
    obtain ⟨u, g3, o3, k3⟩ := h4.ex
    obtain ⟨c3, f3⟩ := box_at g3
    obtain ⟨c1, f1⟩ := box_at h3.b1
    obtain ⟨c2, f2⟩ := box_at h3.b2
    obtain ⟨ua, uc, rfl⟩ := o3.slice'
    have H3 := Lib.hid h3
    have O3 := Lib.hid o3
    have K3 := Lib.hid k3
    have HK := Lib.hid hK
    clear h3 h4 o3 k3 hK g3
    gi_wp2_with fail
    obtain ⟨W2, hW2⟩ : ∃ W2, W2 = (W.setCell ⟨w.heap.size + 1, 0, none⟩ (.slice ua l.length uc)).setCell ⟨w.heap.size + 1 + 1, 0, none⟩ (.bool true) := ⟨_, rfl⟩
    rw [← hW2]
    have hold : ∀ k, k ≠ w.heap.size + 1 → k ≠ w.heap.size + 1 + 1 → W2.heap[k]? = W.heap[k]? := fun k h1 h2 => by
      rw [hW2]; exact (Below.heap_setCell _ _ _ _ h2).trans (Below.heap_setCell _ _ _ _ h1)
    have hK2 : W2.heap[D]? = some (.deferred (some [])) := (hold D (by omega) (by omega)).trans HK.out
    refine ⟨by simp, .inl ⟨_, _, rfl, run_takeDeferred hK2, ?_⟩⟩
    obtain ⟨W3, hW3⟩ : ∃ W3, W3 = W2.putObj D (.deferred none) := ⟨_, rfl⟩
    rw [← hW3]
    have hold3 : ∀ k, k ≠ D → W3.heap[k]? = W2.heap[k]? := fun k h => by rw [hW3]; exact World.putObj_heap_other h
    have g1 : W3.heap[w.heap.size + 1]? = some (.cells #[.slice ua l.length uc] 39 (0, 0)) := (hold3 _ (by omega)).trans (by rw [hW2]; exact (Below.heap_setCell _ _ _ _ (show w.heap.size + 1 ≠ w.heap.size + 1 + 1 by omega)).trans (box_set H3.out.b1 _))
    have g2 : W3.heap[w.heap.size + 1 + 1]? = some (.cells #[.bool true] 4 (0, 0)) := (hold3 _ (by omega)).trans (by rw [hW2]; exact box_set ((Below.heap_setCell _ _ _ _ (show w.heap.size + 1 + 1 ≠ w.heap.size + 1 by omega)).trans H3.out.b2) _)
    obtain ⟨d1, _⟩ := box_at g1
    obtain ⟨d2, _⟩ := box_at g2
    refine ⟨.tuple #[.slice ua l.length uc, .bool true], by simp [results, Try.f59, go_sem, d1, d2], .slice ua l.length uc, rfl, ?_, ?_, ?_⟩
    · have o5 : OwnW W3 (.slice ua (l.map (·.2)).length uc) (l.map (·.2)) := ownW_block O3.out fun k hk => by
        have h9 := K3.out k hk
        obtain ⟨cs, t, z, hc⟩ := O3.out.isCells hk
        exact (hold3 k (fun e => by rw [e, HK.out] at hc; cases hc)).trans (hold k (by omega) (by omega))
      rw [List.length_map] at o5
      exact o5
    · intro k hk
      have h9 := K3.out k (by rw [List.length_map]; exact hk)
      omega
    · have b9 : Below w.heap.size w W2 := by rw [hW2]; exact ((H3.out.below).setCell (p := ⟨w.heap.size + 1, 0, none⟩) (by show w.heap.size ≤ w.heap.size + 1; omega) _).setCell (p := ⟨w.heap.size + 1 + 1, 0, none⟩) (by show w.heap.size ≤ w.heap.size + 1 + 1; omega) _
      rw [hW3]
      exact b9.grown (grownBy_putObj' W2 D _) b9.size (fun k e => by cases e; omega)
end Go.Proofs.Ytecemlamoiepdaa
