/- The contracts of lists.tail and of lists.joins of two. -/
import Derived.Test.YtecemlamoiepdaaAwake22
namespace Go.Proofs.Ytecemlamoiepdaa
open Go.RowKit Go.Shelf
attribute [local go_sem] Oper.semAt_some

theorem alloc6' (w : World) (o0 o1 o2 o3 o4 o5 : Obj) (y : Value) (t : TypeId) (h3 : o3 = .cells #[y] t) : ∀ w1, w1 = (((((w.alloc o0).alloc o1).alloc o2).alloc o3).alloc o4).alloc o5 →
    w1.heap[w.heap.size]? = some o0 ∧ w1.heap[w.heap.size + 1]? = some o1 ∧ w1.heap[w.heap.size + 1 + 1]? = some o2 ∧ w1.heap[w.heap.size + 1 + 1 + 1]? = some o3 ∧ w1.heap[w.heap.size + 1 + 1 + 1 + 1]? = some o4 ∧
    w1.heap[w.heap.size + 1 + 1 + 1 + 1 + 1]? = some o5 ∧ w1.heap.size = w.heap.size + 6 ∧ Below w.heap.size w w1 := alloc6 w o0 o1 o2 o3 o4 o5

/-- what stands while tail goes on -/
structure TaAt (hb : HB) (M : Hp) (w : World) (B : Nat) (K : Int) (W : World) : Prop where
  rep : Rep hb M W
  b0 : W.heap[B]? = some (.cells #[.pointer (some ⟨hb.h, 0, none⟩)] 23 (0, 0))
  b1 : W.heap[B + 1]? = some (.cells #[.int .u64 0] 29 (0, 0))
  b2 : W.heap[B + 1 + 1]? = some (.cells #[.int .i64 0] 24 (0, 0))
  b3 : W.heap[B + 1 + 1 + 1]? = some (.cells #[.int .i64 K] 2 (0, 0))
  below : Below B w W

/-- what stands when it has found it -/
structure TbAt (w : World) (B x : Nat) (W : World) : Prop where
  b1 : W.heap[B + 1]? = some (.cells #[.int .u64 (x : Nat)] 29 (0, 0))
  b2 : W.heap[B + 1 + 1]? = some (.cells #[.int .i64 0] 24 (0, 0))
  below : Below B w W

theorem TaAt.step {hb : HB} {M : Hp} {w W W' : World} {B Bw : Nat} {K : Int} (h : TaAt hb M w B K W) (hw : B + 4 < Bw) (hhb : ∀ k, hb.has k → k < B) (hk : ∀ k cs t z, k ≠ Bw → W.heap[k]? = some (.cells cs t z) → W'.heap[k]? = W.heap[k]?) (hB : B ≤ w.heap.size) (hb' : B ≤ W.heap.size → Below B W W') : TaAt hb M w B K W' := by
  have hs : B ≤ W.heap.size := Nat.le_of_lt (lt_of_block h.b0)
  have hbb := hb' hs
  refine ⟨h.rep.of_blocks fun k hh => hbb.block k (hhb k hh), ?_, ?_, ?_, ?_, h.below.trans hbb⟩
  · exact (hk _ _ _ _ (by omega) h.b0).trans h.b0
  · exact (hk _ _ _ _ (by omega) h.b1).trans h.b1
  · exact (hk _ _ _ _ (by omega) h.b2).trans h.b2
  · exact (hk _ _ _ _ (by omega) h.b3).trans h.b3

theorem TbAt.step {w W W' : World} {B Bw x : Nat} (h : TbAt w B x W) (hw : B + 4 < Bw) (hk : ∀ k cs t z, k ≠ Bw → W.heap[k]? = some (.cells cs t z) → W'.heap[k]? = W.heap[k]?) (hb' : B ≤ W.heap.size → Below B W W') : TbAt w B x W' := by
  have hs : B ≤ W.heap.size := by have := lt_of_block h.b1; omega
  exact ⟨(hk _ _ _ _ (by omega) h.b1).trans h.b1, (hk _ _ _ _ (by omega) h.b2).trans h.b2, h.below.trans (hb' hs)⟩

/-- one on: a box of the loop's is set, after what only lays blocks -/
theorem ta_next {hb : HB} {M : Hp} {w W w2 : World} {B : Nat} {K K' : Int} (h : TaAt hb M w B K W) (b2 : Below W.heap.size W w2) (hhb : ∀ k, hb.has k → k < B) (hz : B + 6 ≤ W.heap.size) :
    KeepsFrom (B + 6) W (w2.setCell ⟨B + 1 + 1 + 1, 0, none⟩ (.int .i64 K')) ∧ (∀ k, k < W.heap.size → k ≠ B + 1 + 1 + 1 → (w2.setCell ⟨B + 1 + 1 + 1, 0, none⟩ (.int .i64 K')).heap[k]? = W.heap[k]?) ∧
      TaAt hb M w B K' (w2.setCell ⟨B + 1 + 1 + 1, 0, none⟩ (.int .i64 K')) := by
  have ho : ∀ k, k < W.heap.size → k ≠ B + 1 + 1 + 1 → (w2.setCell ⟨B + 1 + 1 + 1, 0, none⟩ (.int .i64 K')).heap[k]? = W.heap[k]? := fun k h1 h2 => (Below.heap_setCell _ _ _ _ h2).trans (b2.block k h1)
  refine ⟨⟨by simp [World.setCell]; exact b2.size, fun k o hk hc hn => ?_⟩, ho, ⟨h.rep.of_blocks fun k hk => ho k (by have := hhb k hk; omega) (by have := hhb k hk; omega), ?_, ?_, ?_, ?_, ?_⟩⟩
  · exact (ho k (lt_of_block hc) (by omega)).trans hc
  · exact (ho B (by omega) (by omega)).trans h.b0
  · exact (ho _ (by omega) (by omega)).trans h.b1
  · exact (ho _ (by omega) (by omega)).trans h.b2
  · exact box_set ((b2.block _ (by omega)).trans h.b3) _
  · exact (h.below.trans (b2.mono (by omega))).setCell (p := ⟨B + 1 + 1 + 1, 0, none⟩) (by show B ≤ B + 1 + 1 + 1; omega) _

/-- found: both results set -/
theorem tb_next {hb : HB} {M : Hp} {w W : World} {B x : Nat} {K : Int} (h : TaAt hb M w B K W) (hz : B + 6 ≤ W.heap.size) :
    KeepsFrom (B + 6) W ((W.setCell ⟨B + 1, 0, none⟩ (.int .u64 (x : Nat))).setCell ⟨B + 1 + 1, 0, none⟩ (.int .i64 0)) ∧ TbAt w B x ((W.setCell ⟨B + 1, 0, none⟩ (.int .u64 (x : Nat))).setCell ⟨B + 1 + 1, 0, none⟩ (.int .i64 0)) := by
  have ho : ∀ k, k ≠ B + 1 → k ≠ B + 1 + 1 → ((W.setCell ⟨B + 1, 0, none⟩ (.int .u64 (x : Nat))).setCell ⟨B + 1 + 1, 0, none⟩ (.int .i64 0)).heap[k]? = W.heap[k]? := fun k h1 h2 => (Below.heap_setCell _ _ _ _ h2).trans (Below.heap_setCell _ _ _ _ h1)
  refine ⟨⟨by simp [World.setCell], fun k o hk hc hn => (ho k (by omega) (by omega)).trans hc⟩, ?_, ?_, ?_⟩
  · exact (Below.heap_setCell _ _ _ _ (show B + 1 ≠ B + 1 + 1 by omega)).trans (box_set h.b1 _)
  · exact box_set ((Below.heap_setCell _ _ _ _ (show B + 1 + 1 ≠ B + 1 by omega)).trans h.b2) _
  · exact ((h.below).setCell (p := ⟨B + 1, 0, none⟩) (by show B ≤ B + 1; omega) _).setCell (p := ⟨B + 1 + 1, 0, none⟩) (by show B ≤ B + 1 + 1; omega) _

set_option maxRecDepth 100000 in
set_option maxHeartbeats 4000000 in
theorem tail_any {hb : HB} {M : Hp} {w : World} (r : Rep hb M w) {v q : Nat} {l : List (Nat × Nat)} (hL : LSeg M v l q) (hv : v < 18446744073709551616) (hqt : q < 18446744073709551616) (hq : M.pairOf q = none) (hl : l.length ≤ 32768) (K0 : Nat) (hK0 : K0 ≤ l.length) :
    Calls Try.prog 97 #[.pointer (some ⟨hb.h, 0, none⟩), .int .u64 v, .int .u64 (K0 * 8 : Nat)] w fun e w' => e = .returned (.tuple #[.int .u64 (LSeg.at' q l K0 : Nat), .int .i64 0]) ∧ Below w.heap.size w w' := by
  have hlt := r.lt
  obtain ⟨m, hm⟩ : ∃ m, m = l.length := ⟨_, rfl⟩
  have hI : ∀ w : World, _ := fun w => int_yes (K0 * 8) (by omega) (by unfold tagOf; omega) w
  have hnum : numOf (K0 * 8) = (K0 : Int) := by unfold numOf; split <;> omega
  rw [hnum] at hI
  obtain ⟨k8, hk8⟩ : ∃ k8, k8 = K0 * 8 := ⟨_, rfl⟩
  rw [← hk8] at hI ⊢
  obtain ⟨res, hres⟩ : ∃ z, z = LSeg.at' q l K0 := ⟨_, rfl⟩
  rw [← hres]
  refine (callsIn_wide (n := 5)).1 ?_
  refine callsIn_of_wp_marks Try.func97 rfl trivial ?_ rfl
  simp only [Try.ntmps97, List.size_toArray, List.length_cons, List.length_nil, Nat.reduceAdd, Nat.reduceSub, Array.replicate_succ, Array.replicate_zero, List.push_toArray, List.append_toArray, List.nil_append, List.cons_append]
  have HV := Lib.hid hv
  have HQT := Lib.hid hqt
  have HQ := Lib.hid hq
  have HLT := Lib.hid hlt
  have HL := Lib.hid hL
  have HM := Lib.hid hm
  have HR := Lib.hid hres
  have HK8 := Lib.hid hk8
  have R := Lib.hid r
  rw [← hm] at hl hK0
  clear hv hlt hL hm r hnum hqt hq hres hk8
  gi_wp2_with fail
  refine ⟨trivial, (callsIn_wide.2 (hI _)).mono ?_⟩
  rintro e w0 ⟨rfl, rfl⟩
  gi_wp2_with fail
  refine ⟨trivial, (callsIn_wide.2 (pairs_any _ _ _)).mono ?_⟩
  rintro e w1 ⟨rfl, hw1⟩
  obtain ⟨a0, a1, a2, a3, a4, a5, az, ab⟩ := alloc6 w _ _ _ _ _ _ w1 hw1
  have st0 : TaAt hb M w w.heap.size K0 w1 := ⟨R.out.below ab, a0, a1, a2, a3, ab⟩
  have ST0 := Lib.hid st0
  have A4 := Lib.hid a4
  have A5 := Lib.hid a5
  clear hw1 a0 a1 a2 a3 a4 a5 ab st0 hI
  gi_wp2_with fail
  have hseq := pairs_seq (n := 4) ST0.out.rep HL.out HV.out HQT.out HQ.out (by rw [← HM.out]; exact hl) (w.heap.size + 1 + 1 + 1 + 1) (w.heap.size + 1 + 1 + 1 + 1 + 1) (by omega) (fun h => by have := HLT.out _ h; omega) (fun h => by have := HLT.out _ h; omega) A4.out A5.out
  refine wpIn_range (gf := 128) (lb := #[.pointer (some ⟨w.heap.size + 1 + 1 + 1 + 1, 0, none⟩), .pointer (some ⟨w.heap.size + 1 + 1 + 1 + 1 + 1, 0, none⟩)]) rfl (enters_of Try.func128 (by kernel_rfl) rfl) hseq (by omega) ?hkk (fun _ => rfl)
    (fun pre W => ∃ j : Nat, j ≤ K0 ∧ pre = (items q l).take j ∧ TaAt hb M w w.heap.size ((K0 : Int) - (j : Int)) W)
    (fun c _ W => c = .ret ∧ TbAt w w.heap.size res W)
    ?hI ?hIx ⟨0, Nat.zero_le _, by simp, by simpa using ST0.out⟩ ?round ?done ?stop
  case hkk =>
    rintro k (hk | rfl | rfl)
    · have := HLT.out k hk; omega
    · omega
    · omega
  case hI =>
    refine OwnV.of_cells (n₀ := w.heap.size) (by omega) (by omega) ?_
    rintro s W W' ⟨j, h1, h2, h3⟩ hk hbl
    exact ⟨j, h1, h2, h3.step (by omega) HLT.out hk (Nat.le_refl _) hbl⟩
  case hIx =>
    intro c
    refine OwnV.of_cells (n₀ := w.heap.size) (by omega) (by omega) ?_
    rintro s W W' ⟨h1, h3⟩ hk hbl
    exact ⟨h1, h3.step (by omega) hk hbl⟩
  case round =>
    constructor
    refine And.intro (fun l x W => ?_) ?_
    · gi_wp2
      exact ⟨rfl, trivial⟩
    rintro l0 pre x W ⟨j, h1, h2, h3⟩ hz ⟨k, hpk, hxk⟩
    obtain rfl : j = k := by
      have h5 := congrArg List.length (h2.symm.trans hpk)
      have h6 := (List.getElem?_eq_some_iff.1 hxk).1
      rw [items_len] at h6
      rw [List.length_take, List.length_take, items_len] at h5
      have := HM.out
      omega
    obtain ⟨c0, _⟩ := box_at h3.b0
    obtain ⟨c1, f1⟩ := box_at h3.b1
    obtain ⟨c2, f2⟩ := box_at h3.b2
    obtain ⟨c3, f3⟩ := box_at h3.b3
    obtain ⟨x1, x2⟩ := x
    by_cases hlt : j < K0
    · obtain ⟨⟨uu, y⟩, hy⟩ : ∃ p, l[j]? = some p := ⟨_, List.getElem?_eq_getElem (by rw [← HM.out]; omega)⟩
      obtain ⟨rfl, rfl⟩ : x1 = uu ∧ x2 = false := by rw [items_get hy] at hxk; cases hxk; exact ⟨rfl, rfl⟩
      obtain ⟨kk, d, hu, hp, hd⟩ := LSeg.step HL.out j x1 y hy
      have hul : x1 < 18446744073709551616 := by have := hp.lt h3.rep.ok; omega
      have hC := isPair_any h3.rep x1 hul
      rw [hu, hp.pair h3.rep.ok, ← hu] at hC
      have hKj : (((K0 : Nat) : Int) - ((j : Nat) : Int) == 0) = false := by rw [beq_eq_false_iff_ne]; omega
      have H3 := Lib.hid h3
      have HY := Lib.hid hy
      have HPK := Lib.hid hpk
      clear h1 h2 h3 hpk hxk hu hp hd hul hy
      gi_wp2_with fail
      refine ⟨trivial, (CallsIn.inRound l0 (callsIn_wide.2 hC)).mono ?_⟩
      rintro e w2 ⟨rfl, b2⟩
      have g32 := (b2.block _ (lt_of_block H3.out.b3)).trans H3.out.b3
      obtain ⟨c32, f32⟩ := box_at g32
      have B2 := Lib.hid b2
      clear hC b2 g32 c0 c1 c2 c3 f1 f2 f3
      gi_wp2_with fail
      obtain ⟨k1, k2, k4⟩ := ta_next (K' := (K0 : Int) - (j : Int) - 1) H3.out B2.out HLT.out (by omega)
      refine ⟨by rw [az]; exact k1, fun k hk => k2 k ?_ ?_, j + 1, by omega, ?_, ?_⟩
      · rcases hk with hk | rfl | rfl
        · have := HLT.out k hk; omega
        · omega
        · omega
      · rcases hk with hk | rfl | rfl
        · have := HLT.out k hk; omega
        · omega
        · omega
      · rw [List.take_add_one, items_get HY.out, HPK.out]; rfl
      · have h9 : ((K0 : Int) - ((j + 1 : Nat) : Int)) = (K0 : Int) - (j : Int) - 1 := by omega
        rw [h9]
        exact k4
    · obtain rfl : j = K0 := by omega
      obtain rfl : x1 = res := by
        rw [HR.out]
        rcases Nat.lt_or_ge j m with h | h
        · obtain ⟨⟨uu, y⟩, hy⟩ : ∃ p, l[j]? = some p := ⟨_, List.getElem?_eq_getElem (by rw [← HM.out]; omega)⟩
          rw [items_get hy] at hxk
          cases hxk
          simp [LSeg.at', hy]
        · obtain rfl : j = l.length := by rw [← HM.out]; omega
          rw [items_last] at hxk
          cases hxk
          simp [LSeg.at']
      have hKj : (((j : Nat) : Int) - ((j : Nat) : Int) == 0) = true := by simp
      have H3 := Lib.hid h3
      clear h1 h2 h3 hpk hxk
      gi_wp2_with fail
      obtain ⟨k1, k2⟩ := tb_next (x := x1) H3.out (by omega)
      exact ⟨by rw [az]; exact k1, rfl, k2⟩
  case done =>
    rintro D xs W hD rfl ⟨j, h1, h2, h3⟩ hK
    exfalso
    have := congrArg List.length h2
    rw [List.length_take, items_len] at this
    have := HM.out
    omega
  case stop =>
    rintro D c pre W hD _ ⟨rfl, h3⟩ hK
    obtain ⟨c1, f1⟩ := box_at h3.b1
    obtain ⟨c2, f2⟩ := box_at h3.b2
    have H3 := Lib.hid h3
    have HK := Lib.hid hK
    clear h3 hK
    gi_wp2_with fail
    refine ⟨by simp, .inl ⟨_, _, rfl, run_takeDeferred HK.out, ?_⟩⟩
    obtain ⟨W3, hW3⟩ : ∃ W3, W3 = W.putObj D (.deferred none) := ⟨_, rfl⟩
    rw [← hW3]
    have hold3 : ∀ k, k ≠ D → W3.heap[k]? = W.heap[k]? := fun k h => by rw [hW3]; exact World.putObj_heap_other h
    obtain ⟨d1, _⟩ := box_at ((hold3 _ (by omega)).trans H3.out.b1)
    obtain ⟨d2, _⟩ := box_at ((hold3 _ (by omega)).trans H3.out.b2)
    refine ⟨.tuple #[.int .u64 (res : Nat), .int .i64 0], by simp [results, Try.f97, go_sem, d1, d2], rfl, ?_⟩
    rw [hW3]
    exact H3.out.below.grown (grownBy_putObj' W D _) H3.out.below.size (fun k e => by cases e; omega)

set_option maxRecDepth 20000 in
set_option maxHeartbeats 2000000 in
/-- the elements of one list, ahead of what begins at a word -/
theorem joins_two {hb : HB} {M : Hp} {w : World} (r : Rep hb M w) {n0 v v2 q : Nat} (pk : PK M n0) {l tl : List (Nat × Nat)} (hL : Lst M v l) (hT : LSeg M v2 tl q) (hq : q < 18446744073709551616) (hv : v < 18446744073709551616) (hroom : n0 + l.length ≤ 32 * M.limit)
    (b o cap : Nat) (hb0 : b < w.heap.size) (c0 : w.cell? ⟨b, o, none⟩ = some (.int .u64 (v : Nat))) (c1 : w.cell? ⟨b, o + 1, none⟩ = some (.int .u64 (v2 : Nat))) (hcap : 2 ≤ cap) :
    Calls Try.prog 96 #[.pointer (some ⟨hb.h, 0, none⟩), .slice (some ⟨b, o, none⟩) 2 cap] w fun e w' => ∃ (M' : Hp) (v' : Nat), e = .returned (.tuple #[.int .u64 (v' : Nat), .int .i64 0]) ∧ Rep hb M' w' ∧ PK M' (n0 + l.length) ∧ M.Grown M' ∧ LSeg M' v' (rowL n0 (l.map (·.2)) ++ tl) q ∧ Moves hb w w' := by
  have hlim := r.ok.lim
  have hlen : l.length ≤ 32768 := by omega
  have hA : ∀ w1, Below w.heap.size w w1 → _ := fun w1 b => list_any (r.below b) hL hv hlen
  have hlt := r.lt
  have hC : ∀ w1 sv, Below w.heap.size w w1 → SlWords w1 sv (l.map (·.2)) → (∀ k, sv.ownBlock = some k → w.heap.size ≤ k) → _ := fun w1 sv b h1 h2 => row_any (r.below b) pk hT hq sv (l.map (·.2)) h1 (fun k hk hh => by have := h2 k hk; have := hlt k hh; omega) (hL.words r.ok) (by rw [List.length_map]; exact hroom)
  have HA := Lib.hid hA
  have HC := Lib.hid hC
  have HLEN := Lib.hid hlen
  have C0 := Lib.hid c0
  have C1 := Lib.hid c1
  obtain ⟨m, hm⟩ : ∃ m, m = l.length := ⟨_, rfl⟩
  have HM := Lib.hid hm
  have hm8 : m ≤ 32768 := by omega
  clear r pk hL hT hq hv hroom hA hC hlt hlim hlen hm c1
  go_enter Try.func96, Try.ntmps96
  go_wp2_with fail
  go_loopw [6, 20] (fun u iv wr => ∃ k : Nat, iv = .int .i64 k ∧ ((k = 0 ∧ u = .slice none 0 0) ∨ (k = 1 ∧ OwnW wr u (l.map (·.2)) ∧ ∀ g, u.ownBlock = some g → w.heap.size ≤ g)) ∧ Below w.heap.size w wr) (fun _ iv _ => 1 - (intOf iv).toNat)
  case atStart => exact ⟨0, rfl, .inl ⟨rfl, rfl⟩, Below.refl _ _⟩
  case round =>
    obtain ⟨k, rfl, hk, hB⟩ := hrel
    rcases hk with ⟨rfl, rfl⟩ | ⟨rfl, hO, hg⟩
    · have c2 := (hB.cell (p := ⟨b, o, none⟩) hb0).trans C0.out
      have hA1 := HA.out _ hB
      have B1 := Lib.hid hB
      clear hB c0
      go_wp2_with fail
      refine hA1.mono ?_
      rintro e w2 ⟨u, rfl, ho, hg, b2⟩
      obtain ⟨ua, uc, hu⟩ := ho.slice'
      have hso := ho.sl.cells
      rw [List.length_map, ← HM.out] at hu hso
      subst hu
      have SO := Lib.hid hso
      have B2 := Lib.hid (B1.out.trans (b2.mono B1.out.size))
      have NI := Lib.hid (OwnW.nil' w2)
      clear ho hg b2 hso hA1 c2
      go_wp2_with (at_builtin; refine wpList_app E_word rfl _ _ rfl (.slice none 0 0) 0 [] rfl NI.out (.slice ua m uc) m ((l.map (·.2)).map wv) rfl SO.out (by simp [HM.out]) (by intro y hy; obtain ⟨z, _, rfl⟩ := List.mem_map.1 hy; rfl) (by unfold maxLen; omega) (by omega) ?_; intro v' w6 hown hgrow hat)
      go_roundw
      case rel =>
        refine ⟨1, rfl, .inr ⟨rfl, ?_, ?_⟩, grown_below (W := w) B2.out hgrow (by intro k hk; cases hk)⟩
        · unfold OwnW
          rw [List.length_map, ← HM.out]
          simpa using hown
        · intro g hg
          rcases hat with h | h
          · rw [h] at hg; cases hg
          · rw [h] at hg; cases hg; exact B2.out.size
      case measure => simp [intOf]
    · have c2 := (hB.cell (p := ⟨b, o + 1, none⟩) hb0).trans C1.out
      have hC1 := HC.out _ u6 hB hO.sl hg
      have B1 := Lib.hid hB
      clear hB c0 hO hg
      go_wp2_with fail
      refine hC1.mono ?_
      rintro e w2 ⟨M', v', rfl, h1, h2, h3, h4, h5⟩
      have H := Lib.hid (And.intro h1 (And.intro h2 (And.intro h3 (And.intro h4 h5))))
      clear h1 h2 h3 h4 h5 hC1 c2
      go_wp2_with fail
      go_ret2
      obtain ⟨h1, h2, h3, h4, h5⟩ := H.out
      exact ⟨M', v', by simp, h1, by rw [List.length_map] at h2; exact h2, h3, h4, (Moves.of_below B1.out).trans h5⟩
end Go.Proofs.Ytecemlamoiepdaa
