/- The contracts of slices.Backward over words, and of lists.row. -/
import Derived.Test.YtecemlamoiepdaaLists2
namespace Go.Proofs.Ytecemlamoiepdaa
open Go.RowKit Go.Shelf
attribute [local go_sem] Oper.semAt_some

/-- what Backward gives: the indexes from the last one on, with their words -/
def bitems (ws : List Nat) : List (Nat × Nat) := (List.range ws.length).map fun k => (ws.length - 1 - k, ws.getD (ws.length - 1 - k) 0)
theorem bitems_len (ws : List Nat) : (bitems ws).length = ws.length := by simp [bitems]
theorem bitems_get {ws : List Nat} {k x : Nat} (hk : k < ws.length) (hx : ws[ws.length - 1 - k]? = some x) : (bitems ws)[k]? = some (ws.length - 1 - k, x) := by
  unfold bitems
  rw [List.getElem?_map, List.getElem?_range hk]
  simp only [Option.map_some, List.getD_eq_getElem?_getD, hx, Option.getD_some]

theorem LSeg.lt {M : Hp} (o : M.Ok) {v q : Nat} {l : List (Nat × Nat)} (h : LSeg M v l q) (hq : q < 18446744073709551616) : v < 18446744073709551616 := by
  cases l with
  | nil => rw [show v = q from h]; exact hq
  | cons p t =>
    obtain ⟨u, x⟩ := p
    obtain ⟨rfl, k, d, rfl, hp, _⟩ := h
    have := hp.lt o
    omega

theorem SlWords.form {w : World} {v : Value} {ws : List Nat} (h : SlWords w v ws) (hn : 0 < ws.length) : ∃ b o cap, v = .slice (some ⟨b, o, none⟩) ws.length cap ∧ b < w.heap.size ∧ v.ownBlock = some b ∧ ∀ (i x : Nat), ws[i]? = some x → w.cell? ⟨b, o + i, none⟩ = some (.int .u64 (x : Nat)) := by
  rcases h with ⟨rfl, rfl⟩ | ⟨b, o, cap, rfl, hb, hc⟩
  · simp at hn
  · exact ⟨b, o, cap, rfl, hb, rfl, hc⟩

theorem SlWords.slice {w : World} {v : Value} {ws : List Nat} (h : SlWords w v ws) : ∃ a cap, v = .slice a ws.length cap := by
  rcases h with ⟨rfl, rfl⟩ | ⟨b, o, cap, rfl, _, _⟩
  · exact ⟨none, 0, rfl⟩
  · exact ⟨_, cap, rfl⟩

theorem SlWords.keep {w w' : World} {v : Value} {ws : List Nat} (h : SlWords w v ws) (hs : w.heap.size ≤ w'.heap.size) (hk : ∀ k, v.ownBlock = some k → w'.heap[k]? = w.heap[k]?) : SlWords w' v ws := by
  rcases h with h | ⟨b, o, cap, rfl, hb, hc⟩
  · exact .inl h
  · exact .inr ⟨b, o, cap, rfl, by omega, WordsAt.of_block hc (hk b rfl)⟩

set_option maxHeartbeats 400000 in
theorem backward_any (a : Option Addr) (n cap : Nat) (w : World) :
    Calls Try.prog 125 #[.slice a n cap] w fun e w' => e = .returned (.func (.func 147) #[] #[.pointer (some ⟨w.heap.size, 0, none⟩)]) ∧ w' = w.alloc (.cells #[.slice a n cap] 39) := by
  go_enter Try.func125, Try.ntmps125
  go_wp2
  go_ret
  exact ⟨rfl, rfl⟩

set_option maxRecDepth 100000 in
set_option maxHeartbeats 2000000 in
theorem backward_seq {w : World} {n0 Bs : Nat} {sv : Value} {ws : List Nat} (hs : SlWords w sv ws) (cs : w.heap[Bs]? = some (.cells #[sv] 39 (0, 0))) (hl : ws.length ≤ 1000000) :
    SeqV Try.prog n0 147 #[.pointer (some ⟨Bs, 0, none⟩)] (fun x : Nat × Nat => #[.int .i64 (x.1 : Nat), .int .u64 (x.2 : Nat)]) (fun k => k = Bs ∨ sv.ownBlock = some k) Bs
      (fun xs => xs = bitems ws) (fun pre => ∃ k, pre = (bitems ws).take k) (fun pre x => ∃ k, pre = (bitems ws).take k ∧ (bitems ws)[k]? = some x) w := by
  intro l0 J Jx W hW hJ hJx hY h0
  obtain ⟨n, hn⟩ : ∃ n, n = ws.length := ⟨_, rfl⟩
  obtain ⟨a, cap, rfl⟩ := hs.slice
  rw [← hn] at hs cs hl
  have csW := (hW.block Bs (lt_of_block cs)).trans cs
  have sW := hs.below hW
  have SW := Lib.hid sW
  have CW := Lib.hid csW
  have HJ := Lib.hid hJ
  have HN := Lib.hid hn
  have h00 : J ((bitems ws).take 0) W := by rw [List.take_zero]; exact h0
  have H00 := Lib.hid h00
  have HY := Lib.hid hY
  rw [← hn] at HY
  obtain ⟨c1, c2⟩ := box_at csW
  clear hs cs hW hJ hJx hY h0 csW sW hn h00
  refine callsIn_of_wp Try.func147 rfl trivial ?_ rfl
  simp only [Try.ntmps147, List.size_toArray, List.length_cons, List.length_nil, Nat.reduceAdd, Nat.reduceSub, Array.replicate_succ, Array.replicate_zero, List.push_toArray, List.append_toArray, List.nil_append, List.cons_append]
  gi_wp2
  gi_loopw [3] (fun iv wr => ∃ j : Nat, j ≤ n ∧ iv = .int .i64 ((j : Int) - 1) ∧ Hid (J ((bitems ws).take (n - j)) wr) ∧ SlWords wr (.slice a n cap) ws ∧ wr.heap[Bs]? = some (.cells #[.slice a n cap] 39 (0, 0))) (fun iv _ => (intOf iv + 1).toNat)
  case atStart => exact ⟨n, Nat.le_refl _, rfl, by rw [Nat.sub_self]; exact H00, SW.out, CW.out⟩
  case round =>
    obtain ⟨j, hj, rfl, hJj, sj, cj⟩ := hrel
    obtain ⟨d1, d2⟩ := box_at cj
    have SJ := Lib.hid sj
    have CJ := Lib.hid cj
    clear sj cj c1 c2
    cases j with
    | zero =>
      obtain ⟨I, hI, hI2⟩ : ∃ I : Int, I = ((0 : Nat) : Int) - 1 ∧ I < 0 := ⟨_, rfl, by omega⟩
      rw [← hI]
      clear hI
      gi_wp2_with fail
      go_end0
      refine ⟨⟨_, rfl⟩, .inl ⟨_, rfl, ?_⟩⟩
      have h1 := hJj.out
      rw [List.take_of_length_le (by rw [bitems_len, ← HN.out]; exact Nat.le_refl _)] at h1
      exact h1
    | succ j =>
      obtain ⟨b, o, cap', e, hb, _, hc⟩ := SJ.out.form (by rw [← HN.out]; omega)
      rw [← HN.out] at e
      obtain ⟨rfl, rfl⟩ : a = some ⟨b, o, none⟩ ∧ cap = cap' := by
        simp only [Value.slice.injEq] at e
        exact ⟨e.1, e.2.2⟩
      obtain ⟨x, hx⟩ : ∃ x, ws[j]? = some x := ⟨_, List.getElem?_eq_getElem (by rw [← HN.out]; omega)⟩
      have hcx := hc j x hx
      have hidx : (bitems ws)[n - (j + 1)]? = some (j, x) := by
        have h1 := bitems_get (ws := ws) (k := n - (j + 1)) (x := x) (by rw [← HN.out]; omega) (by rw [← HN.out, show n - 1 - (n - (j + 1)) = j by omega]; exact hx)
        rw [← HN.out, show n - 1 - (n - (j + 1)) = j by omega] at h1
        exact h1
      obtain ⟨fn, tmps, assign, body, hy, hR⟩ := HY.out _ (j, x) wr hJj.out ⟨_, rfl, hidx⟩
      dsimp only at hy
      have HR := Lib.hid hR
      have HX := Lib.hid hidx
      have hji : (((j + 1 : Nat) : Int) - 1) = j := by omega
      rw [hji]
      clear e hc hx hR hidx hji hb hJj
      gi_wp2_with fail
      refine ⟨fun h => (by cases h), HR.out.mono ?_⟩
      rintro e w3 (⟨rfl, J3, K3, hs3⟩ | ⟨rfl, Jx3⟩)
      · have S3 : SlWords w3 (.slice (some ⟨b, o, none⟩) n cap) ws := SJ.out.keep hs3 fun k hk => K3 k (.inr hk)
        have C3 := (K3 Bs (.inl rfl)).trans CJ.out
        have S3h := Lib.hid S3
        have C3h := Lib.hid C3
        have J3h : Hid (J ((bitems ws).take (n - j)) w3) := Lib.hid (by
          rw [show n - j = n - (j + 1) + 1 by omega, List.take_add_one, HX.out]
          exact J3)
        clear S3 C3 J3 K3 hs3 HR hy hcx d1 d2 SJ CJ
        gi_wp2_with fail
        go_roundw
        case rel => exact ⟨j, by omega, rfl, J3h, S3h.out, C3h.out⟩
        case measure => simp [intOf]
      · gi_wp2_with fail
        refine bodyPost_ret (results_none rfl _ _ _) rfl ?_
        refine ⟨⟨_, rfl⟩, .inr ⟨_, ⟨n - (j + 1) + 1, ?_⟩, Jx3⟩⟩
        rw [List.take_add_one, HX.out]
        rfl

theorem alloc4 (w : World) (o0 o1 o2 o3 : Obj) : ∀ w1, w1 = (((w.alloc o0).alloc o1).alloc o2).alloc o3 →
    w1.heap[w.heap.size]? = some o0 ∧ w1.heap[w.heap.size + 1]? = some o1 ∧ w1.heap[w.heap.size + 1 + 1]? = some o2 ∧ w1.heap[w.heap.size + 1 + 1 + 1]? = some o3 ∧ w1.heap.size = w.heap.size + 4 ∧ Below w.heap.size w w1 := by
  rintro w1 rfl
  refine ⟨?_, ?_, ?_, ?_, by simp, ?_⟩
  · simp only [heap_alloc_if, World.size_alloc]; rw [if_neg (by omega), if_neg (by omega), if_neg (by omega), if_pos trivial]
  · simp only [heap_alloc_if, World.size_alloc]; rw [if_neg (by omega), if_neg (by omega), if_pos trivial]
  · simp only [heap_alloc_if, World.size_alloc]; rw [if_neg (by omega), if_pos trivial]
  · simp only [heap_alloc_if, World.size_alloc]; rw [if_pos trivial]
  · exact ((((Below.refl _ w).alloc (Nat.le_refl _) _).alloc (by simp) _).alloc (by simp; omega) _).alloc (by simp; omega) _

/-- what stands while row goes on -/
structure RoAt (hb : HB) (w : World) (B Bw v : Nat) (M : Hp) (W : World) : Prop where
  rep : Rep hb M W
  b0 : W.heap[B]? = some (.cells #[.pointer (some ⟨hb.h, 0, none⟩)] 23 (0, 0))
  b1 : W.heap[B + 1]? = some (.cells #[.int .u64 (v : Nat)] 29 (0, 0))
  b2 : W.heap[B + 1 + 1]? = some (.cells #[.int .i64 0] 24 (0, 0))
  moves : Moves hb w W

theorem RoAt.step {hb : HB} {M : Hp} {w W W' : World} {B Bw v : Nat} (h : RoAt hb w B Bw v M W) (hw : B + 1 + 1 < Bw) (hB : B = w.heap.size) (hhb : ∀ k, hb.has k → k < B) (hk : ∀ k cs t z, k ≠ Bw → W.heap[k]? = some (.cells cs t z) → W'.heap[k]? = W.heap[k]?) (hb' : B ≤ W.heap.size → Below B W W') : RoAt hb w B Bw v M W' := by
  have hz := h.moves.size
  have hbb := hb' (by omega)
  exact ⟨h.rep.of_blocks fun k hk' => by obtain ⟨cs, t, z, hc⟩ := h.rep.isCells hk'; exact hk k cs t z (by have := hhb k hk'; omega) hc,
   (hk _ _ _ _ (by omega) h.b0).trans h.b0, (hk _ _ _ _ (by omega) h.b1).trans h.b1, (hk _ _ _ _ (by omega) h.b2).trans h.b2,
   h.moves.trans' ⟨hbb.os, hbb.tape, hbb.output, hbb.size⟩ fun k h1 _ => hbb.block k (by omega)⟩

/-- one Cons, its word and its error stored -/
theorem ro_next {hb : HB} {M' M'' : Hp} {w W w2 : World} {B Bw v v' : Nat} (h : RoAt hb w B Bw v M' W) (hB : B = w.heap.size) (hhb : ∀ k, hb.has k → k < B) (r2 : Rep hb M'' w2) (m2 : Moves hb W w2) (hz : B + 3 < W.heap.size) :
    KeepsFrom (B + 3) W ((w2.setCell ⟨B + 1, 0, none⟩ (.int .u64 (v' : Nat))).setCell ⟨B + 1 + 1, 0, none⟩ (.int .i64 0)) ∧
    (∀ k, k < W.heap.size → ¬ hb.has k → k ≠ B + 1 → k ≠ B + 1 + 1 → ((w2.setCell ⟨B + 1, 0, none⟩ (.int .u64 (v' : Nat))).setCell ⟨B + 1 + 1, 0, none⟩ (.int .i64 0)).heap[k]? = W.heap[k]?) ∧
    RoAt hb w B Bw v' M'' ((w2.setCell ⟨B + 1, 0, none⟩ (.int .u64 (v' : Nat))).setCell ⟨B + 1 + 1, 0, none⟩ (.int .i64 0)) := by
  have key : ∀ k, k ≠ B + 1 → k ≠ B + 1 + 1 → ((w2.setCell ⟨B + 1, 0, none⟩ (.int .u64 (v' : Nat))).setCell ⟨B + 1 + 1, 0, none⟩ (.int .i64 0)).heap[k]? = w2.heap[k]? := fun k h1 h2 =>
    (Below.heap_setCell _ _ _ _ h2).trans (Below.heap_setCell _ _ _ _ h1)
  have hnh : ∀ k, B ≤ k → ¬ hb.has k := fun k h1 h2 => by have := hhb k h2; omega
  have hs2 := m2.size
  refine ⟨⟨by simpa [World.setCell] using hs2, fun k o hk ho hc => ?_⟩, fun k h1 h2 h3 h4 => (key k h3 h4).trans (m2.block k h1 h2), ?_, ?_, ?_, ?_, ?_⟩
  · exact (key k (by omega) (by omega)).trans ((m2.block k (Array.getElem?_eq_some_iff.1 ho).1 (hnh k (by omega))).trans ho)
  · exact (r2.other (hnh (B + 1) (by omega)) _).other (hnh (B + 1 + 1) (by omega)) _
  · exact (key B (by omega) (by omega)).trans ((m2.block B (by omega) (hnh B (by omega))).trans h.b0)
  · exact (Below.heap_setCell _ _ _ _ (show B + 1 ≠ B + 1 + 1 by omega)).trans (box_set ((m2.block (B + 1) (by omega) (hnh _ (by omega))).trans h.b1) _)
  · exact box_set ((Below.heap_setCell _ _ _ _ (show B + 1 + 1 ≠ B + 1 by omega)).trans ((m2.block (B + 1 + 1) (by omega) (hnh _ (by omega))).trans h.b2)) _
  · exact (h.moves.trans m2).trans' ⟨rfl, rfl, rfl, by simp [World.setCell]⟩ fun k h1 _ => key k (by omega) (by omega)

theorem drop_next {ws : List Nat} {n k y : Nat} (hn : n = ws.length) (hk : k < n) (hy : ws[n - 1 - k]? = some y) : ws.drop (n - (k + 1)) = y :: ws.drop (n - k) := by
  rw [show n - (k + 1) = n - 1 - k by omega]
  obtain ⟨hi, rfl⟩ := List.getElem?_eq_some_iff.1 hy
  rw [List.drop_eq_getElem_cons hi, show n - 1 - k + 1 = n - k by omega]

set_option maxRecDepth 100000 in
set_option maxHeartbeats 2000000 in
/-- row, where there is room -/
theorem row_any {hb : HB} {M : Hp} {w : World} (r : Rep hb M w) {n0 q v0 : Nat} {tl : List (Nat × Nat)} (pk : PK M n0) (hL : LSeg M v0 tl q) (hq : q < 18446744073709551616) (sv : Value) (ws : List Nat) (hs : SlWords w sv ws) (hsb : ∀ k, sv.ownBlock = some k → ¬ hb.has k)
    (hx : ∀ x ∈ ws, x < 18446744073709551616) (hroom : n0 + ws.length ≤ 32 * M.limit) :
    Calls Try.prog 95 #[.pointer (some ⟨hb.h, 0, none⟩), .int .u64 v0, sv] w fun e w' => ∃ (M' : Hp) (v : Nat), e = .returned (.tuple #[.int .u64 (v : Nat), .int .i64 0]) ∧ Rep hb M' w' ∧ PK M' (n0 + ws.length) ∧ M.Grown M' ∧ LSeg M' v (rowL n0 ws ++ tl) q ∧ Moves hb w w' := by
  have hlt := r.lt
  have hlim := r.ok.lim
  obtain ⟨n, hn⟩ : ∃ n, n = ws.length := ⟨_, rfl⟩
  obtain ⟨a, cap, rfl⟩ := hs.slice
  rw [← hn] at hs hsb hroom ⊢
  refine (callsIn_wide (n := 5)).1 ?_
  refine callsIn_of_wp_marks Try.func95 rfl trivial ?_ rfl
  simp only [Try.ntmps95, List.size_toArray, List.length_cons, List.length_nil, Nat.reduceAdd, Nat.reduceSub, Array.replicate_succ, Array.replicate_zero, List.push_toArray, List.append_toArray, List.nil_append, List.cons_append]
  have HLT := Lib.hid hlt
  have HL := Lib.hid hL
  have HN := Lib.hid hn
  have HQ := Lib.hid hq
  have R := Lib.hid r
  have PKh := Lib.hid pk
  have HS := Lib.hid hs
  have HSB := Lib.hid hsb
  have HX := Lib.hid hx
  have hn32 : n ≤ 32768 := by omega
  clear hlt hL hn hq r pk hs hsb hx
  gi_wp2_with fail
  refine ⟨trivial, (callsIn_wide.2 (backward_any _ _ _ _)).mono ?_⟩
  rintro e w1 ⟨rfl, hw1⟩
  obtain ⟨a0, a1, a2, a3, az, ab⟩ := alloc4 w _ _ _ _ w1 hw1
  have st0 : RoAt hb w w.heap.size (w.heap.size + 1 + 1 + 1) v0 M w1 := ⟨R.out.below ab, a0, a1, a2, .of_below ab⟩
  have hsl : ∀ k, (Value.slice a n cap).ownBlock = some k → k < w.heap.size := by
    intro k hk
    rcases HS.out with ⟨e, _⟩ | ⟨b, o, c, e, hb, _⟩
    · rw [e] at hk; cases hk
    · rw [e] at hk; cases hk; exact hb
  have HSL := Lib.hid hsl
  have ST0 := Lib.hid st0
  have hseq := backward_seq (n0 := 4) (HS.out.below ab) a3 (by rw [← HN.out]; omega)
  clear hw1 a0 a1 a2 a3 ab st0 hsl
  gi_wp2_with fail
  refine wpIn_range (gf := 147) (lb := #[.pointer (some ⟨w.heap.size + 1 + 1 + 1, 0, none⟩)]) rfl (enters_of Try.func147 (by kernel_rfl) rfl) hseq (by omega) ?hkk (fun _ => rfl)
    (fun pre W => ∃ (k v : Nat) (M' : Hp), k ≤ n ∧ pre = (bitems ws).take k ∧ RoAt hb w w.heap.size (w.heap.size + 1 + 1 + 1) v M' W ∧ PK M' (n0 + k) ∧ M.Grown M' ∧ LSeg M' v (rowL n0 (ws.drop (n - k)) ++ tl) q)
    (fun _ _ _ => False)
    ?hI ?hIx ⟨0, v0, M, Nat.zero_le _, by simp, ST0.out, PKh.out, Hp.Grown.refl M, by rw [Nat.sub_zero, List.drop_of_length_le (by rw [← HN.out]; exact Nat.le_refl _)]; exact HL.out⟩ ?round ?done ?stop
  case hkk =>
    rintro k (rfl | hk)
    · omega
    · have := HSL.out k hk; omega
  case hI =>
    refine OwnV.of_cells (n₀ := w.heap.size) (by omega) (by omega) ?_
    rintro s W W' ⟨k, v, M', h1, h2, h3, h4⟩ hk hbl
    exact ⟨k, v, M', h1, h2, h3.step (by omega) rfl HLT.out hk hbl, h4⟩
  case hIx => exact fun _ _ _ _ _ hs _ _ => hs
  case round =>
    constructor
    refine And.intro (fun l x W => ?_) ?_
    · gi_wp2
      exact ⟨rfl, trivial⟩
    rintro l0 pre x W ⟨k, v, M', h1, h2, h3, h4, h5, h6⟩ hz ⟨k', hpk, hxk⟩
    obtain rfl : k = k' := by
      have h7 := congrArg List.length (h2.symm.trans hpk)
      have h8 := (List.getElem?_eq_some_iff.1 hxk).1
      rw [bitems_len] at h8
      rw [List.length_take, List.length_take, bitems_len] at h7
      have := HN.out
      omega
    have hkn : k < n := by
      have h8 := (List.getElem?_eq_some_iff.1 hxk).1
      rw [bitems_len, ← HN.out] at h8
      exact h8
    obtain ⟨y, hy⟩ : ∃ y, ws[n - 1 - k]? = some y := ⟨_, List.getElem?_eq_getElem (by rw [← HN.out]; omega)⟩
    obtain rfl : x = (n - 1 - k, y) := by
      have h9 := bitems_get (ws := ws) (k := k) (x := y) (by rw [← HN.out]; exact hkn) (by rw [← HN.out]; exact hy)
      rw [hxk, ← HN.out] at h9
      simpa using h9
    have hyl : y < 18446744073709551616 := HX.out y (List.mem_of_getElem? hy)
    have hvl := h6.lt h3.rep.ok HQ.out
    obtain ⟨M'', htw, pk2, g2, pr2⟩ := h4.cons h3.rep.ok y v (by rw [h5.1]; omega)
    obtain ⟨v2, hv2⟩ : ∃ v2, v2 = 16 * (n0 + k) + 1 := ⟨_, rfl⟩
    rw [← hv2] at htw
    have hC := cons_any h3.rep y v hyl hvl htw
    have L2 : Hid (LSeg M'' v2 (rowL n0 (ws.drop (n - (k + 1))) ++ tl) q) := Lib.hid (by
      rw [drop_next HN.out hkn hy]
      have h9 := h6.push g2 pr2
      rw [rowL, List.length_drop, ← HN.out, show n - (n - k) = k by omega, hv2]
      exact h9)
    have PRE : Hid (pre ++ [(n - 1 - k, y)] = (bitems ws).take (k + 1)) := Lib.hid (by rw [List.take_add_one, hxk, hpk]; rfl)
    have PK2 := Lib.hid pk2
    have G2 := Lib.hid (h5.trans g2)
    obtain ⟨c0, _⟩ := box_at h3.b0
    obtain ⟨c1, f1⟩ := box_at h3.b1
    obtain ⟨c2, f2⟩ := box_at h3.b2
    have H3 := Lib.hid h3
    clear h2 h3 h4 h5 h6 hpk hxk hy hyl hvl htw pk2 g2 pr2 hv2
    gi_wp2_with fail
    refine ⟨trivial, (CallsIn.inRound l0 (callsIn_wide.2 hC)).mono ?_⟩
    rintro e w2 ⟨rfl, r2, m2⟩
    have R2 := Lib.hid r2
    have M2 := Lib.hid m2
    have hnh : ∀ k, w.heap.size ≤ k → ¬ hb.has k := fun k h1 h2 => by have := HLT.out k h2; omega
    obtain ⟨d1, e1⟩ := box_at ((m2.block (w.heap.size + 1) (by omega) (hnh _ (by omega))).trans H3.out.b1)
    obtain ⟨d2, e2⟩ := box_at ((m2.block (w.heap.size + 1 + 1) (by omega) (hnh _ (by omega))).trans H3.out.b2)
    clear hC r2 m2 hnh c0 c1 c2 f1 f2
    gi_wp2_with fail
    obtain ⟨k1, k2, k3⟩ := ro_next (v' := v2) H3.out rfl HLT.out R2.out M2.out (by omega)
    refine ⟨⟨k1.size, fun k o hk => k1.same k o (by omega)⟩, fun k hk => ?_, k + 1, v2, M'', hkn, PRE.out, k3, PK2.out, G2.out, L2.out⟩
    rcases hk with rfl | hk
    · exact k2 _ (by omega) (fun h => by have := HLT.out _ h; omega) (by omega) (by omega)
    · have h9 := HSL.out k hk
      exact k2 _ (by omega) (HSB.out k hk) (by omega) (by omega)
  case done =>
    rintro D xs W hD rfl ⟨k, v, M', h1, h2, h3, h4, h5, h6⟩ hK
    obtain rfl : k = n := by
      have h7 := congrArg List.length h2
      rw [List.length_take, bitems_len] at h7
      have := HN.out
      omega
    have H3 := Lib.hid h3
    have H4 := Lib.hid h4
    have H5 := Lib.hid h5
    have H6 := Lib.hid h6
    have HK := Lib.hid hK
    obtain ⟨c1, f1⟩ := box_at h3.b1
    obtain ⟨c2, f2⟩ := box_at h3.b2
    clear h1 h2 h3 h4 h5 h6 hK
    gi_wp2_with fail
    have hDW : D < W.heap.size := (Array.getElem?_eq_some_iff.1 HK.out).1
    obtain ⟨k1, k2, k3⟩ := ro_next (v' := v) H3.out rfl HLT.out H3.out.rep (.refl _ _) (by omega)
    generalize (W.setCell ⟨w.heap.size + 1, 0, none⟩ (.int .u64 (v : Nat))).setCell ⟨w.heap.size + 1 + 1, 0, none⟩ (.int .i64 0) = W2 at *
    have hK2 : W2.heap[D]? = some (.deferred (some [])) := k1.same D _ (by omega) HK.out rfl
    refine ⟨by simp, .inl ⟨_, _, rfl, run_takeDeferred hK2, ?_⟩⟩
    obtain ⟨W3, hW3⟩ : ∃ W3, W3 = W2.putObj D (.deferred none) := ⟨_, rfl⟩
    rw [← hW3]
    have hold3 : ∀ k, k ≠ D → W3.heap[k]? = W2.heap[k]? := fun k h => by rw [hW3]; exact World.putObj_heap_other h
    have hz3 : W3.heap.size = W2.heap.size := by rw [hW3]; simp
    obtain ⟨d1, _⟩ := box_at ((hold3 (w.heap.size + 1) (by omega)).trans k3.b1)
    obtain ⟨d2, _⟩ := box_at ((hold3 (w.heap.size + 1 + 1) (by omega)).trans k3.b2)
    refine ⟨.tuple #[.int .u64 (v : Nat), .int .i64 0], by simp [results, Try.f95, go_sem, d1, d2], M', v, rfl, k3.rep.of_blocks fun k hk => hold3 k (by have := HLT.out k hk; omega), H4.out, H5.out, ?_, ?_⟩
    · have h9 := H6.out
      rw [Nat.sub_self, List.drop_zero] at h9
      exact h9
    · exact k3.moves.trans' ⟨by rw [hW3]; rfl, by rw [hW3]; rfl, by rw [hW3]; rfl, by omega⟩ fun k h1 _ => hold3 k (by omega)
  case stop => exact fun _ _ _ _ _ _ h _ => h.elim
end Go.Proofs.Ytecemlamoiepdaa
