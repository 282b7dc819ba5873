/- The contracts of slices.Repeat of one word, and of Vector. -/
import Derived.Test.YtecemlamoiepdaaTotal
import Derived.Laws.CopyOwn
import Derived.Deep.RegionLaw
namespace Go.Proofs.Ytecemlamoiepdaa
open Go.RowKit

set_option maxRecDepth 10000 in
set_option maxHeartbeats 400000 in
theorem mul64_small (n : Nat) (hn : n ≤ 62) (w : World) :
    Calls Try.prog 145 #[.int .u64 1, .int .u64 n] w fun e w' => e = .returned (.tuple #[.int .u64 0, .int .u64 n]) ∧ w' = w := by
  have a1 : bits .and .u64 (n : Int) 4294967295 = n := by
    have h := u64_and n 32 (by omega) (by omega)
    simp only [Nat.reducePow, Int.reducePow, Int.reduceSub] at h
    rw [h]; omega
  have a2 : bits .and .u64 1 4294967295 = 1 := by kernel_rfl
  have a3 : bits .and .u64 0 4294967295 = 0 := by kernel_rfl
  have a4 : (n : Int) / 4294967296 = 0 := by omega
  go_enter Try.func145, Try.ntmps145
  go_wp2
  go_ret2
  exact ⟨by simp, rfl⟩

set_option maxRecDepth 10000 in
set_option maxHeartbeats 400000 in
theorem mul_small (n : Nat) (hn : n ≤ 62) (w : World) :
    Calls Try.prog 120 #[.int .u64 1, .int .u64 n] w fun e w' => e = .returned (.tuple #[.int .u64 0, .int .u64 n]) ∧ w' = w := by
  have hM := mul64_small n hn w
  go_enter Try.func120, Try.ntmps120
  go_wp2_with fail
  refine hM.mono ?_
  rintro e w1 ⟨rfl, rfl⟩
  clear hM
  go_wp2_with fail
  go_ret2
  exact ⟨by simp, rfl⟩

theorem made_words (n : Nat) : madeCells #[Value.int .u64 0] n = (List.replicate n (wv 0)).toArray := by
  unfold madeCells
  apply Array.ext
  · simp
  · intro i h1 h2
    simp [wv, Nat.mod_one]

theorem splice_rep (k c n : Nat) (h : k + c ≤ n) (x y : Value) : splice (List.replicate k x ++ List.replicate (n - k) y) k (List.replicate c x) = List.replicate (k + c) x ++ List.replicate (n - (k + c)) y := by
  unfold splice
  rw [List.take_append_of_le_length (by simp), List.take_of_length_le (by simp), List.length_replicate, List.drop_append, List.drop_of_length_le (by simp), List.nil_append, List.length_replicate, List.drop_replicate, ← List.append_assoc, List.replicate_append_replicate]
  congr 2
  omega

theorem cell_rep {w : World} {g k m j : Nat} {x y : Value} {t : TypeId} (h : w.heap[g]? = some (.cells (List.replicate k x ++ List.replicate m y).toArray t (0, 0))) (hj : j < k) : w.cell? ⟨g, j, none⟩ = some x := by
  unfold World.cell?
  simp only [h]
  simp [List.getElem?_append_left, hj]

set_option maxRecDepth 20000 in
set_option maxHeartbeats 1000000 in
theorem repeat_any (b n x : Nat) (N : Int) (hN : N = n) (hn : n ≤ 62) (w : World) (hb : b < w.heap.size) (hc : w.cell? ⟨b, 0, none⟩ = some (.int .u64 (x : Nat))) :
    Calls Try.prog 84 #[.slice (some ⟨b, 0, none⟩) 1 1, .int .i64 N] w fun e w' => ∃ v, e = .returned v ∧ SlWords w' v (List.replicate n x) ∧ Below w.heap.size w w' := by
  subst hN
  have hM := mul_small n hn w
  have hmk := made_words n
  have HMK := Lib.hid hmk
  have C := Lib.hid hc
  have HSZ : (Try.prog.info? 29).map (·.size) = some 1 := by kernel_rfl
  clear hmk hc
  go_enter Try.func84, Try.ntmps84
  go_wp2_with fail
  refine hM.mono ?_
  rintro e w1 ⟨rfl, rfl⟩
  clear hM
  go_wp2_with (first
    | (at_make; refine wpList_mk (z := .int .u64 0) (zc := #[.int .u64 0]) (size := 1) (bytes := 8) Try.underlying39 rfl (by kernel_rfl) rfl _ _ rfl .i64 .i64 _ _ n rfl rfl rfl rfl (by omega) (by unfold maxLen; omega) ?_)
    | (with_reducible refine wpList_copy_splice rfl (.tmp 31) (.tmp 32) 39 39 rfl 29 Try.underlying39 HSZ (some ⟨w1.heap.size, 0, none⟩) (some ⟨b, 0, none⟩) n n 1 1 rfl rfl w1.heap.size 0 (List.replicate n (wv 0)) 29 ?c1 (List.replicate (min 1 n) (wv x)) ?c2 ?c3 ?c4 ?c5 w1.heap.size w1 ?c6 (Nat.le_refl _) ?c7))
  case c1 => rw [HMK.out]; exact heap_alloc_new _ _
  case c2 => simp
  case c3 =>
    intro _
    intro j v hv
    have hj := (List.getElem?_eq_some_iff.1 hv).1
    simp at hj
    obtain rfl : j = 0 := by omega
    rw [List.getElem?_replicate, if_pos (by omega)] at hv
    cases hv
    exact C.out
  case c4 => simp; omega
  case c5 => intro v hv; rw [(List.mem_replicate.1 hv).2]; rfl
  case c6 => exact (Below.refl _ _).alloc (Nat.le_refl _) _
  case c7 =>
    intro w2 hg2 hB2
    have HG2 : Hid (w2.heap[w1.heap.size]? = some (.cells (List.replicate (min 1 n) (wv x) ++ List.replicate (n - min 1 n) (wv 0)).toArray 29 (0, 0))) := by
      have := splice_rep 0 (min 1 n) n (by omega) (wv x) (wv 0)
      simp only [List.replicate_zero, List.nil_append, Nat.sub_zero, Nat.zero_add] at this
      rw [← this]
      exact hg2
    have B2 := Lib.hid hB2
    clear hg2 hB2
    obtain ⟨k0, hk0, hk1⟩ : ∃ k0, k0 = min 1 n ∧ (1 ≤ k0 ∨ n = 0) := ⟨_, rfl, by omega⟩
    have hk2 : k0 ≤ n := by omega
    rw [← hk0] at HG2 ⊢
    clear hk0
    go_wp2_with fail
    go_loopw [8] (fun kv wr => ∃ k : Nat, k ≤ n ∧ (1 ≤ k ∨ n = 0) ∧ kv = .int .i64 k ∧ wr.heap[w1.heap.size]? = some (.cells (List.replicate k (wv x) ++ List.replicate (n - k) (wv 0)).toArray 29 (0, 0)) ∧ Below w1.heap.size w1 wr) (fun kv _ => n - (intOf kv).toNat)
    case atStart => exact ⟨k0, hk2, hk1, rfl, HG2.out, B2.out⟩
    case round =>
      obtain ⟨k, hkn, hk1', rfl, hg, hB⟩ := hrel
      have HG := Lib.hid hg
      have BB := Lib.hid hB
      have HK := Lib.hid hk1'
      clear hg hB hk1 hk1' hk2
      by_cases hlt : k < n
      · have hk1 : 1 ≤ k := by have := HK.out; omega
        have hnk : ¬ n = k := by omega
        have HNK := Lib.hid hnk
        clear hnk
        go_wp2_with fail
        go_region_law (refine step_copy_splice rfl (.tmp 41) (.tmp 44) 39 39 rfl 29 Try.underlying39 HSZ (some ⟨w1.heap.size, k, none⟩) (some ⟨w1.heap.size, 0, none⟩) (n - k) (n - k) k n (by simp [Act.eval, Act.put, HNK.out]) (by simp [Act.eval, Act.put]) w1.heap.size k (List.replicate k (wv x) ++ List.replicate (n - k) (wv 0)) 29 HG.out (List.replicate (min k (n - k)) (wv x)) (by simp) (fun _ => ⟨rfl, ⟨w1.heap.size, 0, none⟩, rfl, fun j v hv => by have h := (List.getElem?_eq_some_iff.1 hv).1; simp at h; rw [List.getElem?_replicate, if_pos (by omega)] at hv; cases hv; rw [Addr.add_mid, Nat.zero_add]; exact cell_rep (k := k) (j := j) HG.out (by omega)⟩) (by simp; omega) (by intro v hv; rw [(List.mem_replicate.1 hv).2]; rfl) w1.heap.size w1 (bdn (n := 1) BB.out) (Nat.le_refl _) ?_; intro w3 hg3 hB3)
        all_goals
          have hw : ((k : Int) + (min k (n - k) : Nat)) = ((k + min k (n - k) : Nat) : Int) := by omega
          have hw2 : IntKind.i64.wrap ((k : Int) + (min k (n - k) : Nat)) = ((k + min k (n - k) : Nat) : Int) := by rw [IntKind.wrap_i64]; omega
          have HW := Lib.hid hw
          have HW2 := Lib.hid hw2
          clear hw hw2
          have hsp := splice_rep k (min k (n - k)) n (by omega) (wv x) (wv 0)
          have h3 := hg3.out
          rw [hsp] at h3
          have H3 := Lib.hid h3
          clear h3 hsp
          try go_wp2_with fail
          refine ⟨⟨k + min k (n - k), by omega, by omega, by first | exact HW.out | exact HW2.out, H3.out⟩, ?_⟩
          first | rw [HW2.out] | rw [HW.out]
          simp only [intOf, Int.toNat_natCast]
          omega
      · obtain rfl : k = n := by omega
        go_wp2_with fail
        go_ret
        refine ⟨_, rfl, .inr ⟨w1.heap.size, 0, k, by simp, ?_, fun i y hy => ?_⟩, BB.out⟩
        · exact lt_of_block HG.out
        · have h := (List.getElem?_eq_some_iff.1 hy).1
          simp at h
          rw [List.getElem?_replicate, if_pos (by omega)] at hy
          cases hy
          rw [Nat.zero_add]
          exact cell_rep HG.out (by omega)

/-- Vector: the word, the error, the heap -/
def Hp.vec (M : Hp) (N : Int) (x : Nat) : Nat × Nat × Hp := if N < 0 then (0, 4, M) else if 62 < N then (0, 6, M) else M.mk' 1 0 (List.replicate N.toNat x)

set_option maxRecDepth 10000 in
set_option maxHeartbeats 1000000 in
theorem vector_any {hb : HB} {M M' : Hp} {w : World} (r : Rep hb M w) (N : Int) (x : Nat) (hx : x < 18446744073709551616) {v e : Nat} (h : M.vec N x = (v, e, M')) :
    Calls Try.prog 49 #[.pointer (some ⟨hb.h, 0, none⟩), .int .i64 N, .int .u64 x] w fun en w' => en = .returned (.tuple #[.int .u64 v, .int .i64 e]) ∧ Rep hb M' w' ∧ Moves hb w w' := by
  unfold Hp.vec at h
  by_cases c1 : N < 0
  · rw [if_pos c1] at h
    cases h
    have R := Lib.hid r
    clear r
    go_enter Try.func49, Try.ntmps49
    go_wp2
    go_ret2
    exact ⟨by simp, R.out, .refl _ _⟩
  · rw [if_neg c1] at h
    by_cases c2 : 62 < N
    · rw [if_pos c2] at h
      cases h
      have R := Lib.hid r
      clear r
      go_enter Try.func49, Try.ntmps49
      go_wp2
      go_ret2
      exact ⟨by simp, R.out, .refl _ _⟩
    · rw [if_neg c2] at h
      have hB1 := (Below.refl w.heap.size w).alloc (Nat.le_refl _) (.cells #[.int .u64 (x : Nat)] 29)
      have hR := repeat_any w.heap.size N.toNat x N (by omega) (by omega) (w.alloc (.cells #[.int .u64 (x : Nat)] 29)) (by simp) (World.cell?_alloc_new _ _ _ 0)
      have R := Lib.hid r
      have H := Lib.hid h
      have B1 := Lib.hid hB1
      have HX := Lib.hid hx
      have hle : 0 ≤ N ∧ N ≤ 62 := by omega
      clear r h hB1 hx
      go_enter Try.func49, Try.ntmps49
      go_wp2_with fail
      refine hR.mono ?_
      rintro en w2 ⟨u, rfl, hs, b2⟩
      have B2 : Below w.heap.size w w2 := B1.out.trans (b2.mono B1.out.size)
      have hM := make_any (R.out.below B2) 1 0 1 0 rfl rfl (by omega) (by omega) (by omega) u _ hs (by intro y hy; rw [(List.mem_replicate.1 hy).2]; exact HX.out) H.out
      have BB := Lib.hid B2
      clear hR hs b2 B2
      go_wp2_with fail
      refine hM.mono ?_
      rintro en w3 ⟨rfl, r3, m3⟩
      have R3 := Lib.hid r3
      have M3 : Hid (Moves hb w w3) := Lib.hid ((Moves.of_below BB.out).trans m3)
      clear hM r3 m3
      go_wp2_with fail
      go_ret2
      exact ⟨by simp, R3.out, M3.out⟩
end Go.Proofs.Ytecemlamoiepdaa
