/- The contracts of slices.Reverse over an own row of words, of lists.tail, elements, joins, steps. -/
import Derived.Test.YtecemlamoiepdaaTable
import Derived.Test.YtecemlamoiepdaaWord2
import Derived.Deep.QuietTactic
import Derived.BigQuiet
import Derived.RegionTactic
namespace Go.Proofs.Ytecemlamoiepdaa
open Go.RowKit Go.Shelf

/-- so many swapped at both ends -/
def revK (ws : List Nat) (k : Nat) : List Nat := (List.range ws.length).map fun p => if p < k ∨ ws.length - k ≤ p then ws.getD (ws.length - 1 - p) 0 else ws.getD p 0

theorem revK_len (ws : List Nat) (k : Nat) : (revK ws k).length = ws.length := by simp [revK]
theorem revK_get {ws : List Nat} {k p : Nat} (hp : p < ws.length) : (revK ws k)[p]? = some (if p < k ∨ ws.length - k ≤ p then ws.getD (ws.length - 1 - p) 0 else ws.getD p 0) := by
  unfold revK
  rw [List.getElem?_map, List.getElem?_range hp]
  rfl
theorem revK_zero (ws : List Nat) : revK ws 0 = ws := by
  apply List.ext_getElem?
  intro p
  rcases Nat.lt_or_ge p ws.length with h | h
  · rw [revK_get h, if_neg (by omega), List.getD_eq_getElem?_getD, List.getElem?_eq_getElem h]; rfl
  · rw [List.getElem?_eq_none (by rw [revK_len]; exact h), List.getElem?_eq_none h]
theorem revK_end {ws : List Nat} {k : Nat} (hk : ws.length ≤ 2 * k + 1) : revK ws k = ws.reverse := by
  apply List.ext_getElem?
  intro p
  rcases Nat.lt_or_ge p ws.length with h | h
  · rw [revK_get h, List.getElem?_reverse h]
    have h1 : ws.length - 1 - p < ws.length := by omega
    rw [List.getElem?_eq_getElem h1]
    congr 1
    split
    · rw [List.getD_eq_getElem?_getD, List.getElem?_eq_getElem h1]; rfl
    · have e : ws.length - 1 - p = p := by omega
      rw [List.getD_eq_getElem?_getD, List.getElem?_eq_getElem h]
      simp only [e, Option.getD_some]
  · rw [List.getElem?_eq_none (by rw [revK_len]; exact h), List.getElem?_eq_none (by simpa using h)]
theorem revK_step {ws : List Nat} {k : Nat} (hk : 2 * k + 1 < ws.length) : ((revK ws k).set k (ws.getD (ws.length - 1 - k) 0)).set (ws.length - 1 - k) (ws.getD k 0) = revK ws (k + 1) := by
  apply List.ext_getElem?
  intro p
  rcases Nat.lt_or_ge p ws.length with h | h
  · rw [revK_get h, List.getElem?_set, List.getElem?_set, List.length_set, revK_len, revK_get h]
    by_cases h1 : ws.length - 1 - k = p
    · subst h1
      rw [if_pos rfl, if_pos h, if_pos (by omega), show ws.length - 1 - (ws.length - 1 - k) = k by omega]
    · rw [if_neg h1]
      by_cases h2 : k = p
      · subst h2
        rw [if_pos rfl, if_pos h, if_pos (by omega)]
      · rw [if_neg h2]
        congr 1
        by_cases h3 : p < k ∨ ws.length - k ≤ p
        · rw [if_pos h3, if_pos (by omega)]
        · rw [if_neg h3, if_neg (by omega)]
  · rw [List.getElem?_eq_none (by simp [revK_len]; exact h), List.getElem?_eq_none (by rw [revK_len]; exact h)]

/-- a word of an own row stored -/
theorem OwnW.put {w : World} {g n cap i y : Nat} {xs : List Nat} (h : OwnW w (.slice (some ⟨g, 0, none⟩) n cap) xs) (hn : n = xs.length) : OwnW (w.setCell ⟨g, i, none⟩ (wv y)) (.slice (some ⟨g, 0, none⟩) n cap) (xs.set i y) := by
  subst hn
  have hst := World.ownsRow.stored h i (wv y)
  unfold OwnW
  simp only [List.length_set]
  rw [List.map_set]
  exact hst.1

theorem OwnW.at {w : World} {g n cap : Nat} {xs : List Nat} (h : OwnW w (.slice (some ⟨g, 0, none⟩) n cap) xs) (hn : n = xs.length) (i x : Nat) (hx : xs[i]? = some x) : w.cell? ⟨g, i, none⟩ = some (.int .u64 (x : Nat)) ∧ w.frozen? ⟨g, i, none⟩ = false := by
  subst hn
  refine ⟨?_, World.ownsRow.frozenAt h i⟩
  have := h.cells (g := g) rfl i (wv x) (by rw [List.getElem?_map, hx]; rfl)
  rw [Addr.add_mid, Nat.zero_add] at this
  exact this

set_option maxRecDepth 20000 in
set_option maxHeartbeats 1000000 in
theorem reverse_any (sv : Value) (ws : List Nat) (w : World) (h : OwnW w sv ws) (hl : ws.length ≤ 1000000) :
    Calls Try.prog 124 #[sv] w fun e w' => (∃ v, e = .returned v) ∧ OwnW w' sv ws.reverse ∧ w'.os = w.os ∧ w'.tape = w.tape ∧ w'.output = w.output ∧ w'.heap.size = w.heap.size ∧ ∀ k, sv.ownBlock ≠ some k → w'.heap[k]? = w.heap[k]? := by
  obtain ⟨n, hn⟩ : ∃ n, n = ws.length := ⟨_, rfl⟩
  have H := Lib.hid h
  have HN := Lib.hid hn
  obtain ⟨a, cap, rfl⟩ := h.slice'
  rw [← hn] at hl H ⊢
  clear hn h
  go_enter Try.func124, Try.ntmps124
  go_wp2_with fail
  go_loopw [2, 3] (fun iv jv wr => ∃ k : Nat, 2 * k ≤ n ∧ iv = .int .i64 k ∧ jv = .int .i64 ((n : Int) - 1 - k) ∧ OwnW wr (.slice a n cap) (revK ws k) ∧ wr.os = w.os ∧ wr.tape = w.tape ∧ wr.output = w.output ∧ wr.heap.size = w.heap.size ∧ ∀ q, (Value.slice a n cap).ownBlock ≠ some q → wr.heap[q]? = w.heap[q]?) (fun iv _ _ => n - (intOf iv).toNat)
  case atStart => exact ⟨0, by omega, rfl, by simp, by rw [revK_zero]; exact H.out, rfl, rfl, rfl, rfl, fun _ _ => rfl⟩
  case round =>
    obtain ⟨k, hk, rfl, rfl, ho, h1, h2, h3, h4, h5⟩ := hrel
    have HO := Lib.hid ho
    have HR := Lib.hid (And.intro h1 (And.intro h2 (And.intro h3 (And.intro h4 h5))))
    by_cases hlt : 2 * k + 1 < n
    · obtain ⟨g, cap', e, _, hg, _⟩ := OwnW.form ho (by rw [revK_len, ← HN.out]; omega)
      rw [revK_len, ← HN.out] at e
      obtain ⟨rfl, rfl⟩ : a = some ⟨g, 0, none⟩ ∧ cap = cap' := by
        simp only [Value.slice.injEq] at e
        exact ⟨e.1, e.2.2⟩
      obtain ⟨c1, f1⟩ := ho.at (by rw [revK_len]; exact HN.out) k (ws.getD k 0) (by rw [revK_get (by rw [← HN.out]; omega), if_neg (by rw [← HN.out]; omega)])
      obtain ⟨c2, f2⟩ := ho.at (by rw [revK_len]; exact HN.out) (n - 1 - k) (ws.getD (n - 1 - k) 0) (by rw [revK_get (by rw [← HN.out]; omega), if_neg (by rw [← HN.out]; omega)])
      obtain ⟨j, hj⟩ : ∃ j, j = n - 1 - k := ⟨_, rfl⟩
      rw [← hj] at c2 f2
      obtain ⟨x, hx⟩ : ∃ x, x = ws.getD k 0 := ⟨_, rfl⟩
      obtain ⟨y, hy⟩ : ∃ y, y = ws.getD j 0 := ⟨_, rfl⟩
      rw [← hx] at c1
      rw [← hy] at c2
      have hjk : (n : Int) - 1 - k = j := by omega
      have hkj : k < j := by omega
      have hjn : j < n := by omega
      rw [hjk]
      have HJ := Lib.hid hj
      have HX := Lib.hid hx
      have HY := Lib.hid hy
      clear hjk hj hx hy e ho h1 h2 h3 h4 h5 hg
      go_wp2_with fail
      go_region
      go_wp2_with fail
      go_roundw
      case rel =>
        obtain ⟨h1, h2, h3, h4, h5⟩ := HR.out
        refine ⟨k + 1, by omega, by go_num, by have := HJ.out; congr 1; omega, ?_, h1, h2, h3, by simp [World.setCell]; exact h4, fun q hq => ?_⟩
        · have p1 := (HO.out.put (i := k) (y := y) (by rw [revK_len]; exact HN.out)).put (i := j) (y := x) (by rw [List.length_set, revK_len]; exact HN.out)
          rw [← revK_step (by rw [← HN.out]; exact hlt), ← HN.out, ← HJ.out, ← HY.out, ← HX.out]
          exact ownW_block p1 fun _ _ => rfl
        · have hqg : q ≠ g := fun e => hq (by rw [e]; rfl)
          exact ((Below.heap_setCell _ _ _ _ hqg).trans (Below.heap_setCell _ _ _ _ hqg)).trans (h5 q hq)
      case measure => simp [intOf]; omega
    · have hge : (n : Int) - 1 - k ≤ k := by omega
      clear ho h1 h2 h3 h4 h5
      go_wp2_with fail
      go_end0
      have h9 := HO.out
      rw [revK_end (by rw [← HN.out]; omega)] at h9
      exact ⟨⟨_, rfl⟩, h9, HR.out⟩

theorem Pr.word {M : Hp} (o : M.Ok) {k x y : Nat} (h : Pr M k x y) : x < 18446744073709551616 ∧ y < 18446744073709551616 := by
  obtain ⟨pre, post, h1, _⟩ := h
  exact ⟨o.word _ _ h1 x (by simp), o.word _ _ h1 y (by simp)⟩

theorem LSeg.words {M : Hp} (o : M.Ok) : ∀ {l : List (Nat × Nat)} {v q : Nat}, LSeg M v l q → ∀ x ∈ l.map (·.2), x < 18446744073709551616
  | [], _, _, _, x, hx => by simp at hx
  | (u, y) :: t, _, _, ⟨_, k, d, _, h2, h3⟩, x, hx => by
    rcases List.mem_cons.1 hx with rfl | hx
    · exact (h2.word o).1
    · exact h3.words o x hx

theorem LSeg.len {M : Hp} (o : M.Ok) {n : Nat} (pk : PK M n) {v q : Nat} {l : List (Nat × Nat)} (_ : LSeg M v l q) : n ≤ 32768 := by
  have := pk.segs
  have := o.len
  have := o.lim
  omega

set_option maxRecDepth 20000 in
set_option maxHeartbeats 1000000 in
theorem elements_len {hb : HB} {M : Hp} {w : World} (r : Rep hb M w) {v : Nat} {l : List (Nat × Nat)} (hL : Lst M v l) (hv : v < 18446744073709551616) (hl : l.length ≤ 32768) :
    Calls Try.prog 94 #[.pointer (some ⟨hb.h, 0, none⟩), .int .i64 13, .int .u64 v] w fun e w' => e = .returned (.tuple #[.int .u64 (l.length * 8 : Nat), .int .i64 0]) ∧ Below w.heap.size w w' := by
  have hA := list_any r hL hv hl
  have hF : ∀ w1 : World, Calls Try.prog 67 #[.int .i64 (l.length : Nat)] w1 fun e w' => e = .returned (.tuple #[.int .u64 (l.length * 8 : Nat), .int .i64 0]) ∧ w' = w1 := fun w1 => by
    have h1 := fix_yes (l.length : Nat) (by omega) (by omega) w1
    rw [show fixOf ((l.length : Nat) : Int) = l.length * 8 by unfold fixOf; omega] at h1
    exact h1
  obtain ⟨n, hn⟩ : ∃ n, n = l.length := ⟨_, rfl⟩
  rw [← hn] at hF ⊢
  have HF := Lib.hid hF
  have HN := Lib.hid hn
  clear r hL hv hF hl hn
  go_enter Try.func94, Try.ntmps94
  go_wp2_with fail
  refine hA.mono ?_
  rintro e w1 ⟨u, rfl, ho, hk, b1⟩
  obtain ⟨ua, uc, rfl⟩ := ho.slice'
  rw [List.length_map, ← HN.out] at ho ⊢
  have B1 := Lib.hid b1
  clear hA ho hk b1
  go_wp2_with fail
  refine (HF.out _).mono ?_
  rintro e w2 ⟨rfl, rfl⟩
  go_wp2_with fail
  go_ret2
  exact ⟨by simp, B1.out⟩

set_option maxRecDepth 20000 in
set_option maxHeartbeats 1000000 in
theorem elements_rev {hb : HB} {M : Hp} {w : World} (r : Rep hb M w) {n0 : Nat} (pk : PK M n0) {v : Nat} {l : List (Nat × Nat)} (hL : Lst M v l) (hv : v < 18446744073709551616) (hroom : n0 + l.length ≤ 32 * M.limit) :
    Calls Try.prog 94 #[.pointer (some ⟨hb.h, 0, none⟩), .int .i64 15, .int .u64 v] w fun e w' => ∃ (M' : Hp) (v' : Nat), e = .returned (.tuple #[.int .u64 (v' : Nat), .int .i64 0]) ∧ Rep hb M' w' ∧ PK M' (n0 + l.length) ∧ M.Grown M' ∧ LSeg M' v' (rowL n0 (l.map (·.2)).reverse) 20 ∧ Moves hb w w' := by
  have hlim := r.ok.lim
  have hA := list_any r hL hv (by omega)
  have hW := hL.words r.ok
  obtain ⟨n, hn⟩ : ∃ n, n = l.length := ⟨_, rfl⟩
  rw [← hn] at hroom ⊢
  have HN := Lib.hid hn
  have R := Lib.hid r
  have PKh := Lib.hid pk
  have HW := Lib.hid hW
  have HROOM := Lib.hid hroom
  have hn2 : n ≤ 32768 := by omega
  clear r hL hv hn pk hW hroom hlim
  go_enter Try.func94, Try.ntmps94
  go_wp2_with fail
  refine hA.mono ?_
  rintro e w1 ⟨u, rfl, ho, hk, b1⟩
  have hR := reverse_any u (l.map (·.2)) w1 ho (by rw [List.length_map, ← HN.out]; omega)
  obtain ⟨ua, uc, rfl⟩ := ho.slice'
  rw [List.length_map, ← HN.out] at ho hk hR ⊢
  have B1 := Lib.hid b1
  have HK := Lib.hid hk
  clear hA ho hk b1
  go_wp2_with fail
  refine hR.mono ?_
  rintro e w2 ⟨⟨vv, rfl⟩, ho2, e1, e2, e3, e4, e5⟩
  have hlt := R.out.lt
  have b2 : Below w.heap.size w w2 := ⟨e1.trans B1.out.os, e2.trans B1.out.tape, e3.trans B1.out.output, by rw [e4]; exact B1.out.size, fun k hk => (e5 k (fun e => by have := HK.out k e; omega)).trans (B1.out.block k hk)⟩
  have r2 := R.out.below b2
  have hC := row_any (v0 := 20) (q := 20) (tl := []) r2 PKh.out rfl (by omega) (.slice ua n uc) (l.map (·.2)).reverse ho2.sl (fun k hk hc => by have h1 := HK.out k hk; have h2 := hlt k hc; omega) (by intro x hx; exact HW.out x (List.mem_reverse.1 hx)) (by rw [List.length_reverse, List.length_map, ← HN.out]; exact HROOM.out)
  rw [List.length_reverse, List.length_map, ← HN.out, List.append_nil] at hC
  have B2 := Lib.hid b2
  clear hR ho2 e1 e2 e3 e4 e5 hlt b2 r2
  go_wp2_with fail
  refine hC.mono ?_
  rintro e w3 ⟨M', v', rfl, h1, h2, h3, h4, h5⟩
  have H := Lib.hid (And.intro h1 (And.intro h2 (And.intro h3 (And.intro h4 h5))))
  clear h1 h2 h3 h4 h5 hC
  go_wp2_with fail
  go_ret2
  obtain ⟨h1, h2, h3, h4, h5⟩ := H.out
  exact ⟨M', v', by simp, h1, h2, h3, h4, (Moves.of_below B2.out).trans h5⟩
end Go.Proofs.Ytecemlamoiepdaa
