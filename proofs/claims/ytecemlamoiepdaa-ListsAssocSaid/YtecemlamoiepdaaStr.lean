/- The contract of String: a text's characters become an object's words. -/
import Derived.Test.YtecemlamoiepdaaTotal
import Derived.Lib.OthersKept
namespace Go.Proofs.Ytecemlamoiepdaa
open Go.RowKit

/-! ### a text's characters, as plain numbers -/
def runesB (s : ByteArray) : Nat → Nat → List Nat
  | 0, _ => []
  | b + 1, i => if i < s.size then (Utf8.decode s i).1 :: runesB s b (i + (Utf8.decode s i).2) else []
def runesOf (s : ByteArray) : List Nat := runesB s s.size 0

theorem runesB_end {s : ByteArray} {b i : Nat} (h : ¬ i < s.size) : runesB s b i = [] := by
  cases b with
  | zero => rfl
  | succ b => unfold runesB; rw [if_neg h]

theorem runesB_step {s : ByteArray} {b i : Nat} (h : i < s.size) : runesB s (b + 1) i = (Utf8.decode s i).1 :: runesB s b (i + (Utf8.decode s i).2) := by
  rw [runesB, if_pos h]

theorem rune_width (s : ByteArray) (pos : Nat) (h : pos < s.size) : 1 ≤ (Utf8.decode s pos).2 := by
  by_cases ha : (s[pos]'h).toNat < 128
  · rw [decode_ascii s pos h ha]
    exact Nat.le_refl _
  · exact (decode_high s pos h (by omega)).2

theorem runesB_lt (s : ByteArray) : ∀ (b i : Nat), ∀ x ∈ runesB s b i, x < 18446744073709551616 := by
  intro b
  induction b with
  | zero => intro i x hx; simp [runesB] at hx
  | succ b ih =>
    intro i x hx
    unfold runesB at hx
    split at hx
    · rcases List.mem_cons.1 hx with rfl | hx
      · have := decode_le s i; omega
      · exact ih _ x hx
    · simp at hx

/-- String: the word, the error, the heap -/
def Hp.str (M : Hp) (s : ByteArray) : Nat × Nat × Hp := if 62 < (runesOf s).length then (0, 6, M) else M.mk' 2 0 (runesOf s)

theorem OwnW.nil' (w : World) : OwnW w (.slice none 0 0) [] := ⟨rfl, .inl ⟨rfl, rfl⟩⟩

theorem ownW_block {w w' : World} {v : Value} {ws : List Nat} (h : OwnW w v ws) (hb : ∀ k, v.ownBlock = some k → w'.heap[k]? = w.heap[k]?) : OwnW w' v ws := by
  refine ⟨h.1, ?_⟩
  rcases h.2 with hn | ⟨g, cap, cur, rfl, hb0, hgg, rest⟩
  · exact .inl hn
  · exact .inr ⟨g, cap, cur, rfl, hb0, by rw [hb g rfl]; exact hgg, rest⟩

theorem OwnW.slice' {w : World} {v : Value} {ws : List Nat} (h : OwnW w v ws) : ∃ a cap, v = .slice a ws.length cap := by
  rcases h.2 with ⟨rfl, h0⟩ | ⟨g, cap, cur, rfl, _⟩
  · rw [h0]; exact ⟨none, 0, rfl⟩
  · exact ⟨_, cap, rfl⟩

theorem one_word (w : World) (u : Value) (e : TypeId) (H : Nat) (hH : w.heap.size = H) : SlCells (w.alloc (.cells #[u] e)) (.slice (some ⟨H, 0, none⟩) 1 1) 1 [u] := by
  subst hH
  refine .inr ⟨w.heap.size, 0, 1, rfl, by simp, fun j y hy => ?_⟩
  match j with
  | 0 => cases hy; simp
  | j + 1 => cases hy

theorem own_slice' {w : World} {e : TypeId} {size n : Nat} {v : Value} {xs : List Value} (h : w.ownsRow 0 e size v n xs) : ∃ a c, v = .slice a n c := by
  rcases h.2 with ⟨rfl, rfl⟩ | ⟨g, cap, cur, rfl, _⟩
  · exact ⟨none, 0, rfl⟩
  · exact ⟨_, cap, rfl⟩

theorem below_grown {W w w' : World} {row : Option Nat} (h : Below W.heap.size W w) (hg : w.grownBy w' row) (hr : ∀ k, row = some k → W.heap.size ≤ k) : Below W.heap.size W w' := Below.grownW h hg hr

set_option maxRecDepth 20000 in
set_option maxHeartbeats 1000000 in
theorem string_gen (hv : Value) (s : ByteArray) (w : World) (P : Nat → Nat → World → Prop)
    (hmk : ∀ (w1 : World) (u : Value), Below w.heap.size w w1 → OwnW w1 u (runesOf s) → (runesOf s).length ≤ 62 →
      Calls Try.prog 33 #[hv, .int .i64 2, .int .u64 0, u] w1 fun en w' => ∃ x er : Nat, en = .returned (.tuple #[.int .u64 x, .int .i64 er]) ∧ P x er w') :
    Calls Try.prog 42 #[hv, .string s] w fun en w' => ∃ x er : Nat, en = .returned (.tuple #[.int .u64 x, .int .i64 er]) ∧
      ((62 < (runesOf s).length ∧ x = 0 ∧ er = 6 ∧ Below w.heap.size w w') ∨ ((runesOf s).length ≤ 62 ∧ P x er w')) := by
  have H := Lib.hid hmk
  obtain ⟨w0, hw0⟩ : ∃ w0, w0 = w.iter s 0 := ⟨_, rfl⟩
  have hit : w0.heap[w.heap.size]? = some (.stringIter s 0) := by rw [hw0]; exact World.iter_heap w s 0
  have hB0 : Below w.heap.size w w0 := by rw [hw0]; exact (Below.refl _ _).alloc (Nat.le_refl _) _
  have hz0 : w0.heap.size = w.heap.size + 1 := by rw [hw0]; simp [World.iter]
  have IT := Lib.hid hit
  have B0 := Lib.hid hB0
  have Z0 := Lib.hid hz0
  clear hmk hit hB0 hz0
  go_enter Try.func42, Try.ntmps42
  go_wp2_with fail
  rw [← hw0]
  clear hw0
  go_loopw [6] (fun u wr => ∃ (pos b : Nat) (done : List Nat), wr.heap[w.heap.size]? = some (.stringIter s pos) ∧ OwnW wr u done ∧ done.length ≤ 62 ∧ done ++ runesB s b pos = runesOf s ∧ s.size ≤ pos + b ∧ (∀ k, u.ownBlock = some k → w.heap.size < k) ∧ Below w.heap.size w wr) (fun _ wr => s.size - wr.iterPos w.heap.size)
  case atStart => exact ⟨0, s.size, [], IT.out, OwnW.nil' _, by simp, rfl, by omega, by intro k hk; simp [Value.ownBlock] at hk, B0.out⟩
  case round =>
    obtain ⟨pos, b, done, hi, ho, hl, hd, hs, hk, hB⟩ := hrel
    obtain ⟨ua, uc, rfl⟩ := ho.slice'
    obtain ⟨n, hn⟩ : ∃ n, n = done.length := ⟨_, rfl⟩
    rw [← hn] at ho hk hl
    have HI := Lib.hid hi
    have O := Lib.hid ho
    have D := Lib.hid hd
    have HK := Lib.hid hk
    have BB := Lib.hid hB
    have HN := Lib.hid hn
    have hwz : w.heap.size < wr.heap.size := (Array.getElem?_eq_some_iff.1 hi).1
    have HWZ := Lib.hid hwz
    have hip : wr.iterPos w.heap.size = pos := by simp [World.iterPos, hi]
    have HIP := Lib.hid hip
    rw [← HN.out]
    clear ho hd hk hB hn hwz hip
    by_cases hp : pos < s.size
    · have hnx : ∀ ty, (Instr.next (.pointer (some ⟨w.heap.size, 0, none⟩)) true ty).run Try.prog wr = _ := fun ty => Lib.run_next_any_at wr w.heap.size s pos ty HI.out hp
      clear hi
      have hcl := decode_le s pos
      have hwd := rune_width s pos hp
      obtain ⟨c, hc⟩ : ∃ c, c = (Utf8.decode s pos).1 := ⟨_, rfl⟩
      obtain ⟨d, hdd⟩ : ∃ d, d = (Utf8.decode s pos).2 := ⟨_, rfl⟩
      rw [← hc] at hnx hcl
      rw [← hdd] at hnx hwd
      have HC := Lib.hid hc
      have HD := Lib.hid hdd
      clear hc hdd
      have hcw : IntKind.u64.wrap (c : Int) = c := by rw [IntKind.wrap_u64]; omega
      obtain ⟨w2, hw2⟩ : ∃ w2, w2 = wr.iterAt w.heap.size s (pos + d) := ⟨_, rfl⟩
      rw [← hw2] at hnx
      have hz2 : w2.heap.size = wr.heap.size := by rw [hw2]; simp [World.iterAt]
      have HI2 : Hid (w2.heap[w.heap.size]? = some (.stringIter s (pos + d))) := Lib.hid (by rw [hw2]; exact Lib.iterAt_heap wr w.heap.size s pos (pos + d) HI.out)
      have B2 : Hid (Below w.heap.size w w2) := Lib.hid (by rw [hw2]; exact Lib.below_iterAt BB.out (Nat.le_refl _) s _)
      have O2 : Hid (World.ownsRow w2 0 29 1 (.slice ua n uc) n (done.map wv)) := Lib.hid (by
        have h1 := O.out
        have h2 : OwnW w2 (.slice ua n uc) done := ownW_block h1 fun k hk => by
          rw [hw2]; exact Lib.iterAt_other wr w.heap.size k s _ (Nat.ne_of_gt (HK.out k hk))
        unfold OwnW at h2
        rw [← HN.out] at h2
        exact h2)
      have Z2 := Lib.hid hz2
      clear hw2 hz2 hcl
      by_cases h62 : n < 62
      · go_wp2_with (at_builtin; refine wpList_app E_word rfl _ _ rfl (.slice ua n uc) n (done.map wv) rfl (O2.out.alloc _) (.slice (some ⟨w2.heap.size, 0, none⟩) 1 1) 1 [.int .u64 (c : Nat)] rfl (one_word _ _ _ _ rfl) (by simp) (by simp [Value.oneCell']) (by unfold maxLen; omega) (by omega) ?_; intro v' w6 hown hgrow hat; obtain ⟨va, vc, rfl⟩ := own_slice' hown)
        obtain ⟨b', rfl⟩ : ∃ b', b = b' + 1 := ⟨b - 1, by omega⟩
        have h6 : w6.heap[w.heap.size]? = some (.stringIter s (pos + d)) := by
          rw [hgrow.block w.heap.size (by have := B2.out.size; have := HWZ.out; have := Z2.out; simp; omega) (fun e => by have := HK.out _ e.symm; omega)]
          exact (heap_alloc_old _ _ (by have := HWZ.out; have := Z2.out; omega)).trans HI2.out
        refine ⟨⟨pos + d, b', done ++ [c], h6, ?_, ?_, ?_, by omega, ?_, ?_⟩, ?_⟩
        · unfold OwnW
          rw [List.length_append, ← HN.out, List.map_append]
          exact hown
        · rw [List.length_append, ← HN.out]; simp; omega
        · rw [← D.out, runesB_step hp, ← HC.out, ← HD.out, List.append_assoc]; rfl
        · intro k hk
          rcases hat with h | h
          · rw [h] at hk; exact HK.out k hk
          · rw [h] at hk; cases hk; have := HWZ.out; have := Z2.out; simp; omega
        · exact below_grown (B2.out.alloc (by have := B2.out.size; omega) _) hgrow (fun k e => by have := HK.out k e; omega)
        · rw [HIP.out]
          have : w6.iterPos w.heap.size = pos + d := by simp [World.iterPos, h6]
          rw [this]
          omega
      · obtain rfl : n = 62 := by omega
        have hbig : 62 < (runesOf s).length := by
          obtain ⟨b', rfl⟩ : ∃ b', b = b' + 1 := ⟨b - 1, by omega⟩
          rw [← D.out, runesB_step hp, List.length_append, ← HN.out]
          simp
        have H6 := Lib.hid hbig
        clear hbig
        go_wp2_with (at_builtin; refine wpList_app E_word rfl _ _ rfl (.slice ua 62 uc) 62 (done.map wv) rfl (O2.out.alloc _) (.slice (some ⟨w2.heap.size, 0, none⟩) 1 1) 1 [.int .u64 (c : Nat)] rfl (one_word _ _ _ _ rfl) (by simp) (by simp [Value.oneCell']) (by unfold maxLen; omega) (by omega) ?_; intro v' w6 hown hgrow hat; obtain ⟨va, vc, rfl⟩ := own_slice' hown)
        go_ret2
        have B6 : Below w.heap.size w w6 := below_grown (B2.out.alloc (by have := B2.out.size; omega) _) hgrow (fun k e => by have := HK.out k e; omega)
        exact ⟨0, 6, by simp, .inl ⟨H6.out, rfl, rfl, B6⟩⟩
    · have hnx : ∀ ty, (Instr.next (.pointer (some ⟨w.heap.size, 0, none⟩)) true ty).run Try.prog wr = _ := fun ty => Lib.run_next_end_at wr w.heap.size s pos ty HI.out hp
      clear hi
      have hd2 : done = runesOf s := by rw [← D.out, runesB_end hp, List.append_nil]
      have hM := H.out wr (.slice ua n uc) BB.out (by have := O.out; rw [hd2] at this; exact this) (by have := HN.out; rw [← hd2]; omega)
      have HM := Lib.hid hM
      have HL : Hid ((runesOf s).length ≤ 62) := Lib.hid (by have := HN.out; rw [← hd2]; omega)
      clear hd2 hM
      go_wp2_with fail
      refine HM.out.mono ?_
      rintro en w3 ⟨x, er, rfl, hP⟩
      have HP := Lib.hid hP
      clear HM hP
      go_wp2_with fail
      go_ret2
      exact ⟨x, er, by simp, .inr ⟨HL.out, HP.out⟩⟩

theorem string_any {hb : HB} {M M' : Hp} {w : World} (r : Rep hb M w) (s : ByteArray) {v e : Nat} (h : M.str s = (v, e, M')) :
    Calls Try.prog 42 #[.pointer (some ⟨hb.h, 0, none⟩), .string s] w fun en w' => en = .returned (.tuple #[.int .u64 v, .int .i64 e]) ∧ Rep hb M' w' ∧ Moves hb w w' := by
  unfold Hp.str at h
  refine (string_gen _ s w (fun x er w' => x = v ∧ er = e ∧ Rep hb M' w' ∧ Moves hb w w') ?_).mono ?_
  · intro w1 u b1 o1 hl
    rw [if_neg (by omega)] at h
    exact (make_any (r.below b1) 2 0 2 0 rfl rfl (by omega) (by omega) (by omega) u _ o1.sl (runesB_lt s _ _) h).mono fun en w' ⟨h1, h2, h3⟩ => ⟨v, e, h1, rfl, rfl, h2, (Moves.of_below b1).trans h3⟩
  · rintro en w' ⟨x, er, rfl, ⟨hl, rfl, rfl, hB⟩ | ⟨hl, rfl, rfl, hr, hm⟩⟩
    · rw [if_pos hl] at h
      cases h
      exact ⟨rfl, r.below hB, .of_below hB⟩
    · exact ⟨rfl, hr, hm⟩
end Go.Proofs.Ytecemlamoiepdaa
