/- The contracts of obj's put: words of a kind are put on a heap. -/
import Derived.Test.YtecemlamoiepdaaSpace
namespace Go.Proofs.Ytecemlamoiepdaa
open Go.RowKit

/-- words lie in memory -/
def WordsAt (w : World) (b o : Nat) (ws : List Nat) : Prop := ∀ (i x : Nat), ws[i]? = some x → w.cell? ⟨b, o + i, none⟩ = some (.int .u64 (x : Nat))

theorem WordsAt.of_block {w w' : World} {b o : Nat} {ws : List Nat} (h : WordsAt w b o ws) (hb : w'.heap[b]? = w.heap[b]?) : WordsAt w' b o ws :=
  fun i x hx => (World.cell?_of_block (w := w) (a := ⟨b, o + i, none⟩) hb).trans (h i x hx)

/-- a slice of words: nil, or words that lie in a block -/
def SlWords (w : World) (v : Value) (ws : List Nat) : Prop :=
  (v = .slice none 0 0 ∧ ws = []) ∨ ∃ b o cap, v = .slice (some ⟨b, o, none⟩) ws.length cap ∧ b < w.heap.size ∧ WordsAt w b o ws

def Hp.putAt (M : Hp) (kind : Nat) (ws : List Nat) : Option (Nat × Hp) :=
  match M.room kind ws.length with
  | some (j, s) => some (j * 64 + s.words.length, M.upd j { s with words := s.words ++ ws })
  | none => if M.segs.length < M.limit then some (M.segs.length * 64, (M.fresh kind).upd M.segs.length ⟨kind, ws⟩) else none

theorem Hp.room_some {M : Hp} {kind n j : Nat} {s : Sg} (h : M.room kind n = some (j, s)) : M.cur kind ≠ 0 ∧ j = M.cur kind - 1 ∧ M.segs[j]? = some s ∧ s.words.length + n ≤ 64 := by
  unfold Hp.room at h
  split at h
  · cases h
  · split at h
    · cases h
    · split at h
      · cases h; exact ⟨‹_›, rfl, ‹_›, ‹_›⟩
      · cases h

/-- what Alloc has made, ahead of the words -/
def Hp.part (M : Hp) (j : Nat) (s : Sg) (ws : List Nat) (i : Nat) : Hp := M.upd j { s with words := s.words ++ (ws.take i ++ List.replicate (ws.length - i) 0) }

theorem alloc_any {hb : HB} {M M' : Hp} {w : World} (r : Rep hb M w) (kind n : Int) (ws : List Nat) (hn : n = ws.length) (hm : mayN kind n) {a : Nat} (h : M.putAt kind.toNat ws = some (a, M')) :
    Calls Try.prog 111 #[.pointer (some ⟨hb.s, 0, none⟩), .int .i64 0, .int .i64 kind, .int .i64 n] w fun e w' => e = .returned (.tuple #[.int .i64 a, .int .i64 0]) ∧ Moves hb w w' ∧
      ∃ (Mb : Hp) (j : Nat) (s : Sg), Mb.segs[j]? = some s ∧ s.words.length + ws.length ≤ 64 ∧ a = j * 64 + s.words.length ∧ M' = Mb.part j s ws ws.length ∧ Rep hb (Mb.part j s ws 0) w' := by
  subst hn
  unfold Hp.putAt at h
  split at h
  · rename_i j s hr
    obtain ⟨h1, h2, h3, h4⟩ := Hp.room_some hr
    cases h
    refine (alloc_room r kind _ hm (by rw [Int.toNat_natCast]; exact hr)).mono ?_
    rintro e w' ⟨rfl, hR, hV⟩
    exact ⟨rfl, hV, M, j, s, h3, h4, rfl, by simp [Hp.part], by simpa [Hp.part, zeros] using hR⟩
  · rename_i hr
    split at h
    · rename_i hl
      cases h
      refine (alloc_new r kind _ hm (by rw [Int.toNat_natCast]; exact hr) hl).mono ?_
      rintro e w' ⟨rfl, hR, hV⟩
      have : ws.length ≤ 63 := by unfold mayN at hm; omega
      exact ⟨rfl, hV, M.fresh kind.toNat, M.segs.length, ⟨kind.toNat, []⟩, M.fresh_seg _, by simp; omega, by simp, by simp [Hp.part], by simpa [Hp.part, zeros] using hR⟩
    · cases h

theorem alloc_none {hb : HB} {M : Hp} {w : World} (r : Rep hb M w) (kind n : Int) (ws : List Nat) (hn : n = ws.length) (hm : mayN kind n) (hp : M.limit ≠ 0) (h : M.putAt kind.toNat ws = none) :
    Calls Try.prog 111 #[.pointer (some ⟨hb.s, 0, none⟩), .int .i64 0, .int .i64 kind, .int .i64 n] w fun e w' => e = .returned (.tuple #[.int .i64 0, .int .i64 2]) ∧ w' = w := by
  subst hn
  unfold Hp.putAt at h
  split at h
  · cases h
  · rename_i hr
    split at h
    · cases h
    · have := r.ok.len
      exact alloc_full r kind _ hm hp (by rw [Int.toNat_natCast]; exact hr) (by omega)

theorem part_rd {M : Hp} {j i : Nat} {s : Sg} {ws : List Nat} (hs : M.segs[j]? = some s) (hl : s.words.length + ws.length ≤ 64) (hi : i < ws.length) :
    (M.part j s ws i).rd (j * 64 + s.words.length + i) = some 0 := by
  have hj : j < M.segs.length := by
    rcases Nat.lt_or_ge j M.segs.length with h | h
    · exact h
    · rw [List.getElem?_eq_none h] at hs; cases hs
  unfold Hp.rd Hp.part Hp.upd
  rw [show (j * 64 + s.words.length + i) / 64 = j by omega, show (j * 64 + s.words.length + i) % 64 = s.words.length + i by omega, List.getElem?_set_self hj]
  simp only [Option.bind_some]
  rw [List.getElem?_append_right (by omega), List.getElem?_append_right (by simp; omega), List.getElem?_replicate]
  simp
  omega

theorem part_wr {M : Hp} {j i x : Nat} {s : Sg} {ws : List Nat} (hs : M.segs[j]? = some s) (hl : s.words.length + ws.length ≤ 64) (hx : ws[i]? = some x) :
    (M.part j s ws i).wr (j * 64 + s.words.length + i) x = M.part j s ws (i + 1) := by
  have hj : j < M.segs.length := by
    rcases Nat.lt_or_ge j M.segs.length with h | h
    · exact h
    · rw [List.getElem?_eq_none h] at hs; cases hs
  have hi : i < ws.length := by
    rcases Nat.lt_or_ge i ws.length with h | h
    · exact h
    · rw [List.getElem?_eq_none h] at hx; cases hx
  unfold Hp.wr Hp.part Hp.upd
  rw [show (j * 64 + s.words.length + i) / 64 = j by omega, show (j * 64 + s.words.length + i) % 64 = s.words.length + i by omega]
  simp only [List.getElem?_set_self hj]
  congr 1
  rw [List.set_set]
  congr 2
  rw [List.set_append, if_neg (by omega), show s.words.length + i - s.words.length = i by omega]
  congr 1
  apply List.ext_getElem?
  intro k
  rw [List.getElem?_set]
  simp only [List.length_append, List.length_take, List.length_replicate]
  by_cases e : i = k
  · subst e
    rw [if_pos rfl, if_pos (by omega), List.getElem?_append_left (by simp; omega), List.getElem?_take, if_pos (by omega), hx]
  · rw [if_neg e]
    rcases Nat.lt_or_ge k i with h | h
    · rw [List.getElem?_append_left (by simp; omega), List.getElem?_append_left (by simp; omega), List.getElem?_take, List.getElem?_take, if_pos h, if_pos (by omega)]
    · rw [List.getElem?_append_right (by simp; omega), List.getElem?_append_right (by simp; omega), List.getElem?_replicate, List.getElem?_replicate]
      simp only [List.length_take]
      split <;> split <;> first | rfl | omega

set_option maxHeartbeats 400000 in
theorem hnone_no {hb : HB} {M : Hp} {w : World} (r : Rep hb M w) :
    Calls Try.prog 85 #[.pointer (some ⟨hb.h, 0, none⟩)] w fun e w' => e = .returned (.bool false) ∧ w' = w := by
  have c0 := r.h0
  clear r
  go_enter Try.func85, Try.ntmps85
  go_wp2
  go_ret
  exact ⟨rfl, rfl⟩

set_option maxHeartbeats 1000000 in
theorem put_ok {hb : HB} {M M' : Hp} {w : World} (r : Rep hb M w) (kind tag : Int) (ws : List Nat) (b o cap : Nat) (hm : mayN kind ws.length) (ht1 : 1 ≤ tag) (ht3 : tag ≤ 3)
    (hw : WordsAt w b o ws) (hb1 : b < w.heap.size) (hb2 : ¬ hb.has b) (hx : ∀ x ∈ ws, x < 18446744073709551616) {a : Nat} (h : M.putAt kind.toNat ws = some (a, M')) :
    Calls Try.prog 69 #[.pointer (some ⟨hb.h, 0, none⟩), .int .i64 kind, .int .i64 tag, .slice (some ⟨b, o, none⟩) ws.length cap] w fun e w' =>
      e = .returned (.tuple #[.int .u64 (a * 8 + tag.toNat : Nat), .int .i64 0]) ∧ Rep hb M' w' ∧ Moves hb w w' := by
  have hN := hnone_no r
  have hA := alloc_any r kind ws.length ws rfl hm h
  have h0 := r.h0
  have c0 := r.c0
  have hn63 : ws.length ≤ 63 := by unfold mayN at hm; omega
  have hn1 : 1 ≤ ws.length := by unfold mayN at hm; omega
  clear h hm
  go_enter Try.func69, Try.ntmps69
  go_wp2_with fail
  refine hN.mono ?_
  rintro e w2 ⟨rfl, rfl⟩
  go_wp2_with fail
  refine hA.mono ?_
  rintro e w1 ⟨rfl, v1, Mb, j, s, hs, hl, rfl, rfl, r1⟩
  have hlim := r1.ok.lim
  have hlen := r1.ok.len
  have hjl : j < Mb.segs.length := by
    rcases Nat.lt_or_ge j Mb.segs.length with h | h
    · exact h
    · rw [List.getElem?_eq_none h] at hs; cases hs
  have hjl2 : Mb.segs.length ≤ 1024 := by simp [Hp.part, Hp.upd] at hlen hlim; omega
  have Hs := Lib.hid hs
  have R := Lib.hid r
  have V1 := Lib.hid v1
  clear hs r v1 hA hN h0 c0 hlim hlen
  go_wp2_with fail
  go_loopw [35] (fun i wr => ∃ k : Nat, k ≤ ws.length ∧ i = .int .i64 k ∧ Rep hb (Mb.part j s ws k) wr ∧ Moves hb w2 wr) (fun i _ => ws.length - (intOf i).toNat)
  case atStart => exact ⟨0, Nat.zero_le _, rfl, r1, V1.out⟩
  case round =>
    clear r1
    obtain ⟨k, hk, rfl, rk, vk⟩ := hrel
    by_cases hlt : k < ws.length
    · obtain ⟨x, hxk⟩ : ∃ x, ws[k]? = some x := ⟨_, List.getElem?_eq_getElem hlt⟩
      have hx1 : x < 18446744073709551616 := hx x (List.mem_of_getElem? hxk)
      have ck := (vk.cell (p := ⟨b, o + k, none⟩) hb1 hb2).trans (hw k x hxk)
      have hW := write_yes rk ((j * 64 + s.words.length : Nat) + (k : Int)) (x := 0) (v := x) (by omega) (by rw [show (((j * 64 + s.words.length : Nat) : Int) + (k : Int)).toNat = j * 64 + s.words.length + k by omega]; exact part_rd Hs.out hl hlt) hx1
      rw [show (((j * 64 + s.words.length : Nat) : Int) + (k : Int)).toNat = j * 64 + s.words.length + k by omega, part_wr Hs.out hl hxk] at hW
      have h0 := rk.h0
      have c0 := rk.c0
      have s0 := rk.s0
      have VK := Lib.hid vk
      clear vk rk hxk
      go_wp2_with fail
      refine hW.mono ?_
      rintro e w3 ⟨rfl, r3, v3⟩
      have R3 := Lib.hid r3
      have V3 := Lib.hid v3
      clear r3 v3
      go_wp2_with fail
      go_roundw
      case rel => exact ⟨k + 1, by omega, by go_num, R3.out, VK.out.trans V3.out⟩
      case measure => simp [intOf]; omega
    · obtain rfl : k = ws.length := by omega
      have hT := at_ok tag.toNat (j * 64 + s.words.length) (by omega) (by omega) (by omega) wr
      rw [show ((tag.toNat : Nat) : Int) = tag by omega] at hT
      have VK := Lib.hid vk
      have RK := Lib.hid rk
      clear vk rk
      go_wp2_with fail
      refine hT.mono ?_
      rintro e w3 ⟨rfl, rfl⟩
      go_wp2_with fail
      go_ret2
      exact ⟨by simp, RK.out, VK.out⟩

set_option maxHeartbeats 1000000 in
theorem put_none {hb : HB} {M : Hp} {w : World} (r : Rep hb M w) (kind tag : Int) (ws : List Nat) (b o cap : Nat) (hm : mayN kind ws.length) (hp : M.limit ≠ 0) (h : M.putAt kind.toNat ws = none) :
    Calls Try.prog 69 #[.pointer (some ⟨hb.h, 0, none⟩), .int .i64 kind, .int .i64 tag, .slice (some ⟨b, o, none⟩) ws.length cap] w fun e w' =>
      e = .returned (.tuple #[.int .u64 0, .int .i64 2]) ∧ w' = w := by
  have hN := hnone_no r
  have hA := alloc_none r kind ws.length ws rfl hm hp h
  have h0 := r.h0
  have c0 := r.c0
  clear h hm r
  go_enter Try.func69, Try.ntmps69
  go_wp2_with fail
  refine hN.mono ?_
  rintro e w2 ⟨rfl, rfl⟩
  go_wp2_with fail
  refine hA.mono ?_
  rintro e w1 ⟨rfl, rfl⟩
  go_wp2_with fail
  go_ret2
  exact ⟨by simp, rfl⟩

/-! ### Cons, Weak -/
def Hp.cons (M : Hp) (kind x y : Nat) : Option (Nat × Hp) := (M.putAt kind [x, y]).map fun p => (p.1 * 8 + (kind + 1), p.2)

set_option maxHeartbeats 1000000 in
theorem cons_ok {hb : HB} {M M' : Hp} {w : World} (r : Rep hb M w) (x y : Nat) (hx : x < 18446744073709551616) (hy : y < 18446744073709551616) {v : Nat} (h : M.cons 0 x y = some (v, M')) :
    Calls Try.prog 30 #[.pointer (some ⟨hb.h, 0, none⟩), .int .u64 x, .int .u64 y] w fun e w' =>
      e = .returned (.tuple #[.int .u64 v, .int .i64 0]) ∧ Rep hb M' w' ∧ Moves hb w w' := by
  unfold Hp.cons at h
  cases hp : M.putAt 0 [x, y] with
  | none => rw [hp] at h; cases h
  | some p =>
    rw [hp] at h
    cases h
    have hlt := r.lt
    have hP := put_ok (r.alloc (.cells #[.int .u64 x, .int .u64 y] 29)) 0 1 [x, y] w.heap.size 0 2 (.inl ⟨.inl rfl, rfl⟩) (by omega) (by omega)
      (by intro i z hz
          match i with
          | 0 => cases hz; simp
          | 1 => cases hz; simp
          | i + 2 => cases hz) (by simp) (fun hc => Nat.lt_irrefl _ (hlt _ hc)) (by intro z hz; simp at hz; omega) hp
    clear r hlt
    go_enter Try.func30, Try.ntmps30
    go_wp2_with fail
    refine hP.mono ?_
    rintro e w1 ⟨rfl, r1, v1⟩
    have R1 := Lib.hid r1
    have V1 := Lib.hid v1
    clear r1 v1
    go_wp2_with fail
    go_ret2
    exact ⟨by simp, R1.out, (Moves.of_below ((Below.refl _ _).alloc (Nat.le_refl _) _)).trans V1.out⟩
end Go.Proofs.Ytecemlamoiepdaa
