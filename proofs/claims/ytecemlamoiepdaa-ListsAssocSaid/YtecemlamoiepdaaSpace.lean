/- The contracts of package space: where new words are put. -/
import Derived.Test.YtecemlamoiepdaaSeg2
namespace Go.Proofs.Ytecemlamoiepdaa
open Go.RowKit

def mayN (kind n : Int) : Prop := ((kind = 0 ∨ kind = 1) ∧ n = 2) ∨ ((kind = 2 ∨ kind = 3) ∧ 1 ≤ n ∧ n ≤ 63)

set_option maxHeartbeats 400000 in
theorem spmay_any (kind n : Int) (h : mayN kind n) (w : World) :
    Calls Try.prog 139 #[.int .i64 0, .int .i64 kind, .int .i64 n] w fun e w' => e = .returned (.bool true) ∧ w' = w := by
  unfold mayN at h
  rcases h with ⟨rfl | rfl, rfl⟩ | ⟨rfl | rfl, h1, h2⟩
  all_goals
    go_enter Try.func139, Try.ntmps139
    go_wp2
    all_goals
      go_ret
      refine ⟨ret_b ?_, rfl⟩
      first | rfl | simp_all

set_option maxHeartbeats 400000 in
theorem spnone_no {hb : HB} {M : Hp} {w : World} (r : Rep hb M w) :
    Calls Try.prog 108 #[.pointer (some ⟨hb.s, 0, none⟩)] w fun e w' => e = .returned (.bool false) ∧ w' = w := by
  have c0 := r.s0
  clear r
  go_enter Try.func108, Try.ntmps108
  go_wp2
  go_ret
  exact ⟨rfl, rfl⟩

theorem Rep.cuk {hb : HB} {M : Hp} {w : World} (r : Rep hb M w) (k : Nat) (hk : k < 4) : w.cell? ⟨hb.s, 1 + k, none⟩ = some (.int .i64 (M.cur k : Nat)) := by
  rw [Nat.add_comm, r.cu k (by omega)]
  unfold Hp.curCell
  rw [if_pos hk]

set_option maxHeartbeats 400000 in
theorem current_yes {hb : HB} {M : Hp} {w : World} (r : Rep hb M w) (kind : Int) (h0 : 0 ≤ kind) (h4 : kind < 4) (h : M.cur kind.toNat ≠ 0) :
    Calls Try.prog 140 #[.pointer (some ⟨hb.s, 0, none⟩), .int .i64 0, .int .i64 kind] w fun e w' => e = .returned (.tuple #[.int .i64 (M.cur kind.toNat - 1 : Nat), .bool true]) ∧ w' = w := by
  obtain ⟨k, rfl⟩ := Int.eq_ofNat_of_zero_le h0
  rw [Int.toNat_natCast] at *
  have c0 := r.cuk k (by omega)
  have hl := r.ok.cur k
  have hl2 := r.ok.len
  have hl3 := r.ok.lim
  have hz : ((M.cur k : Int) == 0) = false := by rw [beq_eq_false_iff_ne]; omega
  clear r
  go_enter Try.func140, Try.ntmps140
  go_wp2
  all_goals
    go_ret2
    refine ⟨?_, rfl⟩
    simp
    try omega

set_option maxHeartbeats 400000 in
theorem current_no {hb : HB} {M : Hp} {w : World} (r : Rep hb M w) (kind : Int) (h0 : 0 ≤ kind) (h4 : kind < 4) (h : M.cur kind.toNat = 0) :
    Calls Try.prog 140 #[.pointer (some ⟨hb.s, 0, none⟩), .int .i64 0, .int .i64 kind] w fun e w' => e = .returned (.tuple #[.int .i64 0, .bool false]) ∧ w' = w := by
  obtain ⟨k, rfl⟩ := Int.eq_ofNat_of_zero_le h0
  rw [Int.toNat_natCast] at *
  have c0 := r.cuk k (by omega)
  rw [h] at c0
  clear r h
  go_enter Try.func140, Try.ntmps140
  go_wp2
  all_goals
    go_ret2
    exact ⟨by simp, rfl⟩

/-! ### what Alloc makes of a heap -/
def Hp.setCur (M : Hp) (k j : Nat) : Hp := { M with cur := fun i => if i = k then j else M.cur i }

theorem Rep.curred {hb : HB} {M : Hp} {w : World} (r : Rep hb M w) (k j : Nat) (hk : k < 4) {s : Sg} (hs : M.segs[j]? = some s) (hk2 : s.kind = k) :
    Rep hb (M.setCur k (j + 1)) (w.setCell ⟨hb.s, 1 + k, none⟩ (.int .i64 ((j : Int) + 1))) := by
  obtain ⟨a1, a2, a3, a4, a5, a6, a7, a8, a9, a10⟩ := r.apart
  have hne : ∀ q, q ≠ hb.s → (w.setCell ⟨hb.s, 1 + k, none⟩ (.int .i64 ((j : Int) + 1))).heap[q]? = w.heap[q]? := fun q hq => Below.heap_setCell _ _ _ _ hq
  have hj := r.seg_lt hs
  refine ⟨?_, ?_, ?_, ?_, ?_, r.apart, ⟨r.ok.pos, r.ok.lim, r.ok.len, r.ok.kind, r.ok.room, r.ok.word, r.ok.even, ?_, ?_⟩⟩
  · rw [hne _ a2]; exact r.bh
  · rw [hne _ a5]; exact r.bc
  · obtain ⟨cs, b1, b2, b3, b4⟩ := r.bs
    refine ⟨cs.setIfInBounds (1 + k) (.int .i64 ((j : Int) + 1)), by simp [World.setCell, Array.getElem?_modify, b1], by simpa using b2, ?_, ?_⟩
    · rw [Array.getElem?_setIfInBounds, if_neg (by omega)]; exact b3
    · intro i hi
      rw [Array.getElem?_setIfInBounds, b4 i hi]
      unfold Hp.curCell Hp.setCur
      by_cases e : i = k
      · subst e
        rw [if_pos (by omega), if_pos (by omega), if_pos hk]
        simp
      · rw [if_neg (by omega)]
        simp [e]
  · rw [hne _ (Ne.symm a8)]; exact r.bm
  · rw [hne _ (Ne.symm a9)]; exact r.bg
  · intro q
    simp only [Hp.setCur]
    split
    · omega
    · exact r.ok.cur q
  · intro q i t hq ht
    simp only [Hp.setCur] at hq ht
    split at hq
    · rename_i e
      obtain rfl : j = i := by omega
      rw [hs] at ht; cases ht
      omega
    · exact r.ok.here q i t hq ht

/-- where the next words of a kind go: into the segment that is filled now, if there is room -/
def Hp.room (M : Hp) (kind n : Nat) : Option (Nat × Sg) :=
  if M.cur kind = 0 then none
  else match M.segs[M.cur kind - 1]? with
    | none => none
    | some s => if s.words.length + n ≤ 64 then some (M.cur kind - 1, s) else none

/-- a new segment that is filled from now on -/
def Hp.fresh (M : Hp) (kind : Nat) : Hp := (M.more kind).setCur kind (M.segs.length + 1)

def zeros (s : Sg) (n : Nat) : Sg := { s with words := s.words ++ List.replicate n 0 }

set_option maxHeartbeats 400000 in
theorem alloc_room {hb : HB} {M : Hp} {w : World} (r : Rep hb M w) (kind n : Int) (hm : mayN kind n) {j : Nat} {s : Sg} (h : M.room kind.toNat n.toNat = some (j, s)) :
    Calls Try.prog 111 #[.pointer (some ⟨hb.s, 0, none⟩), .int .i64 0, .int .i64 kind, .int .i64 n] w fun e w' => e = .returned (.tuple #[.int .i64 (j * 64 + s.words.length : Nat), .int .i64 0]) ∧ Rep hb (M.upd j (zeros s n.toNat)) w' ∧ Moves hb w w' := by
  have hn1 : 1 ≤ n := by unfold mayN at hm; omega
  have hk0 : 0 ≤ kind := by unfold mayN at hm; omega
  have hk4 : kind < 4 := by unfold mayN at hm; omega
  unfold Hp.room at h
  split at h
  · cases h
  · rename_i hc
    split at h
    · cases h
    · rename_i t ht
      split at h
      · rename_i hl
        cases h
        have cs := r.s0
        have hN := spnone_no r
        have hM := spmay_any kind n hm w
        have hC := current_yes r kind hk0 hk4 hc
        have hB := bump_ok r ((M.cur kind.toNat - 1 : Nat) : Int) n (s := s) (by omega) (by rw [Int.toNat_natCast]; exact ht) hn1 (by omega) (fun hk2 => by have := r.ok.here kind.toNat _ s (show M.cur kind.toNat = (M.cur kind.toNat - 1) + 1 by omega) ht; unfold mayN at hm; omega)
        rw [Int.toNat_natCast] at hB
        generalize M.cur kind.toNat - 1 = j at *
        have Hr := Lib.hid r
        clear r hc ht hm
        go_enter Try.func111, Try.ntmps111
        go_wp2_with fail
        refine hN.mono ?_
        rintro e w2 ⟨rfl, rfl⟩
        go_wp2_with fail
        refine hM.mono ?_
        rintro e w2 ⟨rfl, rfl⟩
        go_wp2_with fail
        refine hC.mono ?_
        rintro e w2 ⟨rfl, rfl⟩
        go_wp2_with fail
        refine hB.mono ?_
        rintro e w2 ⟨rfl, hR, hV⟩
        have HR := Lib.hid hR
        have HV := Lib.hid hV
        clear hR hV
        go_wp2_with fail
        go_ret2
        exact ⟨by simp, HR.out, HV.out⟩
      · cases h

theorem Hp.room_none {M : Hp} {kind n : Nat} (o : M.Ok) (h : M.room kind n = none) : M.cur kind = 0 ∨ (M.cur kind ≠ 0 ∧ ∃ s, M.segs[M.cur kind - 1]? = some s ∧ 64 < s.words.length + n) := by
  unfold Hp.room at h
  split at h
  · exact .inl ‹_›
  · rename_i hc
    refine .inr ⟨hc, ?_⟩
    split at h
    · rename_i ht
      have := o.cur kind
      rw [List.getElem?_eq_none_iff] at ht
      omega
    · rename_i s hs
      split at h
      · cases h
      · exact ⟨s, hs, by omega⟩

theorem Hp.fresh_seg (M : Hp) (kind : Nat) : (M.fresh kind).segs[M.segs.length]? = some ⟨kind, []⟩ := by
  simp [Hp.fresh, Hp.setCur, Hp.more]

set_option maxHeartbeats 800000 in
theorem alloc_new {hb : HB} {M : Hp} {w : World} (r : Rep hb M w) (kind n : Int) (hm : mayN kind n) (h : M.room kind.toNat n.toNat = none) (hl : M.segs.length < M.limit) :
    Calls Try.prog 111 #[.pointer (some ⟨hb.s, 0, none⟩), .int .i64 0, .int .i64 kind, .int .i64 n] w fun e w' => e = .returned (.tuple #[.int .i64 (M.segs.length * 64 : Nat), .int .i64 0]) ∧ Rep hb ((M.fresh kind.toNat).upd M.segs.length (zeros ⟨kind.toNat, []⟩ n.toNat)) w' ∧ Moves hb w w' := by
  have hn1 : 1 ≤ n := by unfold mayN at hm; omega
  have hn63 : n ≤ 63 := by unfold mayN at hm; omega
  have hk0 : 0 ≤ kind := by unfold mayN at hm; omega
  have hk4 : kind < 4 := by unfold mayN at hm; omega
  have hlim := r.ok.lim
  have cs := r.s0
  have hN := spnone_no r
  have hM := spmay_any kind n hm w
  have hT := take_ok r kind hk0 hk4 hl
  have hk2n : kind.toNat < 2 → n = 2 := by intro; unfold mayN at hm; omega
  rcases Hp.room_none r.ok h with hc | ⟨hc, s, hs, hf⟩
  · have hC := current_no r kind hk0 hk4 hc
    have Hr := Lib.hid r
    clear r hc hm h
    go_enter Try.func111, Try.ntmps111
    go_wp2_with fail
    refine hN.mono ?_
    rintro e w2 ⟨rfl, rfl⟩
    go_wp2_with fail
    refine hM.mono ?_
    rintro e w2 ⟨rfl, rfl⟩
    go_wp2_with fail
    refine hC.mono ?_
    rintro e w2 ⟨rfl, rfl⟩
    go_wp2_with fail
    refine hT.mono ?_
    rintro e w3 ⟨rfl, r3, v3⟩
    have c3 := r3.cuk kind.toNat (by omega)
    have f3 := r3.fs (1 + kind.toNat)
    have s3 := r3.s0
    have r4 := r3.curred kind.toNat M.segs.length (by omega) (s := ⟨kind.toNat, []⟩) (by simp [Hp.more]) rfl
    have s4 := r4.s0
    have v4 := v3.setCell (p := ⟨hb.s, 1 + kind.toNat, none⟩) (.inr (.inr (.inl rfl))) (.int .i64 ((M.segs.length : Int) + 1))
    have hB := bump_ok r4 (M.segs.length : Int) n (s := ⟨kind.toNat, []⟩) (by omega) (by rw [Int.toNat_natCast]; exact M.fresh_seg kind.toNat) hn1 (by simp; omega) (fun hk2 => hk2n (by simpa using hk2))
    rw [Int.toNat_natCast] at hB
    have V4 := Lib.hid v4
    clear r3 r4 v3 v4
    obtain ⟨k, rfl⟩ := Int.eq_ofNat_of_zero_le hk0
    simp only [Int.toNat_natCast] at *
    go_wp2_with fail
    refine hB.mono ?_
    rintro e w5 ⟨rfl, r5, v5⟩
    have R5 := Lib.hid r5
    have V5 := Lib.hid v5
    clear r5 v5
    go_wp2_with fail
    go_ret2
    exact ⟨by simp, R5.out, V4.out.trans V5.out⟩
  · have hC := current_yes r kind hk0 hk4 hc
    have hF := bump_full r ((M.cur kind.toNat - 1 : Nat) : Int) n (s := s) (by omega) (by rw [Int.toNat_natCast]; exact hs) hn1 (by omega)
    generalize M.cur kind.toNat - 1 = j at *
    have Hr := Lib.hid r
    clear r hc hm h hs
    go_enter Try.func111, Try.ntmps111
    go_wp2_with fail
    refine hN.mono ?_
    rintro e w2 ⟨rfl, rfl⟩
    go_wp2_with fail
    refine hM.mono ?_
    rintro e w2 ⟨rfl, rfl⟩
    go_wp2_with fail
    refine hC.mono ?_
    rintro e w2 ⟨rfl, rfl⟩
    go_wp2_with fail
    refine hF.mono ?_
    rintro e w2 ⟨rfl, rfl⟩
    go_wp2_with fail
    refine hT.mono ?_
    rintro e w3 ⟨rfl, r3, v3⟩
    have c3 := r3.cuk kind.toNat (by omega)
    have f3 := r3.fs (1 + kind.toNat)
    have s3 := r3.s0
    have r4 := r3.curred kind.toNat M.segs.length (by omega) (s := ⟨kind.toNat, []⟩) (by simp [Hp.more]) rfl
    have s4 := r4.s0
    have v4 := v3.setCell (p := ⟨hb.s, 1 + kind.toNat, none⟩) (.inr (.inr (.inl rfl))) (.int .i64 ((M.segs.length : Int) + 1))
    have hB := bump_ok r4 (M.segs.length : Int) n (s := ⟨kind.toNat, []⟩) (by omega) (by rw [Int.toNat_natCast]; exact M.fresh_seg kind.toNat) hn1 (by simp; omega) (fun hk2 => hk2n (by simpa using hk2))
    rw [Int.toNat_natCast] at hB
    have V4 := Lib.hid v4
    clear r3 r4 v3 v4
    obtain ⟨k, rfl⟩ := Int.eq_ofNat_of_zero_le hk0
    simp only [Int.toNat_natCast] at *
    go_wp2_with fail
    refine hB.mono ?_
    rintro e w5 ⟨rfl, r5, v5⟩
    have R5 := Lib.hid r5
    have V5 := Lib.hid v5
    clear r5 v5
    go_wp2_with fail
    go_ret2
    exact ⟨by simp, R5.out, V4.out.trans V5.out⟩

set_option maxHeartbeats 800000 in
theorem alloc_full {hb : HB} {M : Hp} {w : World} (r : Rep hb M w) (kind n : Int) (hm : mayN kind n) (hp : M.limit ≠ 0) (h : M.room kind.toNat n.toNat = none) (hl : M.segs.length = M.limit) :
    Calls Try.prog 111 #[.pointer (some ⟨hb.s, 0, none⟩), .int .i64 0, .int .i64 kind, .int .i64 n] w fun e w' => e = .returned (.tuple #[.int .i64 0, .int .i64 2]) ∧ w' = w := by
  have hn1 : 1 ≤ n := by unfold mayN at hm; omega
  have hk0 : 0 ≤ kind := by unfold mayN at hm; omega
  have hk4 : kind < 4 := by unfold mayN at hm; omega
  have cs := r.s0
  have hN := spnone_no r
  have hM := spmay_any kind n hm w
  have hT := take_full r kind hk0 hk4 hp hl
  rcases Hp.room_none r.ok h with hc | ⟨hc, s, hs, hf⟩
  · have hC := current_no r kind hk0 hk4 hc
    clear r hc hm h hl
    go_enter Try.func111, Try.ntmps111
    go_wp2_with fail
    refine hN.mono ?_
    rintro e w2 ⟨rfl, rfl⟩
    go_wp2_with fail
    refine hM.mono ?_
    rintro e w2 ⟨rfl, rfl⟩
    go_wp2_with fail
    refine hC.mono ?_
    rintro e w2 ⟨rfl, rfl⟩
    go_wp2_with fail
    refine hT.mono ?_
    rintro e w2 ⟨rfl, rfl⟩
    go_wp2_with fail
    go_ret2
    exact ⟨by simp, rfl⟩
  · have hC := current_yes r kind hk0 hk4 hc
    have hF := bump_full r ((M.cur kind.toNat - 1 : Nat) : Int) n (s := s) (by omega) (by rw [Int.toNat_natCast]; exact hs) hn1 (by omega)
    generalize M.cur kind.toNat - 1 = j at *
    clear r hc hm h hs hl
    go_enter Try.func111, Try.ntmps111
    go_wp2_with fail
    refine hN.mono ?_
    rintro e w2 ⟨rfl, rfl⟩
    go_wp2_with fail
    refine hM.mono ?_
    rintro e w2 ⟨rfl, rfl⟩
    go_wp2_with fail
    refine hC.mono ?_
    rintro e w2 ⟨rfl, rfl⟩
    go_wp2_with fail
    refine hF.mono ?_
    rintro e w2 ⟨rfl, rfl⟩
    go_wp2_with fail
    refine hT.mono ?_
    rintro e w2 ⟨rfl, rfl⟩
    go_wp2_with fail
    go_ret2
    exact ⟨by simp, rfl⟩
end Go.Proofs.Ytecemlamoiepdaa
