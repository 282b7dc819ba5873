/- The contracts of the functions of package seg over a heap that lies in memory as Rep says. No conditions but that one. -/
import Derived.Test.YtecemlamoiepdaaHeap
import Derived.BigRegion
namespace Go.Proofs.Ytecemlamoiepdaa
open Go.RowKit

/-! ### at -/
set_option maxHeartbeats 400000 in
theorem at_yes {hb : HB} {M : Hp} {w : World} (r : Rep hb M w) (k : Int) {s : Sg} (h0 : 0 ≤ k) (hk : M.segs[k.toNat]? = some s) :
    Calls Try.prog 134 #[.pointer (some ⟨hb.m, 0, none⟩), .int .i64 k] w fun e w' => e = .returned (.pointer (some ⟨hb.g, k.toNat * 72, none⟩)) ∧ w' = w := by
  obtain ⟨n, rfl⟩ := Int.eq_ofNat_of_zero_le h0
  rw [Int.toNat_natCast] at *
  have hkl := r.seg_lt hk
  have hlen := r.ok.len
  have hlim := r.ok.lim
  have c0 := r.m0
  have c7 := r.g7 hk
  have hz : (((n : Int) + 1) == 0) = false := by rw [beq_eq_false_iff_ne]; omega
  have hlt : n < M.limit := by omega
  clear r h0 hk
  go_enter Try.func134, Try.ntmps134
  go_wp2
  go_ret
  exact ⟨rfl, rfl⟩

set_option maxHeartbeats 400000 in
theorem at_no {hb : HB} {M : Hp} {w : World} (r : Rep hb M w) (k : Int) (hk : k < 0 ∨ M.segs.length ≤ k.toNat) :
    Calls Try.prog 134 #[.pointer (some ⟨hb.m, 0, none⟩), .int .i64 k] w fun e w' => e = .returned (.pointer none) ∧ w' = w := by
  have hlim := r.ok.lim
  have c0 := r.m0
  by_cases h0 : k < 0
  · clear hk r
    go_enter Try.func134, Try.ntmps134
    go_wp2
    go_ret
    exact ⟨rfl, rfl⟩
  · by_cases h1 : k < M.limit
    · have c7 := r.gfree (k := k.toNat) (by omega) (by omega)
      clear hk r
      go_enter Try.func134, Try.ntmps134
      go_wp2
      go_ret
      exact ⟨rfl, rfl⟩
    · clear hk r
      go_enter Try.func134, Try.ntmps134
      go_wp2
      go_ret
      exact ⟨rfl, rfl⟩

/-! ### word, Read, Write -/
theorem Hp.rd_some {M : Hp} {a v : Nat} (h : M.rd a = some v) : ∃ s, M.segs[a / 64]? = some s ∧ s.words[a % 64]? = some v := by
  unfold Hp.rd at h
  cases h1 : M.segs[a / 64]? with
  | none => rw [h1] at h; cases h
  | some s => rw [h1] at h; exact ⟨s, rfl, h⟩

theorem Hp.rd_none {M : Hp} {a : Nat} (h : M.rd a = none) : M.segs.length ≤ a / 64 ∨ ∃ s, M.segs[a / 64]? = some s ∧ s.words.length ≤ a % 64 := by
  unfold Hp.rd at h
  cases h1 : M.segs[a / 64]? with
  | none => exact .inl (by simpa using h1)
  | some s => rw [h1] at h; exact .inr ⟨s, rfl, by simpa using h⟩

set_option maxHeartbeats 400000 in
theorem word_yes {hb : HB} {M : Hp} {w : World} (r : Rep hb M w) (a : Int) {s : Sg} (h0 : 0 ≤ a) (hs : M.segs[a.toNat / 64]? = some s) (hl : a.toNat % 64 < s.words.length) :
    Calls Try.prog 118 #[.pointer (some ⟨hb.m, 0, none⟩), .int .i64 a] w fun e w' => e = .returned (.pointer (some ⟨hb.g, a.toNat / 64 * 72 + 8 + a.toNat % 64, none⟩)) ∧ w' = w := by
  obtain ⟨n, rfl⟩ := Int.eq_ofNat_of_zero_le h0
  rw [Int.toNat_natCast] at *
  have ha := at_yes r ((n : Int) / 64) (s := s) (by omega) (by rw [show ((n : Int) / 64).toNat = n / 64 by omega]; exact hs)
  rw [show ((n : Int) / 64).toNat = n / 64 by omega] at ha
  have c2 := r.g2 hs
  have hkl := r.seg_lt hs
  have hlen := r.ok.len
  have hlim := r.ok.lim
  have hm : n % 64 < 64 := Nat.mod_lt _ (by omega)
  have hd : ¬ ((s.words.length : Int) ≤ (n : Int) % 64) := by omega
  clear r hs h0
  go_enter Try.func118, Try.ntmps118
  go_wp2_with (go_at_call 134; refine ha.mono ?_; rintro e w2 ⟨rfl, rfl⟩)
  go_ret
  exact ⟨rfl, rfl⟩

set_option maxHeartbeats 400000 in
theorem word_no {hb : HB} {M : Hp} {w : World} (r : Rep hb M w) (a : Int) (hu : a ≤ 1000000) (h : a < 0 ∨ M.rd a.toNat = none) :
    Calls Try.prog 118 #[.pointer (some ⟨hb.m, 0, none⟩), .int .i64 a] w fun e w' => e = .returned (.pointer none) ∧ w' = w := by
  by_cases h0 : a < 0
  · clear h r
    go_enter Try.func118, Try.ntmps118
    go_wp2
    go_ret
    exact ⟨rfl, rfl⟩
  · have h1 : M.rd a.toNat = none := by rcases h with h | h; exact absurd h h0; exact h
    clear h
    obtain ⟨n, rfl⟩ := Int.eq_ofNat_of_zero_le (Int.not_lt.1 h0)
    rw [Int.toNat_natCast] at *
    rcases Hp.rd_none h1 with h2 | ⟨s, h2, h3⟩
    · have ha := at_no r ((n : Int) / 64) (.inr (by rw [show ((n : Int) / 64).toNat = n / 64 by omega]; exact h2))
      clear r h0 h1 h2
      go_enter Try.func118, Try.ntmps118
      go_wp2_with (go_at_call 134; refine ha.mono ?_; rintro e w2 ⟨rfl, rfl⟩)
      go_ret
      exact ⟨rfl, rfl⟩
    · have ha := at_yes r ((n : Int) / 64) (s := s) (by omega) (by rw [show ((n : Int) / 64).toNat = n / 64 by omega]; exact h2)
      rw [show ((n : Int) / 64).toNat = n / 64 by omega] at ha
      have c2 := r.g2 h2
      have hm : n % 64 < 64 := Nat.mod_lt _ (by omega)
      have hd : (s.words.length : Int) ≤ (n : Int) % 64 := by omega
      clear r h0 h1 h2
      go_enter Try.func118, Try.ntmps118
      go_wp2_with (go_at_call 134; refine ha.mono ?_; rintro e w2 ⟨rfl, rfl⟩)
      go_ret
      exact ⟨rfl, rfl⟩

set_option maxHeartbeats 400000 in
theorem read_yes {hb : HB} {M : Hp} {w : World} (r : Rep hb M w) (a : Int) {v : Nat} (h0 : 0 ≤ a) (hv : M.rd a.toNat = some v) :
    Calls Try.prog 77 #[.pointer (some ⟨hb.m, 0, none⟩), .int .i64 a] w fun e w' => e = .returned (.tuple #[.int .u64 v, .int .i64 0]) ∧ w' = w := by
  obtain ⟨s, h1, h2⟩ := Hp.rd_some hv
  have hl : a.toNat % 64 < s.words.length := by
    rcases Nat.lt_or_ge (a.toNat % 64) s.words.length with h | h
    · exact h
    · rw [List.getElem?_eq_none h] at h2; cases h2
  have hw := word_yes r a h0 h1 hl
  have cw := r.gw h1 (a.toNat % 64) (Nat.mod_lt _ (by omega))
  rw [List.getD_eq_getElem?_getD, h2, Option.getD_some] at cw
  generalize a.toNat / 64 * 72 = p at *
  generalize a.toNat % 64 = q at *
  clear r h0 h1 h2 hl hv
  go_enter Try.func77, Try.ntmps77
  go_wp2_with (go_at_call 118; refine hw.mono ?_; rintro e w2 ⟨rfl, rfl⟩)
  go_ret2
  exact ⟨by simp, rfl⟩

set_option maxHeartbeats 400000 in
theorem read_no {hb : HB} {M : Hp} {w : World} (r : Rep hb M w) (a : Int) (hu : a ≤ 1000000) (h : a < 0 ∨ M.rd a.toNat = none) :
    Calls Try.prog 77 #[.pointer (some ⟨hb.m, 0, none⟩), .int .i64 a] w fun e w' => e = .returned (.tuple #[.int .u64 0, .int .i64 18]) ∧ w' = w := by
  have hw := word_no r a hu h
  clear r h
  go_enter Try.func77, Try.ntmps77
  go_wp2_with (go_at_call 118; refine hw.mono ?_; rintro e w2 ⟨rfl, rfl⟩)
  go_ret2
  exact ⟨by simp, rfl⟩

/-- a word is written -/
def Hp.wr (M : Hp) (a v : Nat) : Hp :=
  match M.segs[a / 64]? with
  | none => M
  | some s => M.upd (a / 64) { s with words := s.words.set (a % 64) v }

set_option maxHeartbeats 400000 in
theorem write_yes {hb : HB} {M : Hp} {w : World} (r : Rep hb M w) (a : Int) {x v : Nat} (h0 : 0 ≤ a) (hv : M.rd a.toNat = some x) (hlt : v < 18446744073709551616) :
    Calls Try.prog 112 #[.pointer (some ⟨hb.m, 0, none⟩), .int .i64 a, .int .u64 v] w fun e w' => e = .returned (.int .i64 0) ∧ Rep hb (M.wr a.toNat v) w' ∧ Moves hb w w' := by
  obtain ⟨s, h1, h2⟩ := Hp.rd_some hv
  have hl : a.toNat % 64 < s.words.length := by
    rcases Nat.lt_or_ge (a.toNat % 64) s.words.length with h | h
    · exact h
    · rw [List.getElem?_eq_none h] at h2; cases h2
  have hw := word_yes r a h0 h1 hl
  have hm : a.toNat % 64 < 64 := Nat.mod_lt _ (by omega)
  have cw := r.gw h1 (a.toNat % 64) hm
  have cf := r.fg (a.toNat / 64 * 72 + 8 + a.toNat % 64)
  have hfin : Rep hb (M.wr a.toNat v) (w.setCell ⟨hb.g, a.toNat / 64 * 72 + 8 + a.toNat % 64, none⟩ (.int .u64 v)) := by
    unfold Hp.wr
    rw [h1, Nat.add_assoc]
    refine r.store h1 (by omega) _ _ rfl (by simpa using r.ok.room _ _ h1) ?_ (fun hk => by simpa using r.ok.even _ _ h1 hk) ?_
    · intro y hy
      rcases List.mem_or_eq_of_mem_set hy with h | h
      · exact r.ok.word _ _ h1 y h
      · rw [h]; exact hlt
    · intro i hi
      unfold Sg.cell
      simp only [List.length_set]
      by_cases e : i = 8 + a.toNat % 64
      · rw [if_pos e, if_neg (by omega), if_neg (by omega), if_neg (by omega), if_neg (by omega), if_neg (by omega), List.getD_eq_getElem?_getD, show i - 8 = a.toNat % 64 by omega, List.getElem?_set_self hl]
        rfl
      · rw [if_neg e]
        by_cases e1 : i = 0
        · rw [if_pos e1, if_pos e1]
        · rw [if_neg e1, if_neg e1]
          by_cases e2 : i < 8
          · by_cases e3 : i = 7
            · subst e3; simp
            · by_cases e4 : i = 1
              · subst e4; simp
              · by_cases e5 : i = 2
                · subst e5; simp
                · simp only [if_neg e4, if_neg e5]
                  rw [if_pos (by omega), if_pos (by omega)]
          · rw [if_neg (by omega), if_neg (by omega), if_neg (by omega), if_neg (by omega), if_neg (by omega), if_neg (by omega), if_neg (by omega), if_neg (by omega), List.getD_eq_getElem?_getD, List.getD_eq_getElem?_getD, List.getElem?_set_ne (by omega)]
  have hmv : Moves hb w (w.setCell ⟨hb.g, a.toNat / 64 * 72 + 8 + a.toNat % 64, none⟩ (.int .u64 v)) := (Moves.refl hb w).setCell (.inr (.inr (.inr (.inr rfl)))) _
  have Hf := Lib.hid hfin
  have Hm := Lib.hid hmv
  generalize a.toNat / 64 * 72 = p at *
  generalize a.toNat % 64 = q at *
  clear r h0 h1 h2 hl hv hfin hmv hlt
  go_enter Try.func112, Try.ntmps112
  go_wp2_with (go_at_call 118; refine hw.mono ?_; rintro e w2 ⟨rfl, rfl⟩)
  go_ret
  exact ⟨rfl, Hf.out, Hm.out⟩
end Go.Proofs.Ytecemlamoiepdaa
