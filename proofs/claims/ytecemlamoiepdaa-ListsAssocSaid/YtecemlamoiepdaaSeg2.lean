/- The contracts of Seg, Bump, Take, Mark, Free. -/
import Derived.Test.YtecemlamoiepdaaSeg
import Derived.StillTailTactics
import Derived.Deep.MidRow
namespace Go.Proofs.Ytecemlamoiepdaa
open Go.RowKit

/-- what Seg tells of a segment -/
def Sg.told (s : Sg) : Value := .agg #[.int .i64 0, .int .i64 s.kind, .int .i64 s.words.length, .int .i64 5, .int .i64 5, .int .i64 5, .int .i64 5]

set_option maxHeartbeats 400000 in
theorem seg_yes {hb : HB} {M : Hp} {w : World} (r : Rep hb M w) (k : Int) {s : Sg} (h0 : 0 ≤ k) (hk : M.segs[k.toNat]? = some s) :
    Calls Try.prog 107 #[.pointer (some ⟨hb.m, 0, none⟩), .int .i64 k] w fun e w' => e = .returned (.tuple #[s.told, .bool true]) ∧ Below w.heap.size w w' := by
  have ha := at_yes (r.alloc (.cells #[.int .i64 0, .int .i64 0, .int .i64 0, .int .i64 0, .int .i64 0, .int .i64 0, .int .i64 0] 175)) k h0 hk
  have c0 := r.g0 hk
  have c1 := r.g1 hk
  have c2 := r.g2 hk
  have c3 := r.gk hk 3 (by omega) (by omega)
  have c4 := r.gk hk 4 (by omega) (by omega)
  have c5 := r.gk hk 5 (by omega) (by omega)
  have c6 := r.gk hk 6 (by omega) (by omega)
  have hg := r.lt hb.g (.inr (.inr (.inr (.inr rfl))))
  generalize k.toNat * 72 = p at *
  clear r h0 hk
  go_enter Try.func107, Try.ntmps107
  go_wp2_with (go_at_call 134; refine ha.mono ?_; rintro e w2 ⟨rfl, rfl⟩)
  refine bodyPost_ret (v := .tuple #[s.told, .bool true]) (by simp [results, Try.results107, go_sem, Sg.told]) rfl ⟨rfl, ?_⟩
  exact (Below.refl _ _).alloc (Nat.le_refl _) _

set_option maxHeartbeats 400000 in
theorem seg_no {hb : HB} {M : Hp} {w : World} (r : Rep hb M w) (k : Int) (hk : k < 0 ∨ M.segs.length ≤ k.toNat) :
    Calls Try.prog 107 #[.pointer (some ⟨hb.m, 0, none⟩), .int .i64 k] w fun e w' => e = .returned (.tuple #[.agg #[.int .i64 0, .int .i64 0, .int .i64 0, .int .i64 0, .int .i64 0, .int .i64 0, .int .i64 0], .bool false]) ∧ Below w.heap.size w w' := by
  have ha := at_no (r.alloc (.cells #[.int .i64 0, .int .i64 0, .int .i64 0, .int .i64 0, .int .i64 0, .int .i64 0, .int .i64 0] 175)) k hk
  clear r hk
  go_enter Try.func107, Try.ntmps107
  go_wp2_with (go_at_call 134; refine ha.mono ?_; rintro e w2 ⟨rfl, rfl⟩)
  refine bodyPost_ret (v := .tuple #[.agg #[.int .i64 0, .int .i64 0, .int .i64 0, .int .i64 0, .int .i64 0, .int .i64 0, .int .i64 0], .bool false]) (by simp [results, Try.results107, go_sem]) rfl ⟨rfl, ?_⟩
  exact (Below.refl _ _).alloc (Nat.le_refl _) _

set_option maxHeartbeats 400000 in
theorem bump_ok {hb : HB} {M : Hp} {w : World} (r : Rep hb M w) (k n : Int) {s : Sg} (h0 : 0 ≤ k) (hk : M.segs[k.toNat]? = some s) (h1 : 1 ≤ n) (hn : s.words.length + n ≤ 64) (he : s.kind < 2 → n = 2) :
    Calls Try.prog 141 #[.pointer (some ⟨hb.m, 0, none⟩), .int .i64 k, .int .i64 n] w fun e w' => e = .returned (.tuple #[.int .i64 (k.toNat * 64 + s.words.length : Nat), .int .i64 0]) ∧ Rep hb (M.upd k.toNat { s with words := s.words ++ List.replicate n.toNat 0 }) w' ∧ Moves hb w w' := by
  have ha := at_yes r k h0 hk
  have c2 := r.g2 hk
  have cf := r.fg (k.toNat * 72 + 2)
  have hkl := r.seg_lt hk
  have hlen := r.ok.len
  have hlim := r.ok.lim
  obtain ⟨K, rfl⟩ := Int.eq_ofNat_of_zero_le h0
  obtain ⟨N, rfl⟩ := Int.eq_ofNat_of_zero_le (show 0 ≤ n by omega)
  simp only [Int.toNat_natCast] at *
  have hfin : Rep hb (M.upd K { s with words := s.words ++ List.replicate N 0 }) (w.setCell ⟨hb.g, K * 72 + 2, none⟩ (.int .i64 ((s.words.length : Int) + N))) := by
    refine r.store hk (by omega) _ _ rfl (by simp; omega) ?_ (fun hk2 => by have := r.ok.even _ _ hk hk2; have := he hk2; simp; omega) ?_
    · intro y hy
      rcases List.mem_append.1 hy with h | h
      · exact r.ok.word _ _ hk y h
      · rw [(List.mem_replicate.1 h).2]; omega
    · intro i hi
      unfold Sg.cell
      by_cases e : i = 2
      · subst e; simp
      · rw [if_neg e]
        by_cases e1 : i < 8
        · simp only [if_neg e]
          by_cases e2 : i = 7
          · subst e2; simp
          · by_cases e3 : i = 0
            · subst e3; simp
            · by_cases e4 : i = 1
              · subst e4; simp
              · rw [if_neg e3, if_neg e4, if_pos (by omega), if_neg e3, if_neg e4, if_pos (by omega)]
        · rw [if_neg (by omega), if_neg (by omega), if_neg (by omega), if_neg (by omega), if_neg (by omega), if_neg (by omega), if_neg (by omega), if_neg (by omega), if_neg (by omega), if_neg (by omega)]
          congr 2
          rw [List.getD_eq_getElem?_getD, List.getD_eq_getElem?_getD]
          rcases Nat.lt_or_ge (i - 8) s.words.length with h | h
          · rw [List.getElem?_append_left h]
          · rw [List.getElem?_append_right h, List.getElem?_eq_none h]
            rw [List.getElem?_replicate]; split <;> rfl
  have hmv : Moves hb w (w.setCell ⟨hb.g, K * 72 + 2, none⟩ (.int .i64 ((s.words.length : Int) + N))) := (Moves.refl hb w).setCell (.inr (.inr (.inr (.inr rfl)))) _
  have Hf := Lib.hid hfin
  have Hm := Lib.hid hmv
  have hgt : ¬ ((N : Int) > 64 - (s.words.length : Int)) := by omega
  clear r h0 hfin hmv hk
  go_enter Try.func141, Try.ntmps141
  go_wp2_with (go_at_call 134; refine ha.mono ?_; rintro e w2 ⟨rfl, rfl⟩)
  go_ret2
  exact ⟨by simp; omega, Hf.out, Hm.out⟩

set_option maxHeartbeats 400000 in
theorem bump_full {hb : HB} {M : Hp} {w : World} (r : Rep hb M w) (k n : Int) {s : Sg} (h0 : 0 ≤ k) (hk : M.segs[k.toNat]? = some s) (h1 : 1 ≤ n) (hn : 64 < s.words.length + n) :
    Calls Try.prog 141 #[.pointer (some ⟨hb.m, 0, none⟩), .int .i64 k, .int .i64 n] w fun e w' => e = .returned (.tuple #[.int .i64 0, .int .i64 2]) ∧ w' = w := by
  have ha := at_yes r k h0 hk
  have c2 := r.g2 hk
  have hr := r.ok.room _ _ hk
  have hgt : (64 - (s.words.length : Int)) < n := by omega
  generalize k.toNat * 72 = p at *
  clear r h0 hk
  go_enter Try.func141, Try.ntmps141
  go_wp2_with (go_at_call 134; refine ha.mono ?_; rintro e w2 ⟨rfl, rfl⟩)
  go_ret2
  exact ⟨by simp, rfl⟩

set_option maxHeartbeats 400000 in
theorem take_full {hb : HB} {M : Hp} {w : World} (r : Rep hb M w) (kind : Int) (h0 : 0 ≤ kind) (h4 : kind < 4) (hp : M.limit ≠ 0) (h : M.segs.length = M.limit) :
    Calls Try.prog 142 #[.pointer (some ⟨hb.m, 0, none⟩), .int .i64 0, .int .i64 kind] w fun e w' => e = .returned (.tuple #[.int .i64 0, .int .i64 2]) ∧ w' = w := by
  have c0 := r.m0
  have c2 := r.m2
  rw [h, Nat.sub_self] at c2
  have hlim := r.ok.lim
  have hz : ((M.limit : Int) == 0) = false := by rw [beq_eq_false_iff_ne]; omega
  clear r h
  go_enter Try.func142, Try.ntmps142
  go_wp2
  go_ret2
  exact ⟨by simp, rfl⟩

/-- many cells of one block are written -/
theorem setCells_block (b : Nat) (t : TypeId) (vs : List Value) : ∀ (o : Nat) (w : World) (cs : Array Value), w.heap[b]? = some (.cells cs t (0, 0)) → o + vs.length ≤ cs.size →
    ∃ ds : Array Value, (w.setCells b o vs).heap[b]? = some (.cells ds t (0, 0)) ∧ ds.size = cs.size ∧ ∀ i, i < cs.size → ds[i]? = if o ≤ i ∧ i < o + vs.length then vs[i - o]? else cs[i]? := by
  induction vs with
  | nil => intro o w cs h _; exact ⟨cs, h, rfl, fun i _ => by rw [if_neg (by simp only [List.length_nil]; omega)]⟩
  | cons v r ih =>
    intro o w cs h ho
    simp only [List.length_cons] at ho
    have h1 : (w.setCell ⟨b, o, none⟩ v).heap[b]? = some (.cells (cs.setIfInBounds o v) t (0, 0)) := by simp [World.setCell, Array.getElem?_modify, h]
    obtain ⟨ds, h2, h3, h4⟩ := ih (o + 1) _ _ h1 (by simp; omega)
    refine ⟨ds, h2, by simpa using h3, fun i hi => ?_⟩
    rw [h4 i (by simpa using hi), Array.getElem?_setIfInBounds]
    simp only [List.length_cons]
    by_cases e : i = o
    · subst e
      rw [if_neg (by omega), if_pos rfl, if_pos hi, if_pos (by omega)]; simp
    · by_cases e2 : o < i ∧ i < o + 1 + r.length
      · rw [if_pos (by omega), if_pos (by omega), show i - o = (i - (o + 1)) + 1 by omega]; simp
      · rw [if_neg (by omega), if_neg (by omega), if_neg (by omega)]

theorem setCells_other (b : Nat) (vs : List Value) : ∀ (o : Nat) (w : World) (k : Nat), k ≠ b → (w.setCells b o vs).heap[k]? = w.heap[k]? := by
  induction vs with
  | nil => intro o w k _; rfl
  | cons v r ih => intro o w k h; rw [World.setCells, ih _ _ _ h]; exact Below.heap_setCell _ _ _ _ h

theorem setCells_rest (b : Nat) (vs : List Value) : ∀ (o : Nat) (w : World), (w.setCells b o vs).os = w.os ∧ (w.setCells b o vs).tape = w.tape ∧ (w.setCells b o vs).output = w.output ∧ (w.setCells b o vs).heap.size = w.heap.size := by
  induction vs with
  | nil => intro o w; exact ⟨rfl, rfl, rfl, rfl⟩
  | cons v r ih => intro o w; rw [World.setCells]; obtain ⟨h1, h2, h3, h4⟩ := ih (o + 1) (w.setCell ⟨b, o, none⟩ v); exact ⟨h1, h2, h3, by rw [h4]; simp⟩

/-- the cells of a segment that was just taken -/
def freshCells (kind n : Int) : List Value :=
  [.int .i64 0, .int .i64 kind, .int .i64 0, .int .i64 5, .int .i64 5, .int .i64 5, .int .i64 5, .int .i64 n] ++ List.replicate 64 (.int .u64 0)

theorem fresh_cell (kind n j : Nat) (hj : j < 72) : (freshCells kind ((n : Int) + 1))[j]? = some ((⟨kind, []⟩ : Sg).cell n j) := by
  unfold freshCells Sg.cell
  by_cases h : j < 8
  · rw [List.getElem?_append_left (by simpa using h)]
    obtain rfl | rfl | rfl | rfl | rfl | rfl | rfl | rfl : j = 0 ∨ j = 1 ∨ j = 2 ∨ j = 3 ∨ j = 4 ∨ j = 5 ∨ j = 6 ∨ j = 7 := by omega
    all_goals simp
  · rw [List.getElem?_append_right (by simp; omega), List.getElem?_replicate]
    simp only [List.length_cons, List.length_nil]
    rw [if_pos (by omega), if_neg (by omega), if_neg (by omega), if_neg (by omega), if_neg (by omega), if_neg (by omega)]
    simp

/-- what Take makes of the memory -/
def takeWorld (hb : HB) (M : Hp) (kind : Nat) (w : World) : World :=
  ((((w.setCell ⟨hb.m, 1, none⟩ (.int .i64 ((M.segs.length : Int) + 1))).setCell ⟨hb.m, 2, none⟩ (.int .i64 (((M.limit - M.segs.length : Nat) : Int) - 1))).drew).setCells hb.g (M.segs.length * 72) (freshCells kind ((M.segs.length : Int) + 1)))

theorem Rep.taken {hb : HB} {M : Hp} {w : World} (r : Rep hb M w) (kind : Nat) (h4 : kind < 4) (h : M.segs.length < M.limit) : Rep hb (M.more kind) (takeWorld hb M kind w) ∧ Moves hb w (takeWorld hb M kind w) := by
  obtain ⟨a1, a2, a3, a4, a5, a6, a7, a8, a9, a10⟩ := r.apart
  have hfl : (freshCells kind ((M.segs.length : Int) + 1)).length = 72 := by simp [freshCells]
  have hx : ∀ q, q ≠ hb.g → q ≠ hb.m → (takeWorld hb M kind w).heap[q]? = w.heap[q]? := by
    intro q h1 h2
    unfold takeWorld
    rw [setCells_other _ _ _ _ _ h1, heap_drew, Below.heap_setCell _ _ _ _ h2, Below.heap_setCell _ _ _ _ h2]
  have hm2 : ((w.setCell ⟨hb.m, 1, none⟩ (.int .i64 ((M.segs.length : Int) + 1))).setCell ⟨hb.m, 2, none⟩ (.int .i64 (((M.limit - M.segs.length : Nat) : Int) - 1))).heap[hb.m]? = some (.cells #[.slice (some ⟨hb.g, 0, none⟩) M.limit M.limit, .int .i64 ((M.segs.length : Int) + 1), .int .i64 (((M.limit - M.segs.length : Nat) : Int) - 1)] 216 (0, 0)) := by
    simp [World.setCell, Array.getElem?_modify, r.bm]
  constructor
  · refine ⟨?_, ?_, ?_, ?_, ?_, r.apart, r.ok.more h4 h⟩
    · rw [hx _ a4 a3]; exact r.bh
    · rw [hx _ a7 a6]; exact r.bc
    · rw [hx _ a9 a8]; exact r.bs
    · unfold takeWorld
      rw [setCells_other _ _ _ _ _ a10, heap_drew, hm2]
      have e1 : ((M.more kind).segs.length : Int) = (M.segs.length : Int) + 1 := by simp [Hp.more]
      have e2 : (((M.more kind).limit - (M.more kind).segs.length : Nat) : Int) = ((M.limit - M.segs.length : Nat) : Int) - 1 := by simp [Hp.more]; omega
      rw [e1, e2]; rfl
    · obtain ⟨cs, hb1, hs, hb2⟩ := r.bg
      have hb0 : (((w.setCell ⟨hb.m, 1, none⟩ (.int .i64 ((M.segs.length : Int) + 1))).setCell ⟨hb.m, 2, none⟩ (.int .i64 (((M.limit - M.segs.length : Nat) : Int) - 1))).drew).heap[hb.g]? = some (.cells cs 213 (0, 0)) := by
        rw [heap_drew, Below.heap_setCell _ _ _ _ (Ne.symm a10), Below.heap_setCell _ _ _ _ (Ne.symm a10)]; exact hb1
      obtain ⟨ds, h1, h2, h3⟩ := setCells_block hb.g _ (freshCells kind ((M.segs.length : Int) + 1)) (M.segs.length * 72) _ cs hb0 (by rw [hfl]; omega)
      refine ⟨ds, h1, by simpa [Hp.more, h2] using hs, fun i hi => ?_⟩
      have hi' : i < M.limit * 72 := hi
      rw [h3 i (by omega), hfl]
      unfold Hp.cell Hp.more
      by_cases e : i / 72 = M.segs.length
      · rw [if_pos (by omega), show i - M.segs.length * 72 = i % 72 by omega, fresh_cell _ _ _ (Nat.mod_lt _ (by omega))]
        simp [e]
      · rw [if_neg (by omega), hb2 i hi']
        unfold Hp.cell
        simp only
        rcases Nat.lt_or_ge (i / 72) M.segs.length with h | h
        · rw [List.getElem?_append_left h]
        · rw [List.getElem?_append_right h, List.getElem?_eq_none h, List.getElem?_eq_none (by simp; omega)]
  · obtain ⟨h1, h2, h3, h5⟩ := setCells_rest hb.g (freshCells kind ((M.segs.length : Int) + 1)) (M.segs.length * 72) (((w.setCell ⟨hb.m, 1, none⟩ (.int .i64 ((M.segs.length : Int) + 1))).setCell ⟨hb.m, 2, none⟩ (.int .i64 (((M.limit - M.segs.length : Nat) : Int) - 1))).drew)
    exact ⟨h1, h2, h3, by unfold takeWorld; rw [h5]; simp, fun k _ hn => hx k (fun e => hn (.inr (.inr (.inr (.inr e))))) (fun e => hn (.inr (.inr (.inr (.inl e)))))⟩

set_option maxRecDepth 20000 in
set_option maxHeartbeats 2000000 in
theorem take_ok {hb : HB} {M : Hp} {w : World} (r : Rep hb M w) (kind : Int) (h0 : 0 ≤ kind) (h4 : kind < 4) (h : M.segs.length < M.limit) :
    Calls Try.prog 142 #[.pointer (some ⟨hb.m, 0, none⟩), .int .i64 0, .int .i64 kind] w fun e w' => e = .returned (.tuple #[.int .i64 M.segs.length, .int .i64 0]) ∧ Rep hb (M.more kind.toNat) w' ∧ Moves hb w w' := by
  obtain ⟨kd, rfl⟩ := Int.eq_ofNat_of_zero_le h0
  rw [Int.toNat_natCast]
  have c0 := r.m0
  have c1 := r.m1
  have c2 := r.m2
  have f1 := r.fm 1
  have f2 := r.fm 2
  have hlim := r.ok.lim
  have hz : ((M.limit : Int) == 0) = false := by rw [beq_eq_false_iff_ne]; omega
  have hz2 : (((M.limit - M.segs.length : Nat) : Int) == 0) = false := by rw [beq_eq_false_iff_ne]; omega
  go_enter Try.func142, Try.ntmps142
  go_wp2
  go_loop [8] (fun i => ∃ k : Nat, k ≤ M.segs.length ∧ i = .int .i64 k) (fun i => M.segs.length - (intOf i).toNat)
  case atStart => exact ⟨0, Nat.zero_le _, rfl⟩
  case round =>
    obtain ⟨k, hk, rfl⟩ := hrel
    by_cases hlt : k < M.segs.length
    · obtain ⟨s, hs⟩ : ∃ s, M.segs[k]? = some s := ⟨_, List.getElem?_eq_getElem hlt⟩
      have c7 := r.g7 hs
      have hkl : k < M.limit := by omega
      have hgt : (0 : Int) < (k : Int) + 1 := by omega
      go_wp2
      go_round
      case rel => exact ⟨k + 1, by omega, by go_num⟩
      case measure => simp [intOf]; omega
    · obtain rfl : k = M.segs.length := by omega
      have c7 := r.gfree (k := M.segs.length) (Nat.le_refl _) h
      have hT := Lib.hid (r.taken kd (by omega) h)
      have cm0 : ((w.setCell ⟨hb.m, 1, none⟩ (.int .i64 ((M.segs.length : Int) + 1))).setCell ⟨hb.m, 2, none⟩ (.int .i64 (((M.limit - M.segs.length : Nat) : Int) - 1))).cell? ⟨hb.m, 0, none⟩ = some (.slice (some ⟨hb.g, 0, none⟩) M.limit M.limit) := by
        simp [World.cell?, World.setCell, Array.getElem?_modify, r.bm]
      have cm1 : ((w.setCell ⟨hb.m, 1, none⟩ (.int .i64 ((M.segs.length : Int) + 1))).setCell ⟨hb.m, 2, none⟩ (.int .i64 (((M.limit - M.segs.length : Nat) : Int) - 1))).cell? ⟨hb.m, 1, none⟩ = some (.int .i64 ((M.segs.length : Int) + 1)) := by
        simp [World.cell?, World.setCell, Array.getElem?_modify, r.bm]
      have hth : ((w.setCell ⟨hb.m, 1, none⟩ (.int .i64 ((M.segs.length : Int) + 1))).setCell ⟨hb.m, 2, none⟩ (.int .i64 (((M.limit - M.segs.length : Nat) : Int) - 1))).drew.there hb.g (M.segs.length * 72) 72 := by
        intro j hj
        have hne : hb.g ≠ hb.m := Ne.symm r.apart.2.2.2.2.2.2.2.2.2
        have hb0 : ((w.setCell ⟨hb.m, 1, none⟩ (.int .i64 ((M.segs.length : Int) + 1))).setCell ⟨hb.m, 2, none⟩ (.int .i64 (((M.limit - M.segs.length : Nat) : Int) - 1))).drew.heap[hb.g]? = w.heap[hb.g]? := by
          rw [heap_drew, Below.heap_setCell _ _ _ _ hne, Below.heap_setCell _ _ _ _ hne]
        constructor
        · rw [World.cell?_of_block (w := w) (a := ⟨hb.g, M.segs.length * 72 + j, none⟩) hb0, r.gc _ (by omega)]; rfl
        · rw [World.frozen?_of_block (w := w) (a := ⟨hb.g, M.segs.length * 72 + j, none⟩) hb0, r.fg]
      have hTh := Lib.hid hth
      have hlt2 : M.segs.length < M.limit := h
      clear hth r
      go_wp2
      unfold takeWorld at hT
      generalize hW : (w.setCell ⟨hb.m, 1, none⟩ (.int .i64 ((M.segs.length : Int) + 1))).setCell ⟨hb.m, 2, none⟩ (.int .i64 (((M.limit - M.segs.length : Nat) : Int) - 1)) = W at *
      have HW := Lib.hid hW
      clear hW
      go_still_tail 15, (by kernel_rfl)
      change wpList _ _ _ _ _ W.drew
      refine wpList_store_mid rfl 213 _ _ rfl hb.g (M.segs.length * 72) (freshCells (kd : Int) ((M.segs.length : Int) + 1)).toArray rfl rfl (by simpa [freshCells] using hTh.out) (by kernel_rfl) (by simp [freshCells, Value.oneCell']) ?_
      try dsimp only
      generalize W.drew.setCells hb.g (M.segs.length * 72) (freshCells (kd : Int) ((M.segs.length : Int) + 1)) = W2 at *
      go_wp2
      go_ret2
      exact ⟨by simp, hT.out⟩
end Go.Proofs.Ytecemlamoiepdaa
