/- The contracts of Make, Cons, Weak where they refuse; of Weak; of New. -/
import Derived.Test.YtecemlamoiepdaaMake
namespace Go.Proofs.Ytecemlamoiepdaa
open Go.RowKit

theorem Below.grownW {a w w' : World} {row : Option Nat} (h : Below a.heap.size a w) (hg : w.grownBy w' row) (hr : ∀ k, row = some k → a.heap.size ≤ k) : Below a.heap.size a w' :=
  h.grown hg h.size hr

set_option maxHeartbeats 1000000 in
theorem make_full {hb : HB} {M : Hp} {w : World} (r : Rep hb M w) (hlp : M.limit ≠ 0) (K Mo : Int) (k m : Nat) (hK : K = k) (hMo : Mo = m) (h1 : 1 ≤ k) (h2 : k ≤ 13) (h4 : m < 281474976710656) (v : Value) (ws : List Nat) (hv : SlWords w v ws) (hl : ws.length ≤ 62)
    (h : M.make k m ws = none) :
    Calls Try.prog 33 #[.pointer (some ⟨hb.h, 0, none⟩), .int .i64 K, .int .u64 Mo, v] w fun e w' =>
      e = .returned (.tuple #[.int .u64 0, .int .i64 2]) ∧ Below w.heap.size w w' := by
  unfold Hp.make at h
  cases hp : M.putAt (rawK k) (headerOf k ws.length m :: ws) with
  | some p => rw [hp] at h; cases h
  | none =>
    subst hK hMo
    have hlt := r.lt
    have hA := header_okI (k : Int) 0 (m : Int) k 0 m rfl rfl rfl h1 h2 (by omega) h4 w
    have hB := header_okI (k : Int) (ws.length : Int) (m : Int) k ws.length m rfl rfl rfl h1 h2 hl h4 w
    have hR := raw_any (k : Int) w (by omega)
    rw [Int.toNat_natCast] at hR
    obtain ⟨a, cap, hva⟩ : ∃ a cap, v = .slice a ws.length cap := by
      rcases hv with ⟨rfl, rfl⟩ | ⟨b, o, cap, rfl, _⟩
      · exact ⟨none, 0, rfl⟩
      · exact ⟨_, _, rfl⟩
    subst hva
    have HP := Lib.hid hp
    have HL := Lib.hid hlt
    have HV := Lib.hid hv
    have R := Lib.hid r
    clear hp r hv hlt h
    go_enter Try.func33, Try.ntmps33
    go_wp2_with fail
    refine hA.mono ?_
    rintro e w2 ⟨rfl, rfl⟩
    go_wp2_with fail
    refine hB.mono ?_
    rintro e w2 ⟨rfl, rfl⟩
    go_wp2_with fail
    refine hR.mono ?_
    rintro e w2 ⟨rfl, rfl⟩
    clear hA hB hR
    have hcell : SlCells (w2.alloc (.cells #[wv (headerOf k ws.length m)] 29)) (.slice a ws.length cap) ws.length (ws.map wv) := (HV.out.below ((Below.refl _ _).alloc (Nat.le_refl _) _)).cells
    go_wp2_with (at_builtin; refine wpList_app E_word rfl _ _ rfl (.slice (some ⟨w2.heap.size, 0, none⟩) 1 1) 1 [wv (headerOf k ws.length m)] rfl (OwnW.one w2 (headerOf k ws.length m)) _ ws.length (ws.map wv) rfl hcell (by simp) (by simp [wv, Value.oneCell']) (by unfold maxLen; omega) (by omega) ?_; intro v' w3 hown hgrow hat)
    have ho : OwnW w3 v' (headerOf k ws.length m :: ws) := by unfold OwnW; simpa [Nat.add_comm] using hown
    have hlen3 : (headerOf k ws.length m :: ws).length = ws.length + 1 := rfl
    obtain ⟨g, cap', rfl, hob, hg, hwa⟩ := ho.form (by simp)
    have r3 : Rep hb M w3 := (R.out.alloc _).grown hgrow (fun q hq hc => by
      have := HL.out q hc
      simp only [Value.ownBlock, Option.some.injEq] at hq; omega)
    have v3 : Below w2.heap.size w2 w3 := Below.grownW ((Below.refl _ _).alloc (Nat.le_refl _) _) hgrow (fun q hq => by
      simp only [Value.ownBlock, Option.some.injEq] at hq; omega)
    have hP := put_none r3 (rawK k : Nat) 3 (headerOf k ws.length m :: ws) g 0 cap' (by rw [hlen3]; exact mayN_raw k _ hl) hlp (by rw [Int.toNat_natCast]; exact HP.out)
    have V3 := Lib.hid v3
    clear hwa ho hown hgrow hat r3 v3 hcell hob
    refine hP.mono ?_
    rintro e w4 ⟨rfl, rfl⟩
    go_wp2_with fail
    go_ret2
    exact ⟨by simp, V3.out⟩

set_option maxHeartbeats 400000 in
theorem make_bad (h : Value) (K : Int) (m : Nat) (hm : m < 18446744073709551616) (v : Value) (hk : K < 1 ∨ 13 < K ∨ 281474976710656 ≤ m) (w : World) :
    Calls Try.prog 33 #[h, .int .i64 K, .int .u64 m, v] w fun e w' =>
      e = .returned (.tuple #[.int .u64 0, .int .i64 1]) ∧ w' = w := by
  have hA := header_bad K 0 m (by omega) hm w
  clear hk hm
  go_enter Try.func33, Try.ntmps33
  go_wp2_with fail
  refine hA.mono ?_
  rintro e w2 ⟨rfl, rfl⟩
  go_wp2_with fail
  go_ret2
  exact ⟨by simp, rfl⟩

set_option maxHeartbeats 400000 in
theorem make_big (h : Value) (K : Int) (k m : Nat) (hK : K = k) (h1 : 1 ≤ k) (h2 : k ≤ 13) (h4 : m < 281474976710656) (a : Option Addr) (n cap : Nat) (hn : 62 < n) (w : World) :
    Calls Try.prog 33 #[h, .int .i64 K, .int .u64 m, .slice a n cap] w fun e w' =>
      e = .returned (.tuple #[.int .u64 0, .int .i64 6]) ∧ w' = w := by
  subst hK
  have hA := header_okI (k : Int) 0 (m : Int) k 0 m rfl rfl rfl h1 h2 (by omega) h4 w
  clear h1 h2 h4
  go_enter Try.func33, Try.ntmps33
  go_wp2_with fail
  refine hA.mono ?_
  rintro e w2 ⟨rfl, rfl⟩
  go_wp2_with fail
  go_ret2
  exact ⟨by simp, rfl⟩

theorem two_at (w : World) (x y : Nat) : WordsAt (w.alloc (.cells #[.int .u64 x, .int .u64 y] 29)) w.heap.size 0 [x, y] := by
  intro i z hz
  match i with
  | 0 => cases hz; simp
  | 1 => cases hz; simp
  | i + 2 => cases hz

set_option maxHeartbeats 1000000 in
theorem cons_none {hb : HB} {M : Hp} {w : World} (r : Rep hb M w) (hlp : M.limit ≠ 0) (x y : Nat) (h : M.cons 0 x y = none) :
    Calls Try.prog 30 #[.pointer (some ⟨hb.h, 0, none⟩), .int .u64 x, .int .u64 y] w fun e w' =>
      e = .returned (.tuple #[.int .u64 0, .int .i64 2]) ∧ Below w.heap.size w w' := by
  unfold Hp.cons at h
  cases hp : M.putAt 0 [x, y] with
  | some p => rw [hp] at h; cases h
  | none =>
    have hP := put_none (r.alloc (.cells #[.int .u64 x, .int .u64 y] 29)) 0 1 [x, y] w.heap.size 0 2 (.inl ⟨.inl rfl, rfl⟩) hlp hp
    clear r h hp
    go_enter Try.func30, Try.ntmps30
    go_wp2_with fail
    refine hP.mono ?_
    rintro e w1 ⟨rfl, rfl⟩
    go_wp2_with fail
    go_ret2
    exact ⟨by simp, (Below.refl _ _).alloc (Nat.le_refl _) _⟩

/-! ### New -/
theorem wpList_mk {P : Program} {w : World} {ops : Array Oper} {rest : List Oper} {o : Oper} {a : Act} {Q : Exit → Act → World → Prop} {t e : TypeId} {z : Value} {zc : Array Value} {size bytes : Nat}
    (ht : P.underlying t = some (.slice e)) (hzc : z.cells = zc) (hz : (P.info? e).map (fun i => (i.zero, i.size, i.bytes)) = some (some z, size, bytes)) (hg : o.guard = none) (l c : Operand) (hop : o.op = Op.makeSlice t l c)
    (kl kc : IntKind) (L C : Int) (n : Nat) (hl : a.eval l = .int kl L) (hc : a.eval c = .int kc C) (hL : L = (n : Int)) (hC : C = (n : Int)) (b2 : bytes * n ≤ 281474976710656) (b3 : n ≤ maxLen)
    (h : wpList P ops Q rest (a.put o.dst (.slice (some ⟨w.heap.size, 0, none⟩) n n)) (w.alloc (.cells (madeCells zc (n * size)) e))) : wpList P ops Q (o :: rest) a w := by
  refine wpList_plain hg fun K hK => ?_
  obtain ⟨i, h2, h3, h4, h5⟩ := info_parts hz
  subst hL hC
  have hbb : (i.bytes : Int) * (n : Int) = ((bytes * n : Nat) : Int) := by rw [h5]; push_cast; rfl
  have hr := run_make (P := P) w t e i z ht h2 h3 kl kc n n (by omega) (by omega) (by rw [hbb]; omega) (by unfold maxLen at b3; omega)
  rw [Int.toNat_natCast, h4, hzc] at hr
  unfold Oper.wp execOp
  simp only [hop, Sem.run_bind, Sem.run_pure, hl, hc, hr, Result.andThen_ok]
  exact hK _ _ h

theorem madeCells_get (z : Array Value) (n i : Nat) (h : i < n) : (madeCells z n)[i]? = some z[i % z.size]! := by
  unfold madeCells
  simp [h]

def Hp.empty (limit : Nat) : Hp := { limit, segs := [], cur := fun _ => 0, sy := .slice none 0 0, en := .slice none 0 0, ep := 0 }

def zeroSeg : Array Value := (List.replicate 8 (Value.int .i64 0) ++ List.replicate 64 (Value.int .u64 0)).toArray

theorem zeroSeg_at (j : Nat) (h : j < 72) : zeroSeg[j]! = if j < 8 then Value.int .i64 0 else Value.int .u64 0 := by
  unfold zeroSeg
  rw [List.getElem!_toArray, List.getElem!_eq_getElem?_getD]
  split
  · rw [List.getElem?_append_left (by simpa), List.getElem?_replicate, if_pos (by assumption)]; rfl
  · rw [List.getElem?_append_right (by simp; omega), List.getElem?_replicate, if_pos (by simp; omega)]; rfl

set_option maxRecDepth 20000 in
set_option maxHeartbeats 1000000 in
theorem segnew_ok (L : Int) (l : Nat) (hL : L = l) (h1 : 8 ≤ l) (h2 : l ≤ 1024) (w : World) :
    Calls Try.prog 138 #[.int .i64 L] w fun e w' => e = .returned (.tuple #[.pointer (some ⟨w.heap.size + 1, 0, none⟩), .int .i64 0]) ∧
      w' = (w.alloc (.cells (madeCells zeroSeg (l * 72)) 213)).alloc (.cells #[.slice (some ⟨w.heap.size, 0, none⟩) l l, .int .i64 0, .int .i64 l] 216) := by
  subst hL
  go_enter Try.func138, Try.ntmps138
  go_wp2_with (at_make; refine wpList_mk (z := .agg zeroSeg) (zc := zeroSeg) (size := 72) (bytes := 576) Try.underlying214 rfl (by kernel_rfl) rfl _ _ rfl .i64 .i64 _ _ l rfl rfl rfl rfl (by omega) (by unfold maxLen; omega) ?_)
  go_ret2
  exact ⟨by simp, rfl⟩

set_option maxHeartbeats 400000 in
theorem segnew_bad (L : Int) (h : L < 8 ∨ 1024 < L) (w : World) :
    Calls Try.prog 138 #[.int .i64 L] w fun e w' => e = .returned (.tuple #[.pointer none, .int .i64 1]) ∧ w' = w := by
  by_cases c1 : L < 8
  · clear h
    go_enter Try.func138, Try.ntmps138
    go_wp2
    go_ret2
    exact ⟨by simp, rfl⟩
  · have c2 : 1024 < L := by omega
    clear h
    go_enter Try.func138, Try.ntmps138
    go_wp2
    go_ret2
    exact ⟨by simp, rfl⟩

/-- the world behind New -/
def newWorld (l : Nat) (w : World) : World :=
  ((((w.alloc (.cells (madeCells zeroSeg (l * 72)) 213)).alloc (.cells #[.slice (some ⟨w.heap.size, 0, none⟩) l l, .int .i64 0, .int .i64 l] 216)).alloc
    (.cells #[.pointer (some ⟨w.heap.size + 1, 0, none⟩), .int .i64 0, .int .i64 0, .int .i64 0, .int .i64 0, .int .i64 0, .int .i64 0, .int .i64 0, .int .i64 0, .int .i64 0, .int .i64 0, .int .i64 0, .int .i64 0, .int .i64 0, .int .i64 0, .int .i64 0, .int .i64 0, .int .i64 0, .int .i64 0, .int .i64 0, .int .i64 0] 140)).alloc
    (.cells #[.pointer (some ⟨w.heap.size + 2, 0, none⟩)] 121)).alloc
    (.cells #[.pointer (some ⟨w.heap.size + 3, 0, none⟩), .slice none 0 0, .slice none 0 0, .int .u64 0] 60)

set_option maxRecDepth 20000 in
set_option maxHeartbeats 1000000 in
theorem new_world (L : Int) (l : Nat) (hL : L = l) (h1 : 8 ≤ l) (h2 : l ≤ 1024) (w : World) :
    Calls Try.prog 14 #[.int .i64 L] w fun e w' => e = .returned (.tuple #[.pointer (some ⟨w.heap.size + 4, 0, none⟩), .int .i64 0]) ∧ w' = newWorld l w := by
  have hS := segnew_ok L l hL h1 h2 w
  have hP : Calls Try.prog 110 #[.int .i64 L] w fun e w' => e = .returned (.tuple #[.pointer (some ⟨w.heap.size + 2, 0, none⟩), .int .i64 0]) ∧
      w' = ((w.alloc (.cells (madeCells zeroSeg (l * 72)) 213)).alloc (.cells #[.slice (some ⟨w.heap.size, 0, none⟩) l l, .int .i64 0, .int .i64 l] 216)).alloc
        (.cells #[.pointer (some ⟨w.heap.size + 1, 0, none⟩), .int .i64 0, .int .i64 0, .int .i64 0, .int .i64 0, .int .i64 0, .int .i64 0, .int .i64 0, .int .i64 0, .int .i64 0, .int .i64 0, .int .i64 0, .int .i64 0, .int .i64 0, .int .i64 0, .int .i64 0, .int .i64 0, .int .i64 0, .int .i64 0, .int .i64 0, .int .i64 0] 140) := by
    clear hL h1 h2
    go_enter Try.func110, Try.ntmps110
    go_wp2_with (go_at_call 138; refine hS.mono ?_; rintro e w2 ⟨rfl, rfl⟩)
    go_ret2
    exact ⟨by simp, rfl⟩
  clear hS
  have hC : Calls Try.prog 64 #[.int .i64 L] w fun e w' => e = .returned (.tuple #[.pointer (some ⟨w.heap.size + 3, 0, none⟩), .int .i64 0]) ∧
      w' = (((w.alloc (.cells (madeCells zeroSeg (l * 72)) 213)).alloc (.cells #[.slice (some ⟨w.heap.size, 0, none⟩) l l, .int .i64 0, .int .i64 l] 216)).alloc
        (.cells #[.pointer (some ⟨w.heap.size + 1, 0, none⟩), .int .i64 0, .int .i64 0, .int .i64 0, .int .i64 0, .int .i64 0, .int .i64 0, .int .i64 0, .int .i64 0, .int .i64 0, .int .i64 0, .int .i64 0, .int .i64 0, .int .i64 0, .int .i64 0, .int .i64 0, .int .i64 0, .int .i64 0, .int .i64 0, .int .i64 0, .int .i64 0] 140)).alloc
        (.cells #[.pointer (some ⟨w.heap.size + 2, 0, none⟩)] 121) := by
    clear hL h1 h2
    go_enter Try.func64, Try.ntmps64
    go_wp2_with (go_at_call 110; refine hP.mono ?_; rintro e w2 ⟨rfl, rfl⟩)
    go_ret2
    exact ⟨by simp, rfl⟩
  clear hP hL h1 h2
  go_enter Try.func14, Try.ntmps14
  go_wp2_with (go_at_call 64; refine hC.mono ?_; rintro e w2 ⟨rfl, rfl⟩)
  go_ret2
  exact ⟨by simp, rfl⟩

theorem heap_alloc_if (w : World) (o : Obj) (k : Nat) : (w.alloc o).heap[k]? = if k = w.heap.size then some o else w.heap[k]? := by
  show (w.heap.push o)[k]? = _
  rw [Array.getElem?_push]

theorem new_rep (l : Nat) (h1 : 8 ≤ l) (h2 : l ≤ 1024) (w : World) : Rep ⟨w.heap.size + 4, w.heap.size + 3, w.heap.size + 2, w.heap.size + 1, w.heap.size⟩ (Hp.empty l) (newWorld l w) ∧ Below w.heap.size w (newWorld l w) ∧ (newWorld l w).heap.size = w.heap.size + 5 := by
  refine ⟨⟨?_, ?_, ?_, ?_, ?_, by simp, ⟨Nat.lt_of_lt_of_le (by omega) h1, h2, Nat.zero_le _, ?_, ?_, ?_, ?_, fun _ => Nat.zero_le _, ?_⟩⟩, ?_, ?_⟩
  · unfold newWorld; rw [heap_alloc_if, if_pos (by simp)]; rfl
  · unfold newWorld; rw [heap_alloc_if, if_neg (by simp), heap_alloc_if, if_pos (by simp)]
  · refine ⟨_, by unfold newWorld; rw [heap_alloc_if, if_neg (by simp), heap_alloc_if, if_neg (by simp), heap_alloc_if, if_pos (by simp)], rfl, rfl, ?_⟩
    intro i hi
    have e : (Hp.empty l).curCell i = .int .i64 0 := by unfold Hp.curCell Hp.empty; simp
    rw [e]
    match i, hi with
    | 0, _ | 1, _ | 2, _ | 3, _ | 4, _ | 5, _ | 6, _ | 7, _ | 8, _ | 9, _ | 10, _ | 11, _ | 12, _ | 13, _ | 14, _ | 15, _ | 16, _ | 17, _ | 18, _ | 19, _ => rfl
    | i + 20, h => omega
  · unfold newWorld; rw [heap_alloc_if, if_neg (by simp), heap_alloc_if, if_neg (by simp), heap_alloc_if, if_neg (by simp), heap_alloc_if, if_pos (by simp)]; rfl
  · refine ⟨madeCells zeroSeg (l * 72), by unfold newWorld; rw [heap_alloc_if, if_neg (by simp; omega), heap_alloc_if, if_neg (by simp; omega), heap_alloc_if, if_neg (by simp; omega), heap_alloc_if, if_neg (by simp), heap_alloc_if, if_pos rfl], size_madeCells _ _, fun i hi => ?_⟩
    have hi' : i < l * 72 := hi
    rw [madeCells_get _ _ _ hi', show zeroSeg.size = 72 from rfl, zeroSeg_at _ (Nat.mod_lt _ (by omega))]
    unfold Hp.cell Hp.empty
    simp
  · intro k s h; cases h
  · intro k s h; cases h
  · intro k s h; cases h
  · intro k s h; cases h
  · intro k j s h; cases h
  · exact (((((Below.refl _ w).alloc (Nat.le_refl _) _).alloc (by simp) _).alloc (by simp; omega) _).alloc (by simp; omega) _).alloc (by simp; omega) _
  · simp [newWorld]
end Go.Proofs.Ytecemlamoiepdaa
