/- A heap that is none (nil, or one that New did not make): what each function answers; it leaves the world alone. -/
import Derived.Test.YtecemlamoiepdaaAwakeF
namespace Go.Proofs.Ytecemlamoiepdaa
open Go.RowKit

/-- a heap that is none: nil, or a box without cards -/
def NoneH (w : World) (v : Value) : Prop := v = .pointer none ∨ ∃ b, v = .pointer (some ⟨b, 0, none⟩) ∧ b < w.heap.size ∧ w.cell? ⟨b, 0, none⟩ = some (.pointer none)

theorem NoneH.below {w w' : World} {v : Value} (h : NoneH w v) (hb : Below w.heap.size w w') : NoneH w' v := by
  rcases h with rfl | ⟨b, rfl, hlt, hc⟩
  · exact .inl rfl
  · exact .inr ⟨b, rfl, Nat.lt_of_lt_of_le hlt hb.size, (World.cell?_of_block (w := w) (hb.block b hlt)).trans hc⟩

theorem hnone_yes {w : World} {v : Value} (h : NoneH w v) : Calls Try.prog 85 #[v] w fun e w' => e = .returned (.bool true) ∧ w' = w := by
  rcases h with rfl | ⟨b, rfl, hlt, hc⟩
  · go_enter Try.func85, Try.ntmps85
    go_wp2
    go_ret
    exact ⟨rfl, rfl⟩
  · go_enter Try.func85, Try.ntmps85
    go_wp2
    go_ret
    exact ⟨rfl, rfl⟩

theorem at_none {w : World} {v : Value} (h : NoneH w v) (x : Nat) (hx : x < 18446744073709551616) (T K : Int) :
    Calls Try.prog 116 #[v, .int .u64 x, .int .i64 T, .int .i64 K] w fun e w' => e = .returned (.tuple #[.int .i64 0, .bool false]) ∧ Below w.heap.size w w' := by
  cases h1 : addrOk x with
  | false =>
    have hA := addr_no x hx h1 w
    have H := Lib.hid h
    clear h h1
    go_enter Try.func116, Try.ntmps116
    go_wp2_with fail
    refine hA.mono ?_
    rintro e w1 ⟨rfl, b1⟩
    have hN := hnone_yes (H.out.below b1)
    clear hA
    go_wp2_with fail
    refine hN.mono ?_
    rintro e w2 ⟨rfl, rfl⟩
    clear hN
    go_wp2_with fail
    go_ret2
    exact ⟨by simp, b1⟩
  | true =>
    have hA := addr_yes x hx h1 w
    have H := Lib.hid h
    clear h h1
    go_enter Try.func116, Try.ntmps116
    go_wp2_with fail
    refine hA.mono ?_
    rintro e w1 ⟨rfl, b1⟩
    have hN := hnone_yes (H.out.below b1)
    clear hA
    go_wp2_with fail
    refine hN.mono ?_
    rintro e w2 ⟨rfl, rfl⟩
    clear hN
    go_wp2_with fail
    go_ret2
    exact ⟨by simp, b1⟩

set_option maxRecDepth 10000 in
set_option maxHeartbeats 1000000 in
theorem object_none {w : World} {v : Value} (h : NoneH w v) (x : Nat) (hx : x < 18446744073709551616) :
    Calls Try.prog 76 #[v, .int .u64 x] w fun e w' => e = .returned (.tuple #[.int .i64 0, .int .i64 0, .int .i64 0, .int .u64 0, .bool false]) ∧ Below w.heap.size w w' := by
  have H := Lib.hid h
  have i0 : ∀ w, (Instr.index 185 (.agg #[.int .i64 2, .int .i64 3]) (.int .i64 0)).run Try.prog w = .ok (.int .i64 2) w := fun _ => by kernel_rfl
  have i1 : ∀ w, (Instr.index 185 (.agg #[.int .i64 2, .int .i64 3]) (.int .i64 1)).run Try.prog w = .ok (.int .i64 3) w := fun _ => by kernel_rfl
  go_enter Try.func76, Try.ntmps76
  clear h
  go_wp2_with fail
  go_loopw [16] (fun i wr => ∃ k : Nat, k ≤ 2 ∧ i = .int .i64 k ∧ Below w.heap.size w wr) (fun i _ => 2 - (intOf i).toNat)
  case atStart => exact ⟨0, by omega, rfl, Below.refl _ _⟩
  case round =>
    obtain ⟨k, hk, rfl, hB⟩ := hrel
    have HB := Lib.hid hB
    have hA := fun (K : Int) => at_none (H.out.below hB) x hx 3 K
    clear hB
    rcases (show k = 0 ∨ k = 1 ∨ k = 2 by omega) with rfl | rfl | rfl
    · go_wp2_with fail
      refine (hA 2).mono ?_
      rintro e w1 ⟨rfl, b1⟩
      have B1 := Lib.hid b1
      clear hA b1
      go_wp2_with fail
      go_roundw
      case rel => exact ⟨1, by omega, by go_num, HB.out.trans (B1.out.mono HB.out.size)⟩
      case measure => simp [intOf]
    · go_wp2_with fail
      refine (hA 3).mono ?_
      rintro e w1 ⟨rfl, b1⟩
      have B1 := Lib.hid b1
      clear hA b1
      go_wp2_with fail
      go_roundw
      case rel => exact ⟨2, by omega, by go_num, HB.out.trans (B1.out.mono HB.out.size)⟩
      case measure => simp [intOf]
    · clear hA
      go_wp2_with fail
      exact bodyPost_ret (v := .tuple #[.int .i64 0, .int .i64 0, .int .i64 0, .int .u64 0, .bool false]) (by simp [results, Try.results76, go_sem]) rfl ⟨rfl, HB.out⟩

set_option maxHeartbeats 800000 in
theorem type_none {w : World} {v : Value} (h : NoneH w v) (x : Nat) (hx : x < 18446744073709551616) :
    Calls Try.prog 39 #[v, .int .u64 x] w fun e w' => e = .returned (.int .i64 0) ∧ Below w.heap.size w w' := by
  have hA := object_none h x hx
  clear h
  go_enter Try.func39, Try.ntmps39
  go_wp2_with fail
  refine hA.mono ?_
  rintro e w1 ⟨rfl, b1⟩
  clear hA
  go_wp2_with fail
  go_ret
  exact ⟨by simp, b1⟩

set_option maxHeartbeats 800000 in
theorem len_none {w : World} {v : Value} (h : NoneH w v) (x : Nat) (hx : x < 18446744073709551616) :
    Calls Try.prog 40 #[v, .int .u64 x] w fun e w' => e = .returned (.int .i64 0) ∧ Below w.heap.size w w' := by
  have hA := object_none h x hx
  clear h
  go_enter Try.func40, Try.ntmps40
  go_wp2_with fail
  refine hA.mono ?_
  rintro e w1 ⟨rfl, b1⟩
  clear hA
  go_wp2_with fail
  go_ret
  exact ⟨by simp, b1⟩

set_option maxHeartbeats 800000 in
theorem field_none {w : World} {v : Value} (h : NoneH w v) (x : Nat) (hx : x < 18446744073709551616) (K I : Int) :
    Calls Try.prog 73 #[v, .int .u64 x, .int .i64 K, .int .i64 I] w fun e w' => e = .returned (.tuple #[.int .i64 0, .int .i64 3]) ∧ Below w.heap.size w w' := by
  have hA := object_none h x hx
  clear h
  go_enter Try.func73, Try.ntmps73
  go_wp2_with fail
  refine hA.mono ?_
  rintro e w1 ⟨rfl, b1⟩
  clear hA
  go_wp2_with fail
  go_ret2
  exact ⟨by simp, b1⟩

set_option maxHeartbeats 800000 in
theorem get_none {w : World} {v : Value} (h : NoneH w v) (x : Nat) (hx : x < 18446744073709551616) (K I : Int) :
    Calls Try.prog 41 #[v, .int .u64 x, .int .i64 K, .int .i64 I] w fun e w' => e = .returned (.tuple #[.int .u64 0, .int .i64 3]) ∧ Below w.heap.size w w' := by
  have hA := field_none h x hx K I
  clear h
  go_enter Try.func41, Try.ntmps41
  go_wp2_with fail
  refine hA.mono ?_
  rintro e w1 ⟨rfl, b1⟩
  clear hA
  go_wp2_with fail
  go_ret2
  exact ⟨by simp, b1⟩

set_option maxHeartbeats 800000 in
theorem set_none {w : World} {v : Value} (h : NoneH w v) (x : Nat) (hx : x < 18446744073709551616) (K I : Int) (y : Nat) :
    Calls Try.prog 35 #[v, .int .u64 x, .int .i64 K, .int .i64 I, .int .u64 y] w fun e w' => e = .returned (.int .i64 3) ∧ Below w.heap.size w w' := by
  have hA := field_none h x hx K I
  clear h
  go_enter Try.func35, Try.ntmps35
  go_wp2_with fail
  refine hA.mono ?_
  rintro e w1 ⟨rfl, b1⟩
  clear hA
  go_wp2_with fail
  go_ret
  exact ⟨by simp, b1⟩

set_option maxHeartbeats 800000 in
theorem put_nil {w : World} {v : Value} (h : NoneH w v) (K T : Int) (l : Value) :
    Calls Try.prog 69 #[v, .int .i64 K, .int .i64 T, l] w fun e w' => e = .returned (.tuple #[.int .u64 0, .int .i64 2]) ∧ Below w.heap.size w w' := by
  have hN := hnone_yes h
  clear h
  go_enter Try.func69, Try.ntmps69
  go_wp2_with fail
  refine hN.mono ?_
  rintro e w1 ⟨rfl, rfl⟩
  clear hN
  go_wp2_with fail
  go_ret2
  exact ⟨by simp, Below.refl _ _⟩

set_option maxHeartbeats 400000 in
theorem fris_none {w : World} {v : Value} (h : NoneH w v) (x : Nat) (hx : x < 18446744073709551616) (K L : Int) (hK : (0 == K) = false) :
    Calls Try.prog 66 #[v, .int .u64 x, .int .i64 K, .int .i64 L] w fun e w' => e = .returned (.bool false) ∧ Below w.heap.size w w' := by
  have hT := type_none h x hx
  clear h
  go_enter Try.func66, Try.ntmps66
  go_wp2_with fail
  refine hT.mono ?_
  rintro e w1 ⟨rfl, b1⟩
  clear hT
  go_wp2_with fail
  go_ret
  exact ⟨ret_b (by simp), b1⟩

set_option maxHeartbeats 800000 in
theorem count_none {w : World} {v : Value} (h : NoneH w v) (x : Nat) (hx : x < 18446744073709551616) :
    Calls Try.prog 25 #[v, .int .u64 x] w fun e w' => e = .returned (.int .i64 0) ∧ Below w.heap.size w w' := by
  have hA := fris_none h x hx 7 1 rfl
  clear h
  go_enter Try.func25, Try.ntmps25
  go_wp2_with fail
  refine hA.mono ?_
  rintro e w1 ⟨rfl, b1⟩
  clear hA
  go_wp2_with fail
  go_ret
  exact ⟨by simp, b1⟩

set_option maxHeartbeats 800000 in
theorem fields_none {w : World} {v : Value} (h : NoneH w v) (x : Nat) (hx : x < 18446744073709551616) :
    Calls Try.prog 20 #[v, .int .u64 x] w fun e w' => e = .returned (.int .i64 0) ∧ Below w.heap.size w w' := by
  have hA := fris_none h x hx 8 2 rfl
  clear h
  go_enter Try.func20, Try.ntmps20
  go_wp2_with fail
  refine hA.mono ?_
  rintro e w1 ⟨rfl, b1⟩
  clear hA
  go_wp2_with fail
  go_ret
  exact ⟨by simp, b1⟩

set_option maxHeartbeats 800000 in
theorem next_none {w : World} {v : Value} (h : NoneH w v) (x : Nat) (hx : x < 18446744073709551616) :
    Calls Try.prog 18 #[v, .int .u64 x] w fun e w' => e = .returned (.tuple #[.int .u64 0, .int .i64 3]) ∧ Below w.heap.size w w' := by
  have hA := fris_none h x hx 8 2 rfl
  clear h
  go_enter Try.func18, Try.ntmps18
  go_wp2_with fail
  refine hA.mono ?_
  rintro e w1 ⟨rfl, b1⟩
  clear hA
  go_wp2_with fail
  go_ret2
  exact ⟨by simp, b1⟩

set_option maxHeartbeats 800000 in
theorem frfield_none {w : World} {v : Value} (h : NoneH w v) (x : Nat) (hx : x < 18446744073709551616) (I : Int) :
    Calls Try.prog 21 #[v, .int .u64 x, .int .i64 I] w fun e w' => e = .returned (.tuple #[.int .u64 0, .int .i64 3]) ∧ Below w.heap.size w w' := by
  have hA := fris_none h x hx 8 2 rfl
  clear h
  go_enter Try.func21, Try.ntmps21
  go_wp2_with fail
  refine hA.mono ?_
  rintro e w1 ⟨rfl, b1⟩
  clear hA
  go_wp2_with fail
  go_ret2
  exact ⟨by simp, b1⟩

set_option maxHeartbeats 400000 in
theorem kind_none {w : World} {v : Value} (h : NoneH w v) (x : Nat) (hx : x < 18446744073709551616) :
    Calls Try.prog 17 #[v, .int .u64 x] w fun e w' => e = .returned (.tuple #[.int .i64 0, .int .i64 3]) ∧ Below w.heap.size w w' := by
  have hG := get_none h x hx 8 0
  have hI := fun w => int_yes 0 (by omega) rfl w
  clear h
  go_enter Try.func17, Try.ntmps17
  go_wp2_with fail
  refine hG.mono ?_
  rintro e w1 ⟨rfl, b1⟩
  clear hG
  go_wp2_with fail
  refine (hI _).mono ?_
  rintro e w2 ⟨rfl, rfl⟩
  clear hI
  go_wp2_with fail
  go_ret2
  exact ⟨by simp, b1⟩

set_option maxHeartbeats 1000000 in
theorem make_nil {w : World} {hv : Value} (h : NoneH w hv) (K Mo : Int) (k m : Nat) (hK : K = k) (hMo : Mo = m) (h1 : 1 ≤ k) (h2 : k ≤ 13) (h4 : m < 281474976710656) (v : Value) (ws : List Nat) (hsl : SlWords w v ws) (hl : ws.length ≤ 62) :
    Calls Try.prog 33 #[hv, .int .i64 K, .int .u64 Mo, v] w fun e w' =>
      e = .returned (.tuple #[.int .u64 0, .int .i64 2]) ∧ Below w.heap.size w w' := by
  subst hK hMo
  have hA := header_okI (k : Int) 0 (m : Int) k 0 m rfl rfl rfl h1 h2 (by omega) h4 w
  have hB := header_okI (k : Int) (ws.length : Int) (m : Int) k ws.length m rfl rfl rfl h1 h2 hl h4 w
  have hR := raw_any (k : Int) w (by omega)
  rw [Int.toNat_natCast] at hR
  obtain ⟨a, cap, hva⟩ : ∃ a cap, v = .slice a ws.length cap := by
    rcases hsl with ⟨rfl, rfl⟩ | ⟨b, o, cap, rfl, _⟩
    · exact ⟨none, 0, rfl⟩
    · exact ⟨_, _, rfl⟩
  subst hva
  have HV := Lib.hid hsl
  have H := Lib.hid h
  clear hsl h
  go_enter Try.func33, Try.ntmps33
  go_wp2_with fail
  refine hA.mono ?_
  rintro e w2 ⟨rfl, rfl⟩
  go_wp2_with fail
  refine hB.mono ?_
  rintro e w2 ⟨rfl, rfl⟩
  go_wp2_with fail
  refine hR.mono ?_
  rintro e w2 ⟨rfl, rfl⟩
  clear hA hB hR
  have hcell : SlCells (w2.alloc (.cells #[wv (headerOf k ws.length m)] 29)) (.slice a ws.length cap) ws.length (ws.map wv) := (HV.out.below ((Below.refl _ _).alloc (Nat.le_refl _) _)).cells
  go_wp2_with (at_builtin; refine wpList_app E_word rfl _ _ rfl (.slice (some ⟨w2.heap.size, 0, none⟩) 1 1) 1 [wv (headerOf k ws.length m)] rfl (OwnW.one w2 (headerOf k ws.length m)) _ ws.length (ws.map wv) rfl hcell (by simp) (by simp [wv, Value.oneCell']) (by unfold maxLen; omega) (by omega) ?_; intro v' w3 hown hgrow hat)
  have v3 : Below w2.heap.size w2 w3 := Below.grownW ((Below.refl _ _).alloc (Nat.le_refl _) _) hgrow (fun q hq => by
    simp only [Value.ownBlock, Option.some.injEq] at hq; omega)
  have hP := put_nil (H.out.below v3) (rawK k : Nat) 3 v'
  have V3 := Lib.hid v3
  clear hown hgrow hat v3 hcell
  refine hP.mono ?_
  rintro e w4 ⟨rfl, b4⟩
  go_wp2_with fail
  go_ret2
  exact ⟨by simp, V3.out.trans (b4.mono V3.out.size)⟩

set_option maxRecDepth 10000 in
set_option maxHeartbeats 1000000 in
theorem extend_nil {w : World} {hv : Value} (h : NoneH w hv) (v : Value) (vs : List Nat) (hsl : SlWords w v vs) (hl : vs.length ≤ 61) :
    Calls Try.prog 23 #[hv, .int .u64 20, v] w fun en w' => en = .returned (.tuple #[.int .u64 0, .int .i64 2]) ∧ Below w.heap.size w w' := by
  obtain ⟨a, cap, hva⟩ : ∃ a cap, v = .slice a vs.length cap := by
    rcases hsl with ⟨rfl, rfl⟩ | ⟨b, o, cap, rfl, _⟩
    · exact ⟨none, 0, rfl⟩
    · exact ⟨_, _, rfl⟩
  subst hva
  have HV := Lib.hid hsl
  have H := Lib.hid h
  have hcell : SlCells (w.alloc (.cells #[wv 20] 29)) (.slice a vs.length cap) vs.length (vs.map wv) := (HV.out.below ((Below.refl _ _).alloc (Nat.le_refl _) _)).cells
  clear hsl h
  go_enter Try.func23, Try.ntmps23
  go_wp2_with (at_builtin; refine wpList_app E_word rfl _ _ rfl (.slice (some ⟨w.heap.size, 0, none⟩) 1 1) 1 [wv 20] rfl (OwnW.one w 20) _ vs.length (vs.map wv) rfl hcell (by simp) (by simp [wv, Value.oneCell']) (by unfold maxLen; omega) (by omega) ?_; intro v' w3 hown hgrow hat)
  have v3 : Below w.heap.size w w3 := Below.grownW ((Below.refl _ _).alloc (Nat.le_refl _) _) hgrow (fun q hq => by
    simp only [Value.ownBlock, Option.some.injEq] at hq; omega)
  have ho : OwnW w3 v' (20 :: vs) := by unfold OwnW; simpa [Nat.add_comm] using hown
  have hM := make_nil (H.out.below v3) 7 0 7 0 rfl rfl (by omega) (by omega) (by omega) v' _ ho.sl (by simp; omega)
  have V3 := Lib.hid v3
  clear hown hgrow hat v3 hcell ho
  refine hM.mono ?_
  rintro e w4 ⟨rfl, b4⟩
  go_wp2_with fail
  go_ret2
  exact ⟨by simp, V3.out.trans (b4.mono V3.out.size)⟩

set_option maxRecDepth 10000 in
set_option maxHeartbeats 1000000 in
theorem push_nil {w : World} {hv : Value} (h : NoneH w hv) (v : Value) (vs : List Nat) (hsl : SlWords w v vs) (hl : vs.length ≤ 60) :
    Calls Try.prog 19 #[hv, .int .i64 0, .int .u64 20, v] w fun en w' => en = .returned (.tuple #[.int .u64 0, .int .i64 2]) ∧ Below w.heap.size w w' := by
  obtain ⟨a, cap, hva⟩ : ∃ a cap, v = .slice a vs.length cap := by
    rcases hsl with ⟨rfl, rfl⟩ | ⟨b, o, cap, rfl, _⟩
    · exact ⟨none, 0, rfl⟩
    · exact ⟨_, _, rfl⟩
  subst hva
  have HV := Lib.hid hsl
  have H := Lib.hid h
  have hF : Calls Try.prog 67 #[.int .i64 0] w fun e w' => e = .returned (.tuple #[.int .u64 (0 : Nat), .int .i64 0]) ∧ w' = w := fix_yes 0 (by omega) (by omega) w
  have hcell : SlCells (w.alloc (.cells #[wv 0, wv 20] 29)) (.slice a vs.length cap) vs.length (vs.map wv) := (HV.out.below ((Below.refl _ _).alloc (Nat.le_refl _) _)).cells
  have HC := Lib.hid hcell
  have HO := Lib.hid (OwnW.two w 0 20)
  clear hsl h hcell
  go_enter Try.func19, Try.ntmps19
  go_wp2_with fail
  refine hF.mono ?_
  rintro en w0 ⟨rfl, rfl⟩
  clear hF
  go_wp2_with (at_builtin; refine wpList_app E_word rfl _ _ rfl (.slice (some ⟨w0.heap.size, 0, none⟩) 2 2) 2 [wv 0, wv 20] rfl HO.out _ vs.length (vs.map wv) rfl HC.out (by simp) (by simp [wv, Value.oneCell']) (by unfold maxLen; omega) (by omega) ?_; intro v' w3 hown hgrow hat)
  have v3 : Below w0.heap.size w0 w3 := Below.grownW ((Below.refl _ _).alloc (Nat.le_refl _) _) hgrow (fun q hq => by
    simp only [Value.ownBlock, Option.some.injEq] at hq; omega)
  have ho : OwnW w3 v' (0 :: 20 :: vs) := by unfold OwnW; simp only [List.length_cons]; rw [show vs.length + 1 + 1 = 2 + vs.length by omega]; simpa using hown
  have hM := make_nil (H.out.below v3) 8 0 8 0 rfl rfl (by omega) (by omega) (by omega) v' _ ho.sl (by simp; omega)
  have V3 := Lib.hid v3
  clear hown hgrow hat v3 HC HO ho
  refine hM.mono ?_
  rintro e w4 ⟨rfl, b4⟩
  go_wp2_with fail
  go_ret2
  exact ⟨by simp, V3.out.trans (b4.mono V3.out.size)⟩

def upE (up : Int) : Nat := if up < 0 ∨ 65536 < up then 4 else 3
theorem upE_ne (up : Int) : ((upE up : Nat) : Int) ≠ 0 := by unfold upE; split <;> simp

set_option maxHeartbeats 1000000 in
theorem above_none {w : World} {hv : Value} (h : NoneH w hv) (x : Nat) (hx : x < 18446744073709551616) (up : Int) :
    Calls Try.prog 68 #[hv, .int .u64 x, .int .i64 up] w fun en w' => en = .returned (.tuple #[.int .u64 0, .int .i64 (upE up)]) ∧ Below w.heap.size w w' := by
  unfold upE
  by_cases c0 : up < 0
  · rw [if_pos (.inl c0)]
    clear h
    go_enter Try.func68, Try.ntmps68
    go_wp2_with fail
    go_ret2
    exact ⟨by simp, Below.refl _ _⟩
  · by_cases c1 : 65536 < up
    · rw [if_pos (.inr c1)]
      clear h
      go_enter Try.func68, Try.ntmps68
      go_wp2_with fail
      go_ret2
      exact ⟨by simp, Below.refl _ _⟩
    · rw [if_neg (by omega)]
      obtain ⟨n, rfl⟩ := Int.eq_ofNat_of_zero_le (show 0 ≤ up by omega)
      have hG := get_none h x hx 7 0
      have hI := fris_none h x hx 7 1 rfl
      clear h
      go_enter Try.func68, Try.ntmps68
      go_wp2_with fail
      go_loopw [6, 16] (fun u i wr => u = .int .u64 x ∧ i = .int .i64 0 ∧ wr = w) (fun _ i _ => (intOf i).toNat)
      case atStart => exact ⟨rfl, rfl, rfl⟩
      case round =>
        obtain ⟨rfl, rfl, rfl⟩ := hrel
        by_cases hn : n = 0
        · subst hn
          clear hG
          go_wp2_with fail
          refine hI.mono ?_
          rintro en w1 ⟨rfl, b1⟩
          clear hI
          go_wp2_with fail
          go_ret2
          exact ⟨by simp, b1⟩
        · have hp : 0 < n := by omega
          clear hI
          go_wp2_with fail
          refine hG.mono ?_
          rintro en w1 ⟨rfl, b1⟩
          clear hG
          go_wp2_with fail
          go_ret2
          exact ⟨by simp, b1⟩

set_option maxHeartbeats 1000000 in
theorem frget_none {w : World} {hv : Value} (h : NoneH w hv) (x : Nat) (hx : x < 18446744073709551616) (up i : Int) :
    Calls Try.prog 24 #[hv, .int .u64 x, .int .i64 up, .int .i64 i] w fun en w' => en = .returned (.tuple #[.int .u64 0, .int .i64 (upE up)]) ∧ Below w.heap.size w w' := by
  have hA := above_none h x hx up
  have hne : (((upE up : Nat) : Int) != 0) = true := by rw [bne_iff_ne]; exact upE_ne up
  generalize upE up = u at *
  clear h
  go_enter Try.func24, Try.ntmps24
  go_wp2_with fail
  refine hA.mono ?_
  rintro en w1 ⟨rfl, b1⟩
  clear hA
  go_wp2_with fail
  go_ret2
  exact ⟨by simp, b1⟩

set_option maxHeartbeats 1000000 in
theorem frput_none {w : World} {hv : Value} (h : NoneH w hv) (x y : Nat) (hx : x < 18446744073709551616) (up i : Int) :
    Calls Try.prog 22 #[hv, .int .u64 x, .int .i64 up, .int .i64 i, .int .u64 y] w fun en w' => en = .returned (.int .i64 (upE up)) ∧ Below w.heap.size w w' := by
  have hA := above_none h x hx up
  have hne : (((upE up : Nat) : Int) != 0) = true := by rw [bne_iff_ne]; exact upE_ne up
  generalize upE up = u at *
  clear h
  go_enter Try.func22, Try.ntmps22
  go_wp2_with fail
  refine hA.mono ?_
  rintro en w1 ⟨rfl, b1⟩
  clear hA
  go_wp2_with fail
  go_ret
  exact ⟨rfl, b1⟩
end Go.Proofs.Ytecemlamoiepdaa
