/- lists.Apply, a primitive at a time: list, length, reverse; where there is no heap, no such primitive, too few arguments. -/
import Derived.Test.YtecemlamoiepdaaLists4
namespace Go.Proofs.Ytecemlamoiepdaa
open Go.RowKit

theorem idx0 : ∀ w : World, (Instr.index 156 (.agg tblC) (.int .i64 0)).run Try.prog w = .ok (.agg #[.string ⟨#[99, 111, 110, 115]⟩, .int .i64 2, .int .i64 2]) w := fun _ => by kernel_rfl
theorem idx1 : ∀ w : World, (Instr.index 156 (.agg tblC) (.int .i64 1)).run Try.prog w = .ok (.agg #[.string ⟨#[99, 97, 114]⟩, .int .i64 1, .int .i64 1]) w := fun _ => by kernel_rfl
theorem idx4 : ∀ w : World, (Instr.index 156 (.agg tblC) (.int .i64 4)).run Try.prog w = .ok (.agg #[.string ⟨#[99, 97, 100, 114]⟩, .int .i64 1, .int .i64 1]) w := fun _ => by kernel_rfl
theorem idx12 : ∀ w : World, (Instr.index 156 (.agg tblC) (.int .i64 12)).run Try.prog w = .ok (.agg #[.string ⟨#[108, 105, 115, 116]⟩, .int .i64 0, .int .i64 (-1)]) w := fun _ => by kernel_rfl
theorem idx13 : ∀ w : World, (Instr.index 156 (.agg tblC) (.int .i64 13)).run Try.prog w = .ok (.agg #[.string ⟨#[108, 101, 110, 103, 116, 104]⟩, .int .i64 1, .int .i64 1]) w := fun _ => by kernel_rfl
theorem idx15 : ∀ w : World, (Instr.index 156 (.agg tblC) (.int .i64 15)).run Try.prog w = .ok (.agg #[.string ⟨#[114, 101, 118, 101, 114, 115, 101]⟩, .int .i64 1, .int .i64 1]) w := fun _ => by kernel_rfl

set_option maxRecDepth 100000 in
set_option maxHeartbeats 2000000 in
theorem apply_list {hb : HB} {M : Hp} {w : World} (r : Rep hb M w) {n0 : Nat} (pk : PK M n0) (sv : Value) (ws : List Nat) (hs : SlWords w sv ws) (hsb : ∀ k, sv.ownBlock = some k → ¬ hb.has k)
    (hx : ∀ x ∈ ws, x < 18446744073709551616) (hroom : n0 + ws.length ≤ 32 * M.limit) :
    Calls Try.prog 58 #[.pointer (some ⟨hb.h, 0, none⟩), .int .i64 12, sv] w fun e w' => ∃ (M' : Hp) (v : Nat), e = .returned (.tuple #[.int .u64 (v : Nat), .int .i64 0]) ∧ Rep hb M' w' ∧ PK M' (n0 + ws.length) ∧ M.Grown M' ∧ LSeg M' v (rowL n0 ws) 20 ∧ Moves hb w w' := by
  have c0 := r.h0
  have hC : ∀ w1, Below w.heap.size w w1 → _ := fun w1 b => row_any (v0 := 20) (q := 20) (tl := []) (r.below b) pk rfl (by omega) sv ws (hs.below b) hsb hx hroom
  rw [List.append_nil] at hC
  obtain ⟨a, cap, rfl⟩ := hs.slice
  obtain ⟨n, hn⟩ : ∃ n, n = ws.length := ⟨_, rfl⟩
  rw [← hn] at hC ⊢
  have HC := Lib.hid hC
  clear r pk hs hsb hx hroom hn hC
  have hid := idx12
  go_enter Try.func58, Try.ntmps58
  go_wp2_with fail
  refine (table_any _).mono ?_
  rintro e w1 ⟨rfl, b1⟩
  have B1 := Lib.hid b1
  have hc1 := HC.out _ (b1.alloc b1.size (.cells #[.string ⟨#[108, 105, 115, 116]⟩, .int .i64 0, .int .i64 (-1)] 155))
  clear b1 c0
  go_wp2_with fail
  refine hc1.mono ?_
  rintro e w2 ⟨M', v, rfl, h1, h2, h3, h4, h5⟩
  have H := Lib.hid (And.intro h1 (And.intro h2 (And.intro h3 (And.intro h4 h5))))
  clear h1 h2 h3 h4 h5 hc1
  go_wp2_with fail
  go_ret2
  obtain ⟨h1, h2, h3, h4, h5⟩ := H.out
  exact ⟨M', v, by simp, h1, h2, h3, h4, (Moves.of_below (B1.out.alloc B1.out.size _)).trans h5⟩

/-- one word that is handed -/
def OneArg (w : World) (sv : Value) (x : Nat) : Prop := ∃ b o cap, sv = .slice (some ⟨b, o, none⟩) 1 cap ∧ b < w.heap.size ∧ w.cell? ⟨b, o, none⟩ = some (.int .u64 (x : Nat))

set_option maxRecDepth 100000 in
set_option maxHeartbeats 2000000 in
theorem apply_len {hb : HB} {M : Hp} {w : World} (r : Rep hb M w) {v : Nat} {l : List (Nat × Nat)} (hL : Lst M v l) (hv : v < 18446744073709551616) (hl : l.length ≤ 32768) (sv : Value) (hs : OneArg w sv v) :
    Calls Try.prog 58 #[.pointer (some ⟨hb.h, 0, none⟩), .int .i64 13, sv] w fun e w' => e = .returned (.tuple #[.int .u64 (l.length * 8 : Nat), .int .i64 0]) ∧ Below w.heap.size w w' := by
  have c0 := r.h0
  have hC : ∀ w1, Below w.heap.size w w1 → _ := fun w1 b => elements_len (r.below b) hL hv hl
  obtain ⟨bb, o, cap, rfl, hbl, hcell⟩ := hs
  obtain ⟨n, hn⟩ : ∃ n, n = l.length := ⟨_, rfl⟩
  rw [← hn] at hC ⊢
  have HC := Lib.hid hC
  clear r hL hv hl hn hC
  have hid := idx13
  go_enter Try.func58, Try.ntmps58
  go_wp2_with fail
  refine (table_any _).mono ?_
  rintro e w1 ⟨rfl, b1⟩
  have B1 := Lib.hid b1
  have hc1 := HC.out _ (b1.alloc b1.size (.cells #[.string ⟨#[108, 101, 110, 103, 116, 104]⟩, .int .i64 1, .int .i64 1] 155))
  have hcell1 : (w1.alloc (.cells #[.string ⟨#[108, 101, 110, 103, 116, 104]⟩, .int .i64 1, .int .i64 1] 155)).cell? ⟨bb, o, none⟩ = some (.int .u64 (v : Nat)) := ((b1.alloc b1.size _).cell (p := ⟨bb, o, none⟩) hbl).trans hcell
  clear b1 c0 hcell
  go_wp2_with fail
  refine hc1.mono ?_
  rintro e w2 ⟨rfl, b2⟩
  have B2 := Lib.hid b2
  clear b2 hc1
  go_wp2_with fail
  go_ret2
  exact ⟨by simp, (B1.out.alloc B1.out.size _).trans (B2.out.mono (B1.out.alloc B1.out.size _).size)⟩

set_option maxRecDepth 100000 in
set_option maxHeartbeats 2000000 in
theorem apply_rev {hb : HB} {M : Hp} {w : World} (r : Rep hb M w) {n0 : Nat} (pk : PK M n0) {v : Nat} {l : List (Nat × Nat)} (hL : Lst M v l) (hv : v < 18446744073709551616) (hroom : n0 + l.length ≤ 32 * M.limit) (sv : Value) (hs : OneArg w sv v) :
    Calls Try.prog 58 #[.pointer (some ⟨hb.h, 0, none⟩), .int .i64 15, sv] w fun e w' => ∃ (M' : Hp) (v' : Nat), e = .returned (.tuple #[.int .u64 (v' : Nat), .int .i64 0]) ∧ Rep hb M' w' ∧ PK M' (n0 + l.length) ∧ M.Grown M' ∧ LSeg M' v' (rowL n0 (l.map (·.2)).reverse) 20 ∧ Moves hb w w' := by
  have c0 := r.h0
  have hC : ∀ w1, Below w.heap.size w w1 → _ := fun w1 b => elements_rev (r.below b) pk hL hv hroom
  obtain ⟨bb, o, cap, rfl, hbl, hcell⟩ := hs
  have HC := Lib.hid hC
  clear r hL hv pk hroom hC
  have hid := idx15
  go_enter Try.func58, Try.ntmps58
  go_wp2_with fail
  refine (table_any _).mono ?_
  rintro e w1 ⟨rfl, b1⟩
  have B1 := Lib.hid b1
  have hc1 := HC.out _ (b1.alloc b1.size (.cells #[.string ⟨#[114, 101, 118, 101, 114, 115, 101]⟩, .int .i64 1, .int .i64 1] 155))
  have hcell1 : (w1.alloc (.cells #[.string ⟨#[114, 101, 118, 101, 114, 115, 101]⟩, .int .i64 1, .int .i64 1] 155)).cell? ⟨bb, o, none⟩ = some (.int .u64 (v : Nat)) := ((b1.alloc b1.size _).cell (p := ⟨bb, o, none⟩) hbl).trans hcell
  clear b1 c0 hcell
  go_wp2_with fail
  refine hc1.mono ?_
  rintro e w2 ⟨M', v', rfl, h1, h2, h3, h4, h5⟩
  have H := Lib.hid (And.intro h1 (And.intro h2 (And.intro h3 (And.intro h4 h5))))
  clear h1 h2 h3 h4 h5 hc1
  go_wp2_with fail
  go_ret2
  obtain ⟨h1, h2, h3, h4, h5⟩ := H.out
  exact ⟨M', v', by simp, h1, h2, h3, h4, (Moves.of_below (B1.out.alloc B1.out.size _)).trans h5⟩

set_option maxRecDepth 20000 in
set_option maxHeartbeats 1000000 in
/-- a cdr, then a car -/
theorem steps_cadr {hb : HB} {M : Hp} {w : World} (r : Rep hb M w) {x d y : Nat} (hx : x < 18446744073709551616) (hd : d < 18446744073709551616) (h1 : M.half x 1 = some d) (h2 : M.half d 0 = some y) (b : Nat) (hbl : b < w.heap.size) (c0 : w.cell? ⟨b, 0, none⟩ = some (.int .i64 1)) (c1 : w.cell? ⟨b, 1, none⟩ = some (.int .i64 0)) :
    Calls Try.prog 92 #[.pointer (some ⟨hb.h, 0, none⟩), .int .u64 x, .slice (some ⟨b, 0, none⟩) 2 2] w fun e w' => e = .returned (.tuple #[.int .u64 (y : Nat), .int .i64 0]) ∧ Below w.heap.size w w' := by
  have hC1 : ∀ w', Below w.heap.size w w' → _ := fun w' bb => cdr_ok (r.below bb) x hx h1
  have hC2 : ∀ w', Below w.heap.size w w' → _ := fun w' bb => car_ok (r.below bb) d hd h2
  have HC1 := Lib.hid hC1
  have HC2 := Lib.hid hC2
  have C0 := Lib.hid c0
  have C1 := Lib.hid c1
  clear r h1 h2 hx hd hC1 hC2 c0 c1
  go_enter Try.func92, Try.ntmps92
  go_wp2_with fail
  go_loopw [1, 8, 13] (fun xv ev iv wr => ∃ k : Nat, iv = .int .i64 k ∧ ev = .int .i64 0 ∧ ((k = 0 ∧ xv = .int .u64 (x : Nat)) ∨ (k = 1 ∧ xv = .int .u64 (d : Nat)) ∨ (k = 2 ∧ xv = .int .u64 (y : Nat))) ∧ Below w.heap.size w wr) (fun _ _ iv _ => 2 - (intOf iv).toNat)
  case atStart => exact ⟨0, rfl, rfl, .inl ⟨rfl, rfl⟩, Below.refl _ _⟩
  case round =>
    obtain ⟨k, rfl, rfl, hc, hB⟩ := hrel
    have B := Lib.hid hB
    rcases hc with ⟨rfl, rfl⟩ | ⟨rfl, rfl⟩ | ⟨rfl, rfl⟩
    · have c0 := (hB.cell (p := ⟨b, 0, none⟩) hbl).trans C0.out
      have hc := HC1.out _ hB
      clear hB
      go_wp2_with fail
      refine hc.mono ?_
      rintro e w2 ⟨rfl, b2⟩
      have B2 := Lib.hid (B.out.trans (b2.mono B.out.size))
      clear b2 hc
      go_wp2_with fail
      go_roundw
      case rel => exact ⟨1, rfl, rfl, .inr (.inl ⟨rfl, rfl⟩), B2.out⟩
      case measure => simp [intOf]
    · have c1 := (hB.cell (p := ⟨b, 1, none⟩) hbl).trans C1.out
      have hc := HC2.out _ hB
      clear hB
      go_wp2_with fail
      refine hc.mono ?_
      rintro e w2 ⟨rfl, b2⟩
      have B2 := Lib.hid (B.out.trans (b2.mono B.out.size))
      clear b2 hc
      go_wp2_with fail
      go_roundw
      case rel => exact ⟨2, rfl, rfl, .inr (.inr ⟨rfl, rfl⟩), B2.out⟩
      case measure => simp [intOf]
    · clear hB
      go_wp2_with fail
      go_ret2
      exact ⟨by simp, B.out⟩

set_option maxRecDepth 100000 in
set_option maxHeartbeats 2000000 in
theorem apply_cadr {hb : HB} {M : Hp} {w : World} (r : Rep hb M w) {x d y : Nat} (hx : x < 18446744073709551616) (hd : d < 18446744073709551616) (h1 : M.half x 1 = some d) (h2 : M.half d 0 = some y) (sv : Value) (hs : OneArg w sv x) :
    Calls Try.prog 58 #[.pointer (some ⟨hb.h, 0, none⟩), .int .i64 4, sv] w fun e w' => e = .returned (.tuple #[.int .u64 (y : Nat), .int .i64 0]) ∧ Below w.heap.size w w' := by
  have c0 := r.h0
  obtain ⟨bb, o, cap, rfl, hbl, hcell⟩ := hs
  have hC : ∀ w1, Below w.heap.size w w1 → _ := fun w1 b => steps_cadr ((r.below b).alloc (.cells #[.int .i64 1, .int .i64 0] 3)) hx hd h1 h2 w1.heap.size (by simp) (by simp) (by simp)
  have HC := Lib.hid hC
  clear r hx hd h1 h2 hC
  have hid := idx4
  go_enter Try.func58, Try.ntmps58
  go_wp2_with fail
  refine (table_any _).mono ?_
  rintro e w1 ⟨rfl, b1⟩
  have B1 := Lib.hid b1
  have hc1 := HC.out _ (b1.alloc b1.size (.cells #[.string ⟨#[99, 97, 100, 114]⟩, .int .i64 1, .int .i64 1] 155))
  have hcell1 : (w1.alloc (.cells #[.string ⟨#[99, 97, 100, 114]⟩, .int .i64 1, .int .i64 1] 155)).cell? ⟨bb, o, none⟩ = some (.int .u64 (x : Nat)) := ((b1.alloc b1.size _).cell (p := ⟨bb, o, none⟩) hbl).trans hcell
  simp only [World.size_alloc] at hc1
  clear b1 c0 hcell
  go_wp2_with fail
  refine hc1.mono ?_
  rintro e w2 ⟨rfl, b2⟩
  have B2 := Lib.hid b2
  clear b2 hc1
  go_wp2_with fail
  go_ret2
  have h3 := (B1.out.alloc B1.out.size (.cells #[.string ⟨#[99, 97, 100, 114]⟩, .int .i64 1, .int .i64 1] 155))
  have h4 := h3.alloc h3.size (.cells #[.int .i64 1, .int .i64 0] 3)
  exact ⟨by simp, h4.trans (B2.out.mono (by have := h4.size; simpa using this))⟩

set_option maxRecDepth 100000 in
set_option maxHeartbeats 2000000 in
/-- car of what is no pair -/
theorem apply_car_no {hb : HB} {M : Hp} {w : World} (r : Rep hb M w) {x : Nat} (hx : x < 18446744073709551616) (h1 : M.pairOf x = none) (sv : Value) (hs : OneArg w sv x) :
    Calls Try.prog 58 #[.pointer (some ⟨hb.h, 0, none⟩), .int .i64 1, sv] w fun e w' => e = .returned (.tuple #[.int .u64 0, .int .i64 3]) ∧ Below w.heap.size w w' := by
  have c0 := r.h0
  obtain ⟨bb, o, cap, rfl, hbl, hcell⟩ := hs
  have hC : ∀ w1, Below w.heap.size w w1 → _ := fun w1 b => car_no (r.below b) x hx h1
  have HC := Lib.hid hC
  clear r hx h1 hC
  have hid := idx1
  go_enter Try.func58, Try.ntmps58
  go_wp2_with fail
  refine (table_any _).mono ?_
  rintro e w1 ⟨rfl, b1⟩
  have B1 := Lib.hid b1
  have hc1 := HC.out _ (b1.alloc b1.size (.cells #[.string ⟨#[99, 97, 114]⟩, .int .i64 1, .int .i64 1] 155))
  have hcell1 : (w1.alloc (.cells #[.string ⟨#[99, 97, 114]⟩, .int .i64 1, .int .i64 1] 155)).cell? ⟨bb, o, none⟩ = some (.int .u64 (x : Nat)) := ((b1.alloc b1.size _).cell (p := ⟨bb, o, none⟩) hbl).trans hcell
  clear b1 c0 hcell
  go_wp2_with fail
  refine hc1.mono ?_
  rintro e w2 ⟨rfl, b2⟩
  have B2 := Lib.hid b2
  clear b2 hc1
  go_wp2_with fail
  go_ret2
  have h3 := (B1.out.alloc B1.out.size (.cells #[.string ⟨#[99, 97, 114]⟩, .int .i64 1, .int .i64 1] 155))
  exact ⟨by simp, h3.trans (B2.out.mono h3.size)⟩

set_option maxRecDepth 100000 in
set_option maxHeartbeats 2000000 in
/-- cons of one word -/
theorem apply_arity {hb : HB} {M : Hp} {w : World} (r : Rep hb M w) (a : Option Addr) (cap : Nat) :
    Calls Try.prog 58 #[.pointer (some ⟨hb.h, 0, none⟩), .int .i64 0, .slice a 1 cap] w fun e w' => e = .returned (.tuple #[.int .u64 0, .int .i64 5]) ∧ Below w.heap.size w w' := by
  have c0 := r.h0
  clear r
  have hid := idx0
  go_enter Try.func58, Try.ntmps58
  go_wp2_with fail
  refine (table_any _).mono ?_
  rintro e w1 ⟨rfl, b1⟩
  have B1 := Lib.hid b1
  clear b1 c0
  go_wp2_with fail
  go_ret2
  exact ⟨by simp, B1.out.alloc B1.out.size _⟩

set_option maxRecDepth 100000 in
set_option maxHeartbeats 2000000 in
/-- no heap -/
theorem apply_nil (n : Int) (v : Value) (w : World) :
    Calls Try.prog 58 #[.pointer none, .int .i64 n, v] w fun e w' => e = .returned (.tuple #[.int .u64 0, .int .i64 1]) ∧ w' = w := by
  go_enter Try.func58, Try.ntmps58
  go_wp2_with fail
  go_ret2
  exact ⟨by simp, rfl⟩

set_option maxRecDepth 100000 in
set_option maxHeartbeats 2000000 in
theorem apply_none (b : Nat) (n : Int) (v : Value) (w : World) (c : w.cell? ⟨b, 0, none⟩ = some (.pointer none)) :
    Calls Try.prog 58 #[.pointer (some ⟨b, 0, none⟩), .int .i64 n, v] w fun e w' => e = .returned (.tuple #[.int .u64 0, .int .i64 1]) ∧ w' = w := by
  go_enter Try.func58, Try.ntmps58
  go_wp2_with fail
  go_ret2
  exact ⟨by simp, rfl⟩

set_option maxRecDepth 100000 in
set_option maxHeartbeats 2000000 in
/-- no such primitive -/
theorem apply_out {hb : HB} {M : Hp} {w : World} (r : Rep hb M w) (n : Int) (hn : n < 0 ∨ 30 ≤ n) (v : Value) :
    Calls Try.prog 58 #[.pointer (some ⟨hb.h, 0, none⟩), .int .i64 n, v] w fun e w' => e = .returned (.tuple #[.int .u64 0, .int .i64 1]) ∧ w' = w := by
  have c0 := r.h0
  clear r
  by_cases h0 : n < 0
  · clear hn
    go_enter Try.func58, Try.ntmps58
    go_wp2_with fail
    go_ret2
    exact ⟨by simp, rfl⟩
  · have h30 : 30 ≤ n := by omega
    clear hn
    go_enter Try.func58, Try.ntmps58
    go_wp2_with fail
    go_ret2
    exact ⟨by simp, rfl⟩
end Go.Proofs.Ytecemlamoiepdaa
