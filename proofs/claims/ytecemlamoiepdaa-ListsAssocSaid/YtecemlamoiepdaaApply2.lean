/- lists.Apply, the primitives of two words. Printed by genapply2.py. -/
import Derived.Test.YtecemlamoiepdaaTail
namespace Go.Proofs.Ytecemlamoiepdaa
open Go.RowKit

/-- two words that are handed -/
def TwoArg (w : World) (sv : Value) (x y : Nat) : Prop := ∃ b o cap, sv = .slice (some ⟨b, o, none⟩) 2 cap ∧ b < w.heap.size ∧ 2 ≤ cap ∧ w.cell? ⟨b, o, none⟩ = some (.int .u64 (x : Nat)) ∧ w.cell? ⟨b, o + 1, none⟩ = some (.int .u64 (y : Nat))

theorem two_arg (w : World) (x y : Nat) (e : TypeId) : TwoArg (w.alloc (.cells #[.int .u64 (x : Nat), .int .u64 (y : Nat)] e)) (.slice (some ⟨w.heap.size, 0, none⟩) 2 2) x y :=
  ⟨w.heap.size, 0, 2, rfl, by simp, Nat.le_refl _, by simp, by simp⟩

theorem idx14 : ∀ w : World, (Instr.index 156 (.agg tblC) (.int .i64 14)).run Try.prog w = .ok (.agg #[.string ⟨#[97, 112, 112, 101, 110, 100]⟩, .int .i64 0, .int .i64 (-1)]) w := fun _ => by kernel_rfl
theorem idx16 : ∀ w : World, (Instr.index 156 (.agg tblC) (.int .i64 16)).run Try.prog w = .ok (.agg #[.string ⟨#[108, 105, 115, 116, 45, 116, 97, 105, 108]⟩, .int .i64 2, .int .i64 2]) w := fun _ => by kernel_rfl
theorem idx17 : ∀ w : World, (Instr.index 156 (.agg tblC) (.int .i64 17)).run Try.prog w = .ok (.agg #[.string ⟨#[108, 105, 115, 116, 45, 114, 101, 102]⟩, .int .i64 2, .int .i64 2]) w := fun _ => by kernel_rfl
theorem idx18 : ∀ w : World, (Instr.index 156 (.agg tblC) (.int .i64 18)).run Try.prog w = .ok (.agg #[.string ⟨#[109, 101, 109, 113]⟩, .int .i64 2, .int .i64 2]) w := fun _ => by kernel_rfl
theorem idx20 : ∀ w : World, (Instr.index 156 (.agg tblC) (.int .i64 20)).run Try.prog w = .ok (.agg #[.string ⟨#[109, 101, 109, 98, 101, 114]⟩, .int .i64 2, .int .i64 2]) w := fun _ => by kernel_rfl
theorem idx21 : ∀ w : World, (Instr.index 156 (.agg tblC) (.int .i64 21)).run Try.prog w = .ok (.agg #[.string ⟨#[97, 115, 115, 113]⟩, .int .i64 2, .int .i64 2]) w := fun _ => by kernel_rfl
theorem idx22 : ∀ w : World, (Instr.index 156 (.agg tblC) (.int .i64 22)).run Try.prog w = .ok (.agg #[.string ⟨#[97, 115, 115, 118]⟩, .int .i64 2, .int .i64 2]) w := fun _ => by kernel_rfl
theorem idx23 : ∀ w : World, (Instr.index 156 (.agg tblC) (.int .i64 23)).run Try.prog w = .ok (.agg #[.string ⟨#[97, 115, 115, 111, 99]⟩, .int .i64 2, .int .i64 2]) w := fun _ => by kernel_rfl
theorem idx24 : ∀ w : World, (Instr.index 156 (.agg tblC) (.int .i64 24)).run Try.prog w = .ok (.agg #[.string ⟨#[101, 113, 63]⟩, .int .i64 2, .int .i64 2]) w := fun _ => by kernel_rfl
theorem idx25 : ∀ w : World, (Instr.index 156 (.agg tblC) (.int .i64 25)).run Try.prog w = .ok (.agg #[.string ⟨#[101, 113, 118, 63]⟩, .int .i64 2, .int .i64 2]) w := fun _ => by kernel_rfl

set_option maxRecDepth 100000 in
set_option maxHeartbeats 2000000 in
theorem apply_app {hb : HB} {M : Hp} {w : World} (r : Rep hb M w) {n0 v v2 q : Nat} (pk : PK M n0) {l tl : List (Nat × Nat)} (hL : Lst M v l) (hT : LSeg M v2 tl q) (hq : q < 18446744073709551616) (hv : v < 18446744073709551616) (hroom : n0 + l.length ≤ 32 * M.limit) (sv : Value) (hs : TwoArg w sv v v2) :
    Calls Try.prog 58 #[.pointer (some ⟨hb.h, 0, none⟩), .int .i64 14, sv] w fun e w' => ∃ (M' : Hp) (v' : Nat), e = .returned (.tuple #[.int .u64 (v' : Nat), .int .i64 0]) ∧ Rep hb M' w' ∧ PK M' (n0 + l.length) ∧ M.Grown M' ∧ LSeg M' v' (rowL n0 (l.map (·.2)) ++ tl) q ∧ Moves hb w w' := by
  have c0 := r.h0
  obtain ⟨bb, o, cap, rfl, hbl, hcap, hcell, hcell2⟩ := hs
  have hC : ∀ w1, Below w.heap.size w w1 → _ := fun w1 b => joins_two (r.below b) pk hL hT hq hv hroom bb o cap (Nat.lt_of_lt_of_le hbl b.size) ((b.cell (p := ⟨bb, o, none⟩) hbl).trans hcell) ((b.cell (p := ⟨bb, o + 1, none⟩) hbl).trans hcell2) hcap
  have HC := Lib.hid hC
  clear r hL hv pk hroom hC hT hq hcell hcell2
  have hid := idx14
  go_enter Try.func58, Try.ntmps58
  go_wp2_with fail
  refine (table_any _).mono ?_
  rintro e w1 ⟨rfl, b1⟩
  have B1 := Lib.hid b1
  have hc1 := HC.out _ (b1.alloc b1.size (.cells #[.string ⟨#[97, 112, 112, 101, 110, 100]⟩, .int .i64 0, .int .i64 (-1)] 155))
  clear b1 c0
  go_wp2_with fail
  refine hc1.mono ?_
  rintro e w2 ⟨M', v', rfl, h1, h2, h3, h4, h5⟩
  have H := Lib.hid (And.intro h1 (And.intro h2 (And.intro h3 (And.intro h4 h5))))
  clear h1 h2 h3 h4 h5 hc1
  go_wp2_with fail
  go_ret2
  obtain ⟨h1, h2, h3, h4, h5⟩ := H.out
  exact ⟨M', v', by simp, h1, h2, h3, h4, (Moves.of_below (B1.out.alloc B1.out.size _)).trans h5⟩

set_option maxRecDepth 100000 in
set_option maxHeartbeats 2000000 in
theorem apply16 {hb : HB} {M : Hp} {w : World} (r : Rep hb M w) {x y : Nat} {z ec : Int} (hC : ∀ w1, Below w.heap.size w w1 → Calls Try.prog 97 #[.pointer (some ⟨hb.h, 0, none⟩), .int .u64 (x : Nat), .int .u64 (y : Nat)] w1 fun e w' => e = .returned (.tuple #[.int .u64 z, .int .i64 ec]) ∧ Below w1.heap.size w1 w') (sv : Value) (hs : TwoArg w sv x y) :
    Calls Try.prog 58 #[.pointer (some ⟨hb.h, 0, none⟩), .int .i64 16, sv] w fun e w' => e = .returned (.tuple #[.int .u64 z, .int .i64 ec]) ∧ Below w.heap.size w w' := by
  have c0 := r.h0
  obtain ⟨bb, o, cap, rfl, hbl, hcap, hcell, hcell2⟩ := hs
  have HC := Lib.hid hC
  clear r hC
  have hid := idx16
  go_enter Try.func58, Try.ntmps58
  go_wp2_with fail
  refine (table_any _).mono ?_
  rintro e w1 ⟨rfl, b1⟩
  have B1 := Lib.hid (b1.alloc b1.size (.cells #[.string ⟨#[108, 105, 115, 116, 45, 116, 97, 105, 108]⟩, .int .i64 2, .int .i64 2] 155))
  have q1 := (B1.out.cell (p := ⟨bb, o, none⟩) hbl).trans hcell
  have q2 := (B1.out.cell (p := ⟨bb, o + 1, none⟩) hbl).trans hcell2
  have FX := Lib.hid (HC.out (w1.alloc (.cells #[.string ⟨#[108, 105, 115, 116, 45, 116, 97, 105, 108]⟩, .int .i64 2, .int .i64 2] 155)).drew ⟨B1.out.os, B1.out.tape, B1.out.output, B1.out.size, B1.out.block⟩)
  have SZ := Lib.hid (Nat.lt_of_lt_of_le hbl B1.out.size)
  clear b1 c0 hcell hcell2 hbl
  go_wp2_with fail
  go_region_held3 (fun W' => W'.cell? ⟨bb, o, none⟩ = some (.int .u64 (x : Nat)) ∧ W'.cell? ⟨bb, o + 1, none⟩ = some (.int .u64 (y : Nat))) (go_keep) (first | (go_at_call 97; refine FX.out.mono ?_; rintro e w8 ⟨rfl, b8⟩; have p1 : w8.cell? ⟨bb, o, none⟩ = some (.int .u64 (x : Nat)) := (b8.cell (p := ⟨bb, o, none⟩) SZ.out).trans q1; have p2 : w8.cell? ⟨bb, o + 1, none⟩ = some (.int .u64 (y : Nat)) := (b8.cell (p := ⟨bb, o + 1, none⟩) SZ.out).trans q2))
  have B8 : Hid (Below w.heap.size w w8) := Lib.hid (Below.trans (b := (w1.alloc (.cells #[.string ⟨#[108, 105, 115, 116, 45, 116, 97, 105, 108]⟩, .int .i64 2, .int .i64 2] 155)).drew) ⟨B1.out.os, B1.out.tape, B1.out.output, B1.out.size, B1.out.block⟩ (b8.mono B1.out.size))
  clear FX SZ p1 p2 b8 q1 q2 hid
  go_wp2_with fail
  go_ret2
  exact ⟨by simp, B8.out⟩

set_option maxRecDepth 100000 in
set_option maxHeartbeats 2000000 in
theorem apply17 {hb : HB} {M : Hp} {w : World} (r : Rep hb M w) {x y p : Nat} {z : Int} (hC : ∀ w1, Below w.heap.size w w1 → Calls Try.prog 97 #[.pointer (some ⟨hb.h, 0, none⟩), .int .u64 (x : Nat), .int .u64 (y : Nat)] w1 fun e w' => e = .returned (.tuple #[.int .u64 (p : Nat), .int .i64 0]) ∧ Below w1.heap.size w1 w') (hD : ∀ w1, Below w.heap.size w w1 → Calls Try.prog 36 #[.pointer (some ⟨hb.h, 0, none⟩), .int .u64 (p : Nat)] w1 fun e w' => e = .returned (.tuple #[.int .u64 z, .int .i64 0]) ∧ Below w1.heap.size w1 w') (sv : Value) (hs : TwoArg w sv x y) :
    Calls Try.prog 58 #[.pointer (some ⟨hb.h, 0, none⟩), .int .i64 17, sv] w fun e w' => e = .returned (.tuple #[.int .u64 z, .int .i64 0]) ∧ Below w.heap.size w w' := by
  have c0 := r.h0
  obtain ⟨bb, o, cap, rfl, hbl, hcap, hcell, hcell2⟩ := hs
  have HC := Lib.hid hC
  have HD := Lib.hid hD
  clear r hC hD
  have hid := idx17
  go_enter Try.func58, Try.ntmps58
  go_wp2_with fail
  refine (table_any _).mono ?_
  rintro e w1 ⟨rfl, b1⟩
  have B1 := Lib.hid (b1.alloc b1.size (.cells #[.string ⟨#[108, 105, 115, 116, 45, 114, 101, 102]⟩, .int .i64 2, .int .i64 2] 155))
  have q1 := (B1.out.cell (p := ⟨bb, o, none⟩) hbl).trans hcell
  have q2 := (B1.out.cell (p := ⟨bb, o + 1, none⟩) hbl).trans hcell2
  have FX := Lib.hid (HC.out (w1.alloc (.cells #[.string ⟨#[108, 105, 115, 116, 45, 114, 101, 102]⟩, .int .i64 2, .int .i64 2] 155)).drew ⟨B1.out.os, B1.out.tape, B1.out.output, B1.out.size, B1.out.block⟩)
  have SZ := Lib.hid (Nat.lt_of_lt_of_le hbl B1.out.size)
  clear b1 c0 hcell hcell2 hbl
  go_wp2_with fail
  go_region_held3 (fun W' => W'.cell? ⟨bb, o, none⟩ = some (.int .u64 (x : Nat)) ∧ W'.cell? ⟨bb, o + 1, none⟩ = some (.int .u64 (y : Nat))) (go_keep) (first | (go_at_call 97; refine FX.out.mono ?_; rintro e w8 ⟨rfl, b8⟩; have p1 : w8.cell? ⟨bb, o, none⟩ = some (.int .u64 (x : Nat)) := (b8.cell (p := ⟨bb, o, none⟩) SZ.out).trans q1; have p2 : w8.cell? ⟨bb, o + 1, none⟩ = some (.int .u64 (y : Nat)) := (b8.cell (p := ⟨bb, o + 1, none⟩) SZ.out).trans q2))
  have B8 : Hid (Below w.heap.size w w8) := Lib.hid (Below.trans (b := (w1.alloc (.cells #[.string ⟨#[108, 105, 115, 116, 45, 114, 101, 102]⟩, .int .i64 2, .int .i64 2] 155)).drew) ⟨B1.out.os, B1.out.tape, B1.out.output, B1.out.size, B1.out.block⟩ (b8.mono B1.out.size))
  clear FX SZ p1 p2 b8 q1 q2 hid
  go_wp2_with fail
  refine (HD.out _ B8.out).mono ?_
  rintro e w9 ⟨rfl, b9⟩
  have B9 := Lib.hid (B8.out.trans (b9.mono B8.out.size))
  clear b9
  go_wp2_with fail
  go_ret2
  exact ⟨by simp, B9.out⟩

set_option maxRecDepth 100000 in
set_option maxHeartbeats 2000000 in
theorem apply18 {hb : HB} {M : Hp} {w : World} (r : Rep hb M w) {x y : Nat} {z ec : Int} (hC : ∀ w1, Below w.heap.size w w1 → Calls Try.prog 98 #[.pointer (some ⟨hb.h, 0, none⟩), .int .i64 0, .int .u64 (x : Nat), .int .u64 (y : Nat), .bool false] w1 fun e w' => e = .returned (.tuple #[.int .u64 z, .int .i64 ec]) ∧ Below w1.heap.size w1 w') (sv : Value) (hs : TwoArg w sv x y) :
    Calls Try.prog 58 #[.pointer (some ⟨hb.h, 0, none⟩), .int .i64 18, sv] w fun e w' => e = .returned (.tuple #[.int .u64 z, .int .i64 ec]) ∧ Below w.heap.size w w' := by
  have c0 := r.h0
  obtain ⟨bb, o, cap, rfl, hbl, hcap, hcell, hcell2⟩ := hs
  have HC := Lib.hid hC
  clear r hC
  have hid := idx18
  go_enter Try.func58, Try.ntmps58
  go_wp2_with fail
  refine (table_any _).mono ?_
  rintro e w1 ⟨rfl, b1⟩
  have B1 := Lib.hid (b1.alloc b1.size (.cells #[.string ⟨#[109, 101, 109, 113]⟩, .int .i64 2, .int .i64 2] 155))
  have q1 := (B1.out.cell (p := ⟨bb, o, none⟩) hbl).trans hcell
  have q2 := (B1.out.cell (p := ⟨bb, o + 1, none⟩) hbl).trans hcell2
  have FX := Lib.hid (HC.out (w1.alloc (.cells #[.string ⟨#[109, 101, 109, 113]⟩, .int .i64 2, .int .i64 2] 155)).drew ⟨B1.out.os, B1.out.tape, B1.out.output, B1.out.size, B1.out.block⟩)
  have SZ := Lib.hid (Nat.lt_of_lt_of_le hbl B1.out.size)
  clear b1 c0 hcell hcell2 hbl
  go_wp2_with fail
  go_region_held3 (fun W' => W'.cell? ⟨bb, o, none⟩ = some (.int .u64 (x : Nat)) ∧ W'.cell? ⟨bb, o + 1, none⟩ = some (.int .u64 (y : Nat))) (go_keep) (first | (go_at_call 98; refine FX.out.mono ?_; rintro e w8 ⟨rfl, b8⟩; have p1 : w8.cell? ⟨bb, o, none⟩ = some (.int .u64 (x : Nat)) := (b8.cell (p := ⟨bb, o, none⟩) SZ.out).trans q1; have p2 : w8.cell? ⟨bb, o + 1, none⟩ = some (.int .u64 (y : Nat)) := (b8.cell (p := ⟨bb, o + 1, none⟩) SZ.out).trans q2))
  have B8 : Hid (Below w.heap.size w w8) := Lib.hid (Below.trans (b := (w1.alloc (.cells #[.string ⟨#[109, 101, 109, 113]⟩, .int .i64 2, .int .i64 2] 155)).drew) ⟨B1.out.os, B1.out.tape, B1.out.output, B1.out.size, B1.out.block⟩ (b8.mono B1.out.size))
  clear FX SZ p1 p2 b8 q1 q2 hid
  go_wp2_with fail
  go_ret2
  exact ⟨by simp, B8.out⟩

set_option maxRecDepth 100000 in
set_option maxHeartbeats 2000000 in
theorem apply20 {hb : HB} {M : Hp} {w : World} (r : Rep hb M w) {x y : Nat} {z ec : Int} (hC : ∀ w1, Below w.heap.size w w1 → Calls Try.prog 98 #[.pointer (some ⟨hb.h, 0, none⟩), .int .i64 2, .int .u64 (x : Nat), .int .u64 (y : Nat), .bool false] w1 fun e w' => e = .returned (.tuple #[.int .u64 z, .int .i64 ec]) ∧ Below w1.heap.size w1 w') (sv : Value) (hs : TwoArg w sv x y) :
    Calls Try.prog 58 #[.pointer (some ⟨hb.h, 0, none⟩), .int .i64 20, sv] w fun e w' => e = .returned (.tuple #[.int .u64 z, .int .i64 ec]) ∧ Below w.heap.size w w' := by
  have c0 := r.h0
  obtain ⟨bb, o, cap, rfl, hbl, hcap, hcell, hcell2⟩ := hs
  have HC := Lib.hid hC
  clear r hC
  have hid := idx20
  go_enter Try.func58, Try.ntmps58
  go_wp2_with fail
  refine (table_any _).mono ?_
  rintro e w1 ⟨rfl, b1⟩
  have B1 := Lib.hid (b1.alloc b1.size (.cells #[.string ⟨#[109, 101, 109, 98, 101, 114]⟩, .int .i64 2, .int .i64 2] 155))
  have q1 := (B1.out.cell (p := ⟨bb, o, none⟩) hbl).trans hcell
  have q2 := (B1.out.cell (p := ⟨bb, o + 1, none⟩) hbl).trans hcell2
  have FX := Lib.hid (HC.out (w1.alloc (.cells #[.string ⟨#[109, 101, 109, 98, 101, 114]⟩, .int .i64 2, .int .i64 2] 155)).drew ⟨B1.out.os, B1.out.tape, B1.out.output, B1.out.size, B1.out.block⟩)
  have SZ := Lib.hid (Nat.lt_of_lt_of_le hbl B1.out.size)
  clear b1 c0 hcell hcell2 hbl
  go_wp2_with fail
  go_region_held3 (fun W' => W'.cell? ⟨bb, o, none⟩ = some (.int .u64 (x : Nat)) ∧ W'.cell? ⟨bb, o + 1, none⟩ = some (.int .u64 (y : Nat))) (go_keep) (first | (go_at_call 98; refine FX.out.mono ?_; rintro e w8 ⟨rfl, b8⟩; have p1 : w8.cell? ⟨bb, o, none⟩ = some (.int .u64 (x : Nat)) := (b8.cell (p := ⟨bb, o, none⟩) SZ.out).trans q1; have p2 : w8.cell? ⟨bb, o + 1, none⟩ = some (.int .u64 (y : Nat)) := (b8.cell (p := ⟨bb, o + 1, none⟩) SZ.out).trans q2))
  have B8 : Hid (Below w.heap.size w w8) := Lib.hid (Below.trans (b := (w1.alloc (.cells #[.string ⟨#[109, 101, 109, 98, 101, 114]⟩, .int .i64 2, .int .i64 2] 155)).drew) ⟨B1.out.os, B1.out.tape, B1.out.output, B1.out.size, B1.out.block⟩ (b8.mono B1.out.size))
  clear FX SZ p1 p2 b8 q1 q2 hid
  go_wp2_with fail
  go_ret2
  exact ⟨by simp, B8.out⟩

set_option maxRecDepth 100000 in
set_option maxHeartbeats 2000000 in
theorem apply21 {hb : HB} {M : Hp} {w : World} (r : Rep hb M w) {x y : Nat} {z ec : Int} (hC : ∀ w1, Below w.heap.size w w1 → Calls Try.prog 98 #[.pointer (some ⟨hb.h, 0, none⟩), .int .i64 0, .int .u64 (x : Nat), .int .u64 (y : Nat), .bool true] w1 fun e w' => e = .returned (.tuple #[.int .u64 z, .int .i64 ec]) ∧ Below w1.heap.size w1 w') (sv : Value) (hs : TwoArg w sv x y) :
    Calls Try.prog 58 #[.pointer (some ⟨hb.h, 0, none⟩), .int .i64 21, sv] w fun e w' => e = .returned (.tuple #[.int .u64 z, .int .i64 ec]) ∧ Below w.heap.size w w' := by
  have c0 := r.h0
  obtain ⟨bb, o, cap, rfl, hbl, hcap, hcell, hcell2⟩ := hs
  have HC := Lib.hid hC
  clear r hC
  have hid := idx21
  go_enter Try.func58, Try.ntmps58
  go_wp2_with fail
  refine (table_any _).mono ?_
  rintro e w1 ⟨rfl, b1⟩
  have B1 := Lib.hid (b1.alloc b1.size (.cells #[.string ⟨#[97, 115, 115, 113]⟩, .int .i64 2, .int .i64 2] 155))
  have q1 := (B1.out.cell (p := ⟨bb, o, none⟩) hbl).trans hcell
  have q2 := (B1.out.cell (p := ⟨bb, o + 1, none⟩) hbl).trans hcell2
  have FX := Lib.hid (HC.out (w1.alloc (.cells #[.string ⟨#[97, 115, 115, 113]⟩, .int .i64 2, .int .i64 2] 155)).drew ⟨B1.out.os, B1.out.tape, B1.out.output, B1.out.size, B1.out.block⟩)
  have SZ := Lib.hid (Nat.lt_of_lt_of_le hbl B1.out.size)
  clear b1 c0 hcell hcell2 hbl
  go_wp2_with fail
  go_region_held3 (fun W' => W'.cell? ⟨bb, o, none⟩ = some (.int .u64 (x : Nat)) ∧ W'.cell? ⟨bb, o + 1, none⟩ = some (.int .u64 (y : Nat))) (go_keep) (first | (go_at_call 98; refine FX.out.mono ?_; rintro e w8 ⟨rfl, b8⟩; have p1 : w8.cell? ⟨bb, o, none⟩ = some (.int .u64 (x : Nat)) := (b8.cell (p := ⟨bb, o, none⟩) SZ.out).trans q1; have p2 : w8.cell? ⟨bb, o + 1, none⟩ = some (.int .u64 (y : Nat)) := (b8.cell (p := ⟨bb, o + 1, none⟩) SZ.out).trans q2))
  have B8 : Hid (Below w.heap.size w w8) := Lib.hid (Below.trans (b := (w1.alloc (.cells #[.string ⟨#[97, 115, 115, 113]⟩, .int .i64 2, .int .i64 2] 155)).drew) ⟨B1.out.os, B1.out.tape, B1.out.output, B1.out.size, B1.out.block⟩ (b8.mono B1.out.size))
  clear FX SZ p1 p2 b8 q1 q2 hid
  go_wp2_with fail
  go_ret2
  exact ⟨by simp, B8.out⟩

set_option maxRecDepth 100000 in
set_option maxHeartbeats 2000000 in
theorem apply22 {hb : HB} {M : Hp} {w : World} (r : Rep hb M w) {x y : Nat} {z ec : Int} (hC : ∀ w1, Below w.heap.size w w1 → Calls Try.prog 98 #[.pointer (some ⟨hb.h, 0, none⟩), .int .i64 1, .int .u64 (x : Nat), .int .u64 (y : Nat), .bool true] w1 fun e w' => e = .returned (.tuple #[.int .u64 z, .int .i64 ec]) ∧ Below w1.heap.size w1 w') (sv : Value) (hs : TwoArg w sv x y) :
    Calls Try.prog 58 #[.pointer (some ⟨hb.h, 0, none⟩), .int .i64 22, sv] w fun e w' => e = .returned (.tuple #[.int .u64 z, .int .i64 ec]) ∧ Below w.heap.size w w' := by
  have c0 := r.h0
  obtain ⟨bb, o, cap, rfl, hbl, hcap, hcell, hcell2⟩ := hs
  have HC := Lib.hid hC
  clear r hC
  have hid := idx22
  go_enter Try.func58, Try.ntmps58
  go_wp2_with fail
  refine (table_any _).mono ?_
  rintro e w1 ⟨rfl, b1⟩
  have B1 := Lib.hid (b1.alloc b1.size (.cells #[.string ⟨#[97, 115, 115, 118]⟩, .int .i64 2, .int .i64 2] 155))
  have q1 := (B1.out.cell (p := ⟨bb, o, none⟩) hbl).trans hcell
  have q2 := (B1.out.cell (p := ⟨bb, o + 1, none⟩) hbl).trans hcell2
  have FX := Lib.hid (HC.out (w1.alloc (.cells #[.string ⟨#[97, 115, 115, 118]⟩, .int .i64 2, .int .i64 2] 155)).drew ⟨B1.out.os, B1.out.tape, B1.out.output, B1.out.size, B1.out.block⟩)
  have SZ := Lib.hid (Nat.lt_of_lt_of_le hbl B1.out.size)
  clear b1 c0 hcell hcell2 hbl
  go_wp2_with fail
  go_region_held3 (fun W' => W'.cell? ⟨bb, o, none⟩ = some (.int .u64 (x : Nat)) ∧ W'.cell? ⟨bb, o + 1, none⟩ = some (.int .u64 (y : Nat))) (go_keep) (first | (go_at_call 98; refine FX.out.mono ?_; rintro e w8 ⟨rfl, b8⟩; have p1 : w8.cell? ⟨bb, o, none⟩ = some (.int .u64 (x : Nat)) := (b8.cell (p := ⟨bb, o, none⟩) SZ.out).trans q1; have p2 : w8.cell? ⟨bb, o + 1, none⟩ = some (.int .u64 (y : Nat)) := (b8.cell (p := ⟨bb, o + 1, none⟩) SZ.out).trans q2))
  have B8 : Hid (Below w.heap.size w w8) := Lib.hid (Below.trans (b := (w1.alloc (.cells #[.string ⟨#[97, 115, 115, 118]⟩, .int .i64 2, .int .i64 2] 155)).drew) ⟨B1.out.os, B1.out.tape, B1.out.output, B1.out.size, B1.out.block⟩ (b8.mono B1.out.size))
  clear FX SZ p1 p2 b8 q1 q2 hid
  go_wp2_with fail
  go_ret2
  exact ⟨by simp, B8.out⟩

set_option maxRecDepth 100000 in
set_option maxHeartbeats 2000000 in
theorem apply23 {hb : HB} {M : Hp} {w : World} (r : Rep hb M w) {x y : Nat} {z ec : Int} (hC : ∀ w1, Below w.heap.size w w1 → Calls Try.prog 98 #[.pointer (some ⟨hb.h, 0, none⟩), .int .i64 2, .int .u64 (x : Nat), .int .u64 (y : Nat), .bool true] w1 fun e w' => e = .returned (.tuple #[.int .u64 z, .int .i64 ec]) ∧ Below w1.heap.size w1 w') (sv : Value) (hs : TwoArg w sv x y) :
    Calls Try.prog 58 #[.pointer (some ⟨hb.h, 0, none⟩), .int .i64 23, sv] w fun e w' => e = .returned (.tuple #[.int .u64 z, .int .i64 ec]) ∧ Below w.heap.size w w' := by
  have c0 := r.h0
  obtain ⟨bb, o, cap, rfl, hbl, hcap, hcell, hcell2⟩ := hs
  have HC := Lib.hid hC
  clear r hC
  have hid := idx23
  go_enter Try.func58, Try.ntmps58
  go_wp2_with fail
  refine (table_any _).mono ?_
  rintro e w1 ⟨rfl, b1⟩
  have B1 := Lib.hid (b1.alloc b1.size (.cells #[.string ⟨#[97, 115, 115, 111, 99]⟩, .int .i64 2, .int .i64 2] 155))
  have q1 := (B1.out.cell (p := ⟨bb, o, none⟩) hbl).trans hcell
  have q2 := (B1.out.cell (p := ⟨bb, o + 1, none⟩) hbl).trans hcell2
  have FX := Lib.hid (HC.out (w1.alloc (.cells #[.string ⟨#[97, 115, 115, 111, 99]⟩, .int .i64 2, .int .i64 2] 155)).drew ⟨B1.out.os, B1.out.tape, B1.out.output, B1.out.size, B1.out.block⟩)
  have SZ := Lib.hid (Nat.lt_of_lt_of_le hbl B1.out.size)
  clear b1 c0 hcell hcell2 hbl
  go_wp2_with fail
  go_region_held3 (fun W' => W'.cell? ⟨bb, o, none⟩ = some (.int .u64 (x : Nat)) ∧ W'.cell? ⟨bb, o + 1, none⟩ = some (.int .u64 (y : Nat))) (go_keep) (first | (go_at_call 98; refine FX.out.mono ?_; rintro e w8 ⟨rfl, b8⟩; have p1 : w8.cell? ⟨bb, o, none⟩ = some (.int .u64 (x : Nat)) := (b8.cell (p := ⟨bb, o, none⟩) SZ.out).trans q1; have p2 : w8.cell? ⟨bb, o + 1, none⟩ = some (.int .u64 (y : Nat)) := (b8.cell (p := ⟨bb, o + 1, none⟩) SZ.out).trans q2))
  have B8 : Hid (Below w.heap.size w w8) := Lib.hid (Below.trans (b := (w1.alloc (.cells #[.string ⟨#[97, 115, 115, 111, 99]⟩, .int .i64 2, .int .i64 2] 155)).drew) ⟨B1.out.os, B1.out.tape, B1.out.output, B1.out.size, B1.out.block⟩ (b8.mono B1.out.size))
  clear FX SZ p1 p2 b8 q1 q2 hid
  go_wp2_with fail
  go_ret2
  exact ⟨by simp, B8.out⟩
end Go.Proofs.Ytecemlamoiepdaa
