/- morainelaw22.ListsNobody's walk: Prims, the words of a heap that has none. -/
import Derived.Test.YtecemlamoiepdaaGreatAwake22
import Derived.Deep.WholeRow
namespace Go.Proofs.YtecemlamoiepdaaGreat
open Go.RowKit

set_option maxRecDepth 100000 in
set_option maxHeartbeats 4000000 in
theorem prims_any (w : World) : Calls Tryz.prog 9 #[] w fun e w' => ∃ a, e = .returned (.slice (some a) 30 30) ∧ Below w.heap.size w w' := by
  go_enter Tryz.func9, Tryz.ntmps9
  go_wp2_with fail
  refine (table_any _).mono ?_
  rintro e w1 ⟨rfl, b1⟩
  have B1 := Lib.hid b1
  clear b1
  have hsc := run_storeCells_new (P := Tryz.prog) w1 103 Tryz.zeroCells103 tblC (by kernel_rfl) (by rw [zero_size, tbl_size]) (by kernel_rfl)
  have htb := tbl_size
  go_wp2_with fail
  go_ret
  exact ⟨_, rfl, B1.out.alloc B1.out.size _⟩

set_option maxHeartbeats 400000 in
theorem insertion_nil (c : Value) (w : World) : Calls Tryz.prog 197 #[.slice none 0 0, .int .i64 0, .int .i64 0, c] w fun e w' => (∃ v, e = .returned v) ∧ w' = w := by
  go_enter Tryz.func197, Tryz.ntmps197
  go_wp2_with fail
  go_loop [8] (fun iv => iv = .int .i64 1) (fun _ => 0)
  case atStart => rfl
  case round =>
    subst hrel
    go_wp2_with fail
    go_end0
    exact ⟨⟨_, rfl⟩, rfl⟩

set_option maxRecDepth 100000 in
set_option maxHeartbeats 1000000 in
theorem pdq_nil (l : Int) (c : Value) (w : World) : Calls Tryz.prog 162 #[.slice none 0 0, .int .i64 0, .int .i64 0, .int .i64 l, c] w fun e w' => (∃ v, e = .returned v) ∧ w' = w := by
  have hI := insertion_nil c w
  go_enter Tryz.func162, Tryz.ntmps162
  go_wp2_with fail
  go_loop [1, 2, 3, 10, 11] (fun p q lm a b => p = .int .i64 0 ∧ q = .int .i64 0 ∧ lm = .int .i64 l ∧ a = .bool true ∧ b = .bool true) (fun _ _ _ _ _ => 0)
  case atStart => exact ⟨rfl, rfl, rfl, rfl, rfl⟩
  case round =>
    obtain ⟨rfl, rfl, rfl, rfl, rfl⟩ := hrel
    go_wp2_with fail
    refine hI.mono ?_
    rintro e w1 ⟨⟨v, rfl⟩, rfl⟩
    go_wp2_with fail
    refine bodyPost_ret (results_none rfl _ _ _) rfl ?_
    exact ⟨⟨_, rfl⟩, rfl⟩

set_option maxRecDepth 20000 in
set_option maxHeartbeats 400000 in
theorem len64_zero (w : World) : Calls Tryz.prog 206 #[.int .u64 0] w fun e w' => e = .returned (.int .i64 0) ∧ w' = w := by
  go_enter Tryz.func206, Tryz.ntmps206
  go_wp2
  go_ret
  exact ⟨congrArg (fun z => Ending.returned (.int .i64 z)) (by kernel_rfl), rfl⟩

set_option maxHeartbeats 400000 in
theorem len_zero (w : World) : Calls Tryz.prog 163 #[.int .u64 0] w fun e w' => e = .returned (.int .i64 0) ∧ w' = w := by
  have h := len64_zero w
  go_enter Tryz.func163, Tryz.ntmps163
  go_wp2_with fail
  refine h.mono ?_
  rintro e w1 ⟨rfl, rfl⟩
  go_wp2_with fail
  go_ret
  exact ⟨rfl, rfl⟩

set_option maxHeartbeats 400000 in
theorem sortfunc_nil (c : Value) (w : World) : Calls Tryz.prog 107 #[.slice none 0 0, c] w fun e w' => (∃ v, e = .returned v) ∧ w' = w := by
  have h := len_zero w
  have h2 := pdq_nil 0 c w
  go_enter Tryz.func107, Tryz.ntmps107
  go_wp2_with fail
  refine h.mono ?_
  rintro e w1 ⟨rfl, rfl⟩
  go_wp2_with fail
  refine h2.mono ?_
  rintro e w1 ⟨⟨v, rfl⟩, rfl⟩
  go_wp2_with fail
  go_end0
  exact ⟨⟨_, rfl⟩, rfl⟩

set_option maxRecDepth 20000 in
set_option maxHeartbeats 1000000 in
/-- of a heap that has none -/
theorem taken_empty {hb : HB} {l : Nat} {w : World} (r : Rep hb (Hp.empty l) w) :
    Calls Tryz.prog 25 #[.pointer (some ⟨hb.m, 0, none⟩), .slice none 0 0] w fun e w' => e = .returned (.slice none 0 0) ∧ Below w.heap.size w w' := by
  have hlim := r.ok.lim
  have hll : (Hp.empty l).limit = l := rfl
  rw [hll] at hlim
  have r1 := r.alloc (.cells #[.pointer (some ⟨hb.m, 0, none⟩)] 73)
  have hS := fun c => sortfunc_nil c (w.alloc (.cells #[.pointer (some ⟨hb.m, 0, none⟩)] 73))
  have c0 := r1.m0
  rw [hll] at c0
  have R1 := Lib.hid r1
  have HS := Lib.hid hS
  clear r r1 hll hS
  go_enter Tryz.func25, Tryz.ntmps25
  go_wp2_with fail
  go_loop [5, 15] (fun u iv => ∃ k : Nat, k ≤ l ∧ iv = .int .i64 k ∧ u = .slice none 0 0) (fun _ iv => l - (intOf iv).toNat)
  case atStart => exact ⟨0, Nat.zero_le _, rfl, rfl⟩
  case round =>
    obtain ⟨k, hk, rfl, rfl⟩ := hrel
    by_cases hlt : k < l
    · have c7 := R1.out.gfree (k := k) (Nat.zero_le _) hlt
      go_wp2_with fail
      go_round
      case rel => exact ⟨k + 1, by omega, by go_num, rfl⟩
      case measure => simp [intOf]; omega
    · obtain rfl : k = l := by omega
      go_wp2_with fail
      refine (HS.out _).mono ?_
      rintro e w1 ⟨⟨v, rfl⟩, rfl⟩
      go_wp2_with fail
      go_ret
      exact ⟨rfl, (Below.refl _ _).alloc (Nat.le_refl _) _⟩

set_option maxHeartbeats 1000000 in
theorem words_empty {hb : HB} {l : Nat} {w : World} (r : Rep hb (Hp.empty l) w) :
    Calls Tryz.prog 10 #[.pointer (some ⟨hb.s, 0, none⟩), .slice none 0 0] w fun e w' => e = .returned (.int .i64 0) ∧ Below w.heap.size w w' := by
  have hN := spnone_no r
  have hT := taken_empty r
  have c0 := r.s0
  clear r
  go_enter Tryz.func10, Tryz.ntmps10
  go_wp2_with fail
  refine hN.mono ?_
  rintro e w1 ⟨rfl, rfl⟩
  go_wp2_with fail
  refine hT.mono ?_
  rintro e w1 ⟨rfl, b1⟩
  have B1 := Lib.hid b1
  clear b1 hT hN c0
  go_wp2_with fail
  go_loop [5, 19] (fun s i => s = .int .i64 0 ∧ i = .int .i64 0) (fun _ _ => 0)
  case atStart => exact ⟨rfl, rfl⟩
  case round =>
    obtain ⟨rfl, rfl⟩ := hrel
    go_wp2_with fail
    go_ret
    exact ⟨rfl, B1.out⟩
end Go.Proofs.YtecemlamoiepdaaGreat
