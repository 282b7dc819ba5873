/- lists.table: the primitives' names, and how many arguments they take. -/
import Derived.Test.YtecemlamoiepdaaLists3
import Derived.Laws.Tables
import Derived.Laws.Rows
import Derived.Deep.MidRow
namespace Go.Proofs.Ytecemlamoiepdaa
open Go.RowKit

/-- the table's cells: a name, at least, at most -/
def tblC : Array Value := #[.string ⟨#[99, 111, 110, 115]⟩, .int .i64 2, .int .i64 2, .string ⟨#[99, 97, 114]⟩, .int .i64 1, .int .i64 1, .string ⟨#[99, 100, 114]⟩, .int .i64 1, .int .i64 1, .string ⟨#[99, 97, 97, 114]⟩, .int .i64 1, .int .i64 1, .string ⟨#[99, 97, 100, 114]⟩, .int .i64 1, .int .i64 1, .string ⟨#[99, 100, 97, 114]⟩, .int .i64 1, .int .i64 1, .string ⟨#[99, 100, 100, 114]⟩, .int .i64 1, .int .i64 1, .string ⟨#[115, 101, 116, 45, 99, 97, 114, 33]⟩, .int .i64 2, .int .i64 2, .string ⟨#[115, 101, 116, 45, 99, 100, 114, 33]⟩, .int .i64 2, .int .i64 2, .string ⟨#[112, 97, 105, 114, 63]⟩, .int .i64 1, .int .i64 1, .string ⟨#[110, 117, 108, 108, 63]⟩, .int .i64 1, .int .i64 1, .string ⟨#[108, 105, 115, 116, 63]⟩, .int .i64 1, .int .i64 1, .string ⟨#[108, 105, 115, 116]⟩, .int .i64 0, .int .i64 (-1), .string ⟨#[108, 101, 110, 103, 116, 104]⟩, .int .i64 1, .int .i64 1, .string ⟨#[97, 112, 112, 101, 110, 100]⟩, .int .i64 0, .int .i64 (-1), .string ⟨#[114, 101, 118, 101, 114, 115, 101]⟩, .int .i64 1, .int .i64 1, .string ⟨#[108, 105, 115, 116, 45, 116, 97, 105, 108]⟩, .int .i64 2, .int .i64 2, .string ⟨#[108, 105, 115, 116, 45, 114, 101, 102]⟩, .int .i64 2, .int .i64 2, .string ⟨#[109, 101, 109, 113]⟩, .int .i64 2, .int .i64 2, .string ⟨#[109, 101, 109, 118]⟩, .int .i64 2, .int .i64 2, .string ⟨#[109, 101, 109, 98, 101, 114]⟩, .int .i64 2, .int .i64 2, .string ⟨#[97, 115, 115, 113]⟩, .int .i64 2, .int .i64 2, .string ⟨#[97, 115, 115, 118]⟩, .int .i64 2, .int .i64 2, .string ⟨#[97, 115, 115, 111, 99]⟩, .int .i64 2, .int .i64 2, .string ⟨#[101, 113, 63]⟩, .int .i64 2, .int .i64 2, .string ⟨#[101, 113, 118, 63]⟩, .int .i64 2, .int .i64 2, .string ⟨#[101, 113, 117, 97, 108, 63]⟩, .int .i64 2, .int .i64 2, .string ⟨#[110, 111, 116]⟩, .int .i64 1, .int .i64 1, .string ⟨#[98, 111, 111, 108, 101, 97, 110, 63]⟩, .int .i64 1, .int .i64 1, .string ⟨#[112, 114, 111, 99, 101, 100, 117, 114, 101, 63]⟩, .int .i64 1, .int .i64 1]

/-- one of its rows -/
def prm (s : ByteArray) (a b : Int) : Value := .agg #[.string s, .int .i64 a, .int .i64 b]

set_option maxHeartbeats 400000 in
theorem table1_any (s : ByteArray) (n : Int) (w : World) :
    Calls Try.prog 122 #[.string s, .int .i64 n] w fun e w' => e = .returned (prm s n n) ∧ Below w.heap.size w w' := by
  go_enter Try.func122, Try.ntmps122
  go_wp2
  refine bodyPost_ret (v := prm s n n) (by simp [results, Try.results122, go_sem, prm]) rfl ⟨rfl, (Below.refl _ _).alloc (Nat.le_refl _) _⟩

theorem wpList_built {P : Program} {ops : Array Oper} {rest : List Oper} {o : Oper} {a : Act} {w : World} {Q : Exit → Act → World → Prop} (hg : o.guard = none) (t : TypeId) (parts : Array (Nat × Operand)) (cells : Array Value) (ho : o.op = .build t parts)
    (hc : P.built t (parts.map fun (i, x) => (i, a.eval x)).toList = some cells) (h : wpList P ops Q rest (a.put o.dst (.agg cells)) w) : wpList P ops Q (o :: rest) a w :=
  wpList_plain hg fun _ hK => wp_build t parts ho (by rw [hc]; rfl) (by rw [hc]; exact hK _ _ h)

theorem zero_size : Try.zeroCells156.size = 90 := by kernel_rfl
theorem tbl_size : tblC.size = 90 := rfl

theorem zero_there {w : World} {B : Nat} (h : w.heap[B]? = some (.cells Try.zeroCells156 156 (0, 0))) : w.there B 0 tblC.size := by
  intro j hj
  rw [tbl_size] at hj
  constructor
  · unfold World.cell?
    rw [h]
    simp only [Nat.zero_add]
    rw [Array.getElem?_eq_getElem (by rw [zero_size]; exact hj)]
    rfl
  · simp [World.frozen?, h]

theorem table_laid {w : World} {B : Nat} (h : w.heap[B]? = some (.cells Try.zeroCells156 156 (0, 0))) :
    (w.setCells B 0 tblC.toList).heap[B]? = some (.cells tblC 156 (0, 0)) ∧ Below B w (w.setCells B 0 tblC.toList) := by
  have hl : tblC.toList.length = 90 := tbl_size
  obtain ⟨ds, h1, h2, h3⟩ := setCells_block B 156 tblC.toList 0 w _ h (by rw [hl, zero_size]; exact Nat.le_refl _)
  obtain ⟨e1, e2, e3, e4⟩ := setCells_rest B tblC.toList 0 w
  refine ⟨?_, ⟨e1, e2, e3, by omega, fun k hk => setCells_other B tblC.toList 0 w k (by omega)⟩⟩
  have : ds = tblC := by
    apply Array.ext
    · rw [h2, zero_size, tbl_size]
    · intro i hi1 hi2
      have h4 := h3 i (by rw [← h2]; exact hi1)
      rw [if_pos ⟨Nat.zero_le _, by rw [hl]; rw [tbl_size] at hi2; omega⟩, Nat.sub_zero, Array.getElem?_eq_getElem hi1] at h4
      rw [Array.getElem?_toList, Array.getElem?_eq_getElem hi2] at h4
      simpa using h4
  rw [h1, this]

set_option maxRecDepth 100000 in
set_option maxHeartbeats 8000000 in
theorem table_any (w : World) : Calls Try.prog 91 #[] w fun e w' => e = .returned (.agg tblC) ∧ Below w.heap.size w w' := by
  obtain ⟨w1, hw1⟩ : ∃ w1, w1 = w.alloc (.cells Try.zeroCells156 156) := ⟨_, rfl⟩
  have hb1 : w1.heap[w.heap.size]? = some (.cells Try.zeroCells156 156 (0, 0)) := by rw [hw1]; exact heap_alloc_new _ _
  have hB1 : Below w.heap.size w w1 := by rw [hw1]; exact (Below.refl _ _).alloc (Nat.le_refl _) _
  have HB1 := Lib.hid hB1
  have HH1 := Lib.hid hb1
  clear hB1 hb1
  go_enter Try.func91, Try.ntmps91
  go_wp2_with fail
  rw [← hw1]
  clear hw1
  refine (table1_any _ _ _).mono ?_
  rintro e q0 ⟨rfl, b⟩
  have B0 := Lib.hid (b)
  clear b
  go_wp2_with fail
  refine (table1_any _ _ _).mono ?_
  rintro e q1 ⟨rfl, b⟩
  have B1 := Lib.hid (B0.out.trans (b.mono B0.out.size))
  clear b B0
  go_wp2_with fail
  refine (table1_any _ _ _).mono ?_
  rintro e q2 ⟨rfl, b⟩
  have B2 := Lib.hid (B1.out.trans (b.mono B1.out.size))
  clear b B1
  go_wp2_with fail
  refine (table1_any _ _ _).mono ?_
  rintro e q3 ⟨rfl, b⟩
  have B3 := Lib.hid (B2.out.trans (b.mono B2.out.size))
  clear b B2
  go_wp2_with fail
  refine (table1_any _ _ _).mono ?_
  rintro e q4 ⟨rfl, b⟩
  have B4 := Lib.hid (B3.out.trans (b.mono B3.out.size))
  clear b B3
  go_wp2_with fail
  refine (table1_any _ _ _).mono ?_
  rintro e q5 ⟨rfl, b⟩
  have B5 := Lib.hid (B4.out.trans (b.mono B4.out.size))
  clear b B4
  go_wp2_with fail
  refine (table1_any _ _ _).mono ?_
  rintro e q6 ⟨rfl, b⟩
  have B6 := Lib.hid (B5.out.trans (b.mono B5.out.size))
  clear b B5
  go_wp2_with fail
  refine (table1_any _ _ _).mono ?_
  rintro e q7 ⟨rfl, b⟩
  have B7 := Lib.hid (B6.out.trans (b.mono B6.out.size))
  clear b B6
  go_wp2_with fail
  refine (table1_any _ _ _).mono ?_
  rintro e q8 ⟨rfl, b⟩
  have B8 := Lib.hid (B7.out.trans (b.mono B7.out.size))
  clear b B7
  go_wp2_with fail
  refine (table1_any _ _ _).mono ?_
  rintro e q9 ⟨rfl, b⟩
  have B9 := Lib.hid (B8.out.trans (b.mono B8.out.size))
  clear b B8
  go_wp2_with fail
  refine (table1_any _ _ _).mono ?_
  rintro e q10 ⟨rfl, b⟩
  have B10 := Lib.hid (B9.out.trans (b.mono B9.out.size))
  clear b B9
  go_wp2_with fail
  refine (table1_any _ _ _).mono ?_
  rintro e q11 ⟨rfl, b⟩
  have B11 := Lib.hid (B10.out.trans (b.mono B10.out.size))
  clear b B10
  go_wp2_with fail
  refine (table1_any _ _ _).mono ?_
  rintro e q12 ⟨rfl, b⟩
  have B12 := Lib.hid (B11.out.trans (b.mono B11.out.size))
  clear b B11
  go_wp2_with fail
  refine (table1_any _ _ _).mono ?_
  rintro e q13 ⟨rfl, b⟩
  have B13 := Lib.hid (B12.out.trans (b.mono B12.out.size))
  clear b B12
  go_wp2_with fail
  refine (table1_any _ _ _).mono ?_
  rintro e q14 ⟨rfl, b⟩
  have B14 := Lib.hid (B13.out.trans (b.mono B13.out.size))
  clear b B13
  go_wp2_with fail
  refine (table1_any _ _ _).mono ?_
  rintro e q15 ⟨rfl, b⟩
  have B15 := Lib.hid (B14.out.trans (b.mono B14.out.size))
  clear b B14
  go_wp2_with fail
  refine (table1_any _ _ _).mono ?_
  rintro e q16 ⟨rfl, b⟩
  have B16 := Lib.hid (B15.out.trans (b.mono B15.out.size))
  clear b B15
  go_wp2_with fail
  refine (table1_any _ _ _).mono ?_
  rintro e q17 ⟨rfl, b⟩
  have B17 := Lib.hid (B16.out.trans (b.mono B16.out.size))
  clear b B16
  go_wp2_with fail
  refine (table1_any _ _ _).mono ?_
  rintro e q18 ⟨rfl, b⟩
  have B18 := Lib.hid (B17.out.trans (b.mono B17.out.size))
  clear b B17
  go_wp2_with fail
  refine (table1_any _ _ _).mono ?_
  rintro e q19 ⟨rfl, b⟩
  have B19 := Lib.hid (B18.out.trans (b.mono B18.out.size))
  clear b B18
  go_wp2_with fail
  refine (table1_any _ _ _).mono ?_
  rintro e q20 ⟨rfl, b⟩
  have B20 := Lib.hid (B19.out.trans (b.mono B19.out.size))
  clear b B19
  go_wp2_with fail
  refine (table1_any _ _ _).mono ?_
  rintro e q21 ⟨rfl, b⟩
  have B21 := Lib.hid (B20.out.trans (b.mono B20.out.size))
  clear b B20
  go_wp2_with fail
  refine (table1_any _ _ _).mono ?_
  rintro e q22 ⟨rfl, b⟩
  have B22 := Lib.hid (B21.out.trans (b.mono B21.out.size))
  clear b B21
  go_wp2_with fail
  refine (table1_any _ _ _).mono ?_
  rintro e q23 ⟨rfl, b⟩
  have B23 := Lib.hid (B22.out.trans (b.mono B22.out.size))
  clear b B22
  go_wp2_with fail
  refine (table1_any _ _ _).mono ?_
  rintro e q24 ⟨rfl, b⟩
  have B24 := Lib.hid (B23.out.trans (b.mono B23.out.size))
  clear b B23
  go_wp2_with fail
  refine (table1_any _ _ _).mono ?_
  rintro e q25 ⟨rfl, b⟩
  have B25 := Lib.hid (B24.out.trans (b.mono B24.out.size))
  clear b B24
  go_wp2_with fail
  refine (table1_any _ _ _).mono ?_
  rintro e q26 ⟨rfl, b⟩
  have B26 := Lib.hid (B25.out.trans (b.mono B25.out.size))
  clear b B25
  go_wp2_with fail
  refine (table1_any _ _ _).mono ?_
  rintro e q27 ⟨rfl, b⟩
  have B27 := Lib.hid (B26.out.trans (b.mono B26.out.size))
  clear b B26

  have hq : q27.heap[w.heap.size]? = some (.cells Try.zeroCells156 156 (0, 0)) := (B27.out.block _ (lt_of_block HH1.out)).trans HH1.out
  have hth := Lib.hid (zero_there hq)
  obtain ⟨h1, h2⟩ := table_laid hq
  have H1 := Lib.hid h1
  have H2 := Lib.hid h2
  clear hq h1 h2 HH1
  dsimp only
  rename_i hK
  refine hK _ _ ?_
  refine wpList_built rfl 156 _ tblC rfl (by kernel_rfl) ?_
  refine wpList_store_mid rfl 156 (.tmp 0) (.tmp 60) rfl w.heap.size 0 tblC rfl rfl hth.out (by kernel_rfl) (by kernel_rfl) ?_
  generalize q27.setCells w.heap.size 0 tblC.toList = q28 at *
  go_wp2_with fail
  refine bodyPost_ret (v := .agg tblC) (results_cell_row Try.results91 _ q28 w.heap.size 156 tblC (0, 0) _ rfl H1.out Try.underlying156 rfl (by kernel_rfl)) rfl ⟨rfl, ?_⟩
  have h3 := HB1.out.trans (B27.out.mono HB1.out.size)
  exact h3.trans H2.out
end Go.Proofs.Ytecemlamoiepdaa
