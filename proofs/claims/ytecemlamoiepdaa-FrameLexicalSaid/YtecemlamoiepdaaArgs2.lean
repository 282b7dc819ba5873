/- Slices of slices of integers that came in; a number's low 16 bits; own rows of words in a turning world. No program in sight. -/
import Derived.Test.YtecemlamoiepdaaArgs
import Derived.Deep.Matrix
namespace Go.Proofs.Ytecemlamoiepdaa
open Go.ChangeShapes Go.WideShapes Go.ChangeAt Go.RowKit

theorem i64_and16 (x : Int) : bits .and .i64 x 65535 = x % 65536 := by
  have e1 : (BitVec.ofInt IntKind.i64.bits x).toNat = (x % 18446744073709551616).toNat := by simp [IntKind.bits]
  have e2 : (BitVec.ofInt IntKind.i64.bits 65535).toNat = 2 ^ 16 - 1 := by simp [IntKind.bits]
  unfold bits
  simp only [BitVec.toNat_and, e1, e2, Nat.and_two_pow_sub_one_eq_mod]
  rw [IntKind.wrap_i64]
  omega

/-- a slice of slices of integers -/
def RowsAt (k : IntKind) (w : World) (v : Value) (rows : List (List Int)) : Prop :=
  (v = .slice none 0 0 ∧ rows = []) ∨ ∃ (ad : Addr) (cap : Nat), v = .slice (some ad) rows.length cap ∧ rows.length ≤ maxLen ∧ ∀ (i : Nat) (r : List Int), rows[i]? = some r → ∃ u, w.cell? (ad.add i) = some u ∧ IntsAt k w u r

theorem RowsAt.len {k : IntKind} {w : World} {v : Value} {rows : List (List Int)} (h : RowsAt k w v rows) : rows.length ≤ maxLen ∧ ∃ a cap, v = .slice a rows.length cap := by
  rcases h with ⟨rfl, rfl⟩ | ⟨ad, cap, rfl, hm, _⟩
  · exact ⟨Nat.zero_le _, none, 0, rfl⟩
  · exact ⟨hm, _, cap, rfl⟩

theorem RowsAt.form {k : IntKind} {w : World} {v : Value} {rows : List (List Int)} (h : RowsAt k w v rows) (hn : 0 < rows.length) :
    ∃ b o cap, v = .slice (some ⟨b, o, none⟩) rows.length cap ∧ b < w.heap.size ∧ ∀ (i : Nat) (r : List Int), rows[i]? = some r → ∃ u, w.cell? ⟨b, o + i, none⟩ = some u ∧ IntsAt k w u r := by
  rcases h with ⟨rfl, rfl⟩ | ⟨⟨b, o, sp⟩, cap, rfl, hm, hc⟩
  · simp at hn
  · obtain ⟨x, hx⟩ : ∃ x, rows[0]? = some x := ⟨_, List.getElem?_eq_getElem hn⟩
    obtain ⟨u, h0, _⟩ := hc 0 x hx
    have hs : sp = none := by simpa [Addr.add] using World.cell?_spot h0
    subst hs
    refine ⟨b, o, cap, rfl, by simpa [Addr.add] using cell_lt h0, fun i r hr => ?_⟩
    obtain ⟨u, h1, h2⟩ := hc i r hr
    rw [Addr.add_mid] at h1
    exact ⟨u, h1, h2⟩

theorem RowsAt.below {k : IntKind} {w w' : World} {v : Value} {rows : List (List Int)} (h : RowsAt k w v rows) (hb : Below w.heap.size w w') : RowsAt k w' v rows := by
  rcases h with h | ⟨ad, cap, rfl, hm, hc⟩
  · exact .inl h
  · refine .inr ⟨ad, cap, rfl, hm, fun i r hr => ?_⟩
    obtain ⟨u, h1, h2⟩ := hc i r hr
    exact ⟨u, by rw [World.cell?_of_block (w := w) (hb.block _ (cell_lt h1))]; exact h1, h2.below hb⟩

/-- an argument's reading, opened; n bounds what it holds -/
theorem open_rows {H : Type} {enc : TypeId × Value → H} {P : Program} {w : World} {base : Nat} {held : Bool} {t e q : TypeId} {k : IntKind} {fuel : Nat} {v : Value} {x : DataW H × List MemPlace}
    (ht : P.underlying t = some (.slice e)) (he : P.underlying e = some (.slice q)) (hq : P.underlying q = some (.int k)) (ce : P.cellsOf e = 1) (cq : P.cellsOf q = 1)
    (h : DataW.trod enc P w base (fun _ => true) held fuel t v.cells.toList = some x) (a0 : Option Addr) (l c : Nat) (hv : v = .slice a0 l c) :
    ∃ rows : List (List Int), RowsAt k w v rows ∧ (∀ r ∈ rows, ∀ n ∈ r, (Lit.int k n).wf = true) ∧
      (∀ r ∈ rows, r = [] ∨ ∃ (xs sp ys zs : List (DataW H)), x.1 = .slice xs sp ∧ DataW.slice ys zs ∈ xs ∧ r.length = ys.length) := by
  subst hv
  rcases Go.Deep.open_int_rows ht he hq ce cq h with ⟨hcs, hx⟩ | ⟨a, len, cap, A, L, C, Z, hcs, _, hl, hm, hx, hcell⟩
  · exact ⟨[], .inl ⟨by simpa [Value.cells] using hcs, rfl⟩, by simp, by simp⟩
  · simp [Value.cells] at hcs
    obtain ⟨rfl, rfl, rfl⟩ := hcs
    have hlen : ((List.range l).map fun r => (Z r).take (L r)).length = l := by simp
    have hget : ∀ (i : Nat) (r : List Int), ((List.range l).map fun r => (Z r).take (L r))[i]? = some r → i < l ∧ r = (Z i).take (L i) := by
      intro i r hr
      have hi : i < l := by have := (List.getElem?_eq_some_iff.1 hr).1; rw [hlen] at this; exact this
      rw [List.getElem?_map, List.getElem?_range hi] at hr
      cases hr
      exact ⟨hi, rfl⟩
    refine ⟨(List.range l).map fun r => (Z r).take (L r), .inr ⟨a, c, by rw [hlen], by rw [hlen]; omega, ?_⟩, ?_, ?_⟩
    · intro i r hr
      obtain ⟨hi, rfl⟩ := hget i r hr
      obtain ⟨h1, h2, h3, h4, h5, h6, h7⟩ := hcell i (by omega)
      refine ⟨_, h1, ?_⟩
      have hL : ((Z i).take (L i)).length = L i := by rw [List.length_take]; omega
      cases hA : A i with
      | none =>
        have hc0 := h6 hA
        have hl0 : L i = 0 := by omega
        exact .inl ⟨by rw [hl0, hc0], by rw [hl0]; simp⟩
      | some a' =>
        refine .inr ⟨a', C i, by rw [hL], by rw [hL]; omega, fun j y hy => ?_⟩
        have hj : j < L i := by have := (List.getElem?_eq_some_iff.1 hy).1; omega
        rw [(h7 a' hA).2 j (by omega)]
        rw [List.getElem?_take_of_lt hj] at hy
        rw [List.getD_eq_getElem?_getD, hy]; rfl
    · intro r hr n hn
      obtain ⟨i, hi, rfl⟩ := List.mem_map.1 hr
      have hi2 := List.mem_range.1 hi
      exact (hcell i (by omega)).2.2.2.2.1 n (List.mem_of_mem_take hn)
    · intro r hr
      obtain ⟨i, hi, rfl⟩ := List.mem_map.1 hr
      have hi2 := List.mem_range.1 hi
      obtain ⟨h1, h2, h3, h4, h5, h6, h7⟩ := hcell i (by omega)
      cases hA : A i with
      | none =>
        have hc0 := h6 hA
        have hl0 : L i = 0 := by omega
        exact .inl (by rw [hl0]; simp)
      | some a' =>
        refine .inr ⟨_, _, lits k ((Z i).take (L i)), lits k ((Z i).drop (L i)), by rw [hx], List.mem_map.2 ⟨i, hi, ?_⟩, by simp [lits]⟩
        unfold Go.Deep.intRow; rw [hA]
end Go.Proofs.Ytecemlamoiepdaa
