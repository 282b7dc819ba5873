/- Rows of words of the call's own: nil, their form; words of small numbers. No program in sight. -/
import Derived.Test.YtecemlamoiepdaaArgs2
namespace Go.Proofs.Ytecemlamoiepdaa
open Go.ChangeShapes Go.WideShapes Go.ChangeAt Go.RowKit

def fld8 (r : List Int) : List Nat := r.map fun x => x.toNat * 8

theorem fld8_snoc {r : List Int} {n : Nat} {x : Int} (h : r[n]? = some x) : fld8 (r.take (n + 1)) = fld8 (r.take n) ++ [x.toNat * 8] := by
  unfold fld8
  rw [List.take_add_one, h]
  simp

theorem one_cell (w : World) (u : Value) (e : TypeId) : SlCells (w.alloc (.cells #[u] e)) (.slice (some ⟨w.heap.size, 0, none⟩) 1 1) 1 [u] := by
  refine .inr ⟨w.heap.size, 0, 1, rfl, by simp, fun j y hy => ?_⟩
  match j with
  | 0 => cases hy; simp
  | j + 1 => cases hy

theorem OwnW.nil (w : World) : OwnW w (.slice none 0 0) [] := ⟨rfl, .inl ⟨rfl, rfl⟩⟩

theorem OwnW.slice {w : World} {v : Value} {ws : List Nat} (h : OwnW w v ws) : ∃ a cap, v = .slice a ws.length cap := by
  rcases h.sl with ⟨rfl, rfl⟩ | ⟨b, o, cap, rfl, _⟩
  · exact ⟨none, 0, rfl⟩
  · exact ⟨_, cap, rfl⟩

theorem wv_mul {x : Int} (h : 0 ≤ x) : wv (x.toNat * 8) = .int .u64 (x * 8) := by unfold wv; congr 1; omega
end Go.Proofs.Ytecemlamoiepdaa
