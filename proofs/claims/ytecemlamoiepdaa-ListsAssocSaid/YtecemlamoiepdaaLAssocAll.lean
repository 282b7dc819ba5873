/- ListsAssoc's walk with the judge's contract. -/
import Derived.Test.YtecemlamoiepdaaLAssocWalk
import Derived.Test.YtecemlamoiepdaaSames2
namespace Go.Proofs.Ytecemlamoiepdaa
open Go.RowKit

theorem lists_assoc_all (sv : Value) (x : Int) (keys : List Int) (w : World) (hz : IntsAt .i32 w sv keys) (hr : ∀ z ∈ keys, -2147483648 ≤ z ∧ z < 2147483648) (hx : -2147483648 ≤ x ∧ x < 2147483648) :
    Calls Try.prog 11 #[sv, .int .i32 x] w fun e w' => e = .returned (.bool true) ∧ Below w.heap.size w w' :=
  lists_assoc_any sv x keys w hz hr hx fun hb M ht => sameOk2 hb M ht (fixW x) (fixW_lt x) (nopair (by have := fixW_tag x; unfold tagOf; omega)) (fixL keys) fixL_lt
end Go.Proofs.Ytecemlamoiepdaa
