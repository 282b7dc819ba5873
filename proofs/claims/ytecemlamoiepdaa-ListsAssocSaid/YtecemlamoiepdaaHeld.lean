/- A region that draws its order, by hand: an operation whose guard does not hold is passed over; one that yields a known value is taken. No program in sight. -/
import Derived.Test.YtecemlamoiepdaaJudge
import Derived.Deep.Cut
import Derived.Deep.RegionHeld3
namespace Go.Proofs.Ytecemlamoiepdaa
open Go.RowKit

section
variable {P : Program} {ops : Array Oper} {Q : Exit → Act → World → Prop} {md : Region.Mode} {S : World → Prop}

/-- the beginning: what is asked once a region -/
theorem held_begin {id : Nat} {a : Act} {w : World} (hm : P.follows .mixedOrders = true) (hS : S w.drew) (hs : Region.noSelect ops = true) (hQ : ∀ (d : Tmp) v c (a : Act) w, Q (.panic c) (a.put (some d) v) w → Q (.panic c) a w)
    (h : Hid (Region.noSelect ops = true) → Hid (∀ (d : Tmp) v c (a : Act) w, Q (.panic c) (a.put (some d) v) w → Q (.panic c) a w) → S w.drew → wpAnyH P .any ops Q S ops.size (Array.replicate ops.size false) a w.drew) : (Code.region id ops true).wp P Q a w :=
  wp_region_held_drew hm hS (h (Lib.hid hs) (Lib.hid hQ))

theorem held_skip {i : Nat} {d : Tmp} {fuel : Nat} {listed : Array Bool} {a : Act} {w : World} (hs : Hid (Region.noSelect ops = true)) (hQ : Hid (∀ (d : Tmp) v c (a : Act) w, Q (.panic c) (a.put (some d) v) w → Q (.panic c) a w)) (hd : (ops[i]?).map (·.dst) = some (some d))
    (hf : (Region.free md ops listed i && (Region.ready md ops listed).contains i) = true) (hw : (ops[i]?).map (fun o => Region.wanted o (yielded ops a.tmps)) = some false) (hS : S w)
    (h : wpAnyH P md ops Q S fuel (listed.setIfInBounds i true) (a.put (some d) undef) w) : wpAnyH P md ops Q S (fuel + 1) listed a w := by
  rw [Bool.and_eq_true] at hf
  cases ho : ops[i]? with
  | none => rw [ho] at hd; cases hd
  | some o =>
    rw [ho] at hd hw
    simp only [Option.map_some, Option.some.injEq] at hd hw
    exact wpAnyH_take ho hs.out hf.1 hf.2 (by rw [hd]; exact hQ.out _ _) (.inr ⟨hw, rfl⟩) hS (by rw [hd]; exact h)

theorem held_yes {i : Nat} {d : Tmp} {v : Value} {fuel : Nat} {listed : Array Bool} {a : Act} {w : World} (hs : Hid (Region.noSelect ops = true)) (hQ : Hid (∀ (d : Tmp) v c (a : Act) w, Q (.panic c) (a.put (some d) v) w → Q (.panic c) a w)) (hd : (ops[i]?).map (·.dst) = some (some d))
    (hf : (Region.free md ops listed i && (Region.ready md ops listed).contains i) = true) (hw : (ops[i]?).map (fun o => Region.wanted o (yielded ops a.tmps)) = some true) (hS : S w)
    (hy : ∀ w, S w → (ops[i]?).map (fun o => (execOp a.eval o).run P w) = some (.ok (.value v) w))
    (h : wpAnyH P md ops Q S fuel (listed.setIfInBounds i true) (a.put (some d) v) w) : wpAnyH P md ops Q S (fuel + 1) listed a w := by
  rw [Bool.and_eq_true] at hf
  cases ho : ops[i]? with
  | none => rw [ho] at hd; cases hd
  | some o =>
    rw [ho] at hd hw
    simp only [Option.map_some, Option.some.injEq] at hd hw
    refine wpAnyH_take (v := v) ho hs.out hf.1 hf.2 (by rw [hd]; exact hQ.out _ _) (.inl ⟨hw, fun w hSw => ?_⟩) hS (by rw [hd]; exact h)
    have := hy w hSw
    rw [ho] at this
    simpa using this
end
end Go.Proofs.Ytecemlamoiepdaa
