/- morainelaw22.of: a list made of words, and read back. -/
import Derived.Test.YtecemlamoiepdaaLists5
import Derived.Test.YtecemlamoiepdaaApply2
namespace Go.Proofs.Ytecemlamoiepdaa
open Go.RowKit

/-- words that lie outside a heap -/
structure Kept (hb : HB) (W : World) (v : Value) (ws : List Nat) : Prop where
  sl : SlWords W v ws
  out : ∀ k, v.ownBlock = some k → ¬ hb.has k

theorem Kept.lt {hb : HB} {W : World} {v : Value} {ws : List Nat} (h : Kept hb W v ws) {k : Nat} (hk : v.ownBlock = some k) : k < W.heap.size := by
  rcases h.sl with ⟨rfl, _⟩ | ⟨b, o, c, rfl, hb, _⟩
  · cases hk
  · cases hk; exact hb
theorem Kept.moves {hb : HB} {W W' : World} {v : Value} {ws : List Nat} (h : Kept hb W v ws) (m : Moves hb W W') : Kept hb W' v ws :=
  ⟨h.sl.keep m.size fun k hk => m.block k (h.lt hk) (h.out k hk), h.out⟩
/-- of the call's own, made behind a heap -/
theorem Kept.own {hb : HB} {M : Hp} {w W : World} {v : Value} {ws : List Nat} (r : Rep hb M w) (h : OwnW W v ws) (hk : ∀ k, v.ownBlock = some k → w.heap.size ≤ k) : Kept hb W v ws :=
  ⟨h.sl, fun k h1 h2 => by have := hk k h1; have := r.lt k h2; omega⟩

/-- a list made: the heap has grown by so many pairs -/
structure Grew (hb : HB) (M : Hp) (n : Nat) (w : World) (M' : Hp) (n' : Nat) (w' : World) : Prop where
  rep : Rep hb M' w'
  pk : PK M' n'
  g : M.Grown M'
  mv : Moves hb w w'

theorem Grew.refl {hb : HB} {M : Hp} {n : Nat} {w : World} (r : Rep hb M w) (pk : PK M n) : Grew hb M n w M n w := ⟨r, pk, Hp.Grown.refl M, .refl _ _⟩
theorem Grew.trans {hb : HB} {M M' M'' : Hp} {n n' n'' : Nat} {w w' w'' : World} (h : Grew hb M n w M' n' w') (k : Grew hb M' n' w' M'' n'' w'') : Grew hb M n w M'' n'' w'' := ⟨k.rep, k.pk, h.g.trans k.g, h.mv.trans k.mv⟩
theorem Grew.below {hb : HB} {M M' : Hp} {n n' : Nat} {w w' w'' : World} (h : Grew hb M n w M' n' w') (b : Below w'.heap.size w' w'') : Grew hb M n w M' n' w'' := ⟨h.rep.below b, h.pk, h.g, h.mv.trans (.of_below b)⟩
theorem Grew.limit {hb : HB} {M M' : Hp} {n n' : Nat} {w w' : World} (h : Grew hb M n w M' n' w') : M'.limit = M.limit := h.g.1

theorem rowL_snd' (n : Nat) (l : List Nat) : (rowL n l).map (fun x => x.2) = l := rowL_snd n l

set_option maxRecDepth 20000 in
set_option maxHeartbeats 2000000 in
theorem of_any {hb : HB} {M : Hp} {w : World} {n0 : Nat} (r : Rep hb M w) (pk : PK M n0) (sv : Value) (ws : List Nat) (hs : Kept hb w sv ws) (hx : ∀ x ∈ ws, x < 18446744073709551616) (hroom : n0 + ws.length ≤ 32 * M.limit) :
    Calls Try.prog 57 #[.pointer (some ⟨hb.h, 0, none⟩), sv] w fun e w' => ∃ (M' : Hp) (v : Nat), e = .returned (.tuple #[.int .u64 (v : Nat), .bool true]) ∧ Grew hb M n0 w M' (n0 + ws.length) w' ∧ LSeg M' v (rowL n0 ws) 20 := by
  have hlim := r.ok.lim
  have hlen : ws.length ≤ 32768 := by omega
  have hA := apply_list r pk sv ws hs.sl hs.out hx hroom
  have hB : ∀ (M' : Hp) (v : Nat) (w1 : World), Rep hb M' w1 → LSeg M' v (rowL n0 ws) 20 → _ := fun M' v w1 h1 h2 => list_any h1 h2 (h2.lt h1.ok (by omega)) (by rw [rowL_len]; exact hlen)
  have HS := Lib.hid hs
  have HB := Lib.hid hB
  have HLEN := Lib.hid hlen
  have R := Lib.hid r
  clear r pk hs hx hroom hB hlim hlen
  go_enter Try.func57, Try.ntmps57
  go_wp2_with fail
  refine hA.mono ?_
  rintro e w1 ⟨M', v, rfl, r1, p1, g1, l1, m1⟩
  have hb1 := HB.out M' v w1 r1 l1
  have G1 : Hid (Grew hb M n0 w M' (n0 + ws.length) w1) := Lib.hid ⟨r1, p1, g1, m1⟩
  have L1 := Lib.hid l1
  clear r1 p1 g1 l1 m1 hA
  go_wp2_with fail
  refine hb1.mono ?_
  rintro e w2 ⟨u, rfl, o2, k2, b2⟩
  rw [rowL_snd'] at o2
  have G2 := Lib.hid (G1.out.below b2)
  have hs2 := (HS.out.moves G2.out.mv).sl
  have hsame := same_any u sv ws ws w2 o2.sl hs2 (by have := HLEN.out; omega) (by have := HLEN.out; omega)
  rw [decide_eq_true rfl] at hsame
  clear o2 k2 b2 hs2 hb1
  go_wp2_with fail
  refine hsame.mono ?_
  rintro e w3 ⟨rfl, b3⟩
  have G3 := Lib.hid (G2.out.below b3)
  clear b3 hsame
  go_wp2_with fail
  go_ret2
  exact ⟨M', v, by simp, G3.out, L1.out⟩
end Go.Proofs.Ytecemlamoiepdaa
