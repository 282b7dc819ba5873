/- The contract of lists.find, by the judge's contract. -/
import Derived.Test.YtecemlamoiepdaaJudge
namespace Go.Proofs.Ytecemlamoiepdaa
open Go.RowKit Go.Shelf
attribute [local go_sem] Oper.semAt_some

/-- what the judge answers, of a word against one of many -/
def SameOk (hb : HB) (M : Hp) (kd : Int) (x : Nat) (ks : List Nat) : Prop :=
  ∀ (W : World) (J c y : Nat), y ∈ ks → Rep hb M W → Jd hb W J c → c ≤ 10000 → Calls Try.prog 100 #[.pointer (some ⟨J, 0, none⟩), .int .i64 kd, .int .u64 (x : Nat), .int .u64 (y : Nat)] W fun e w' =>
    e = .returned (.tuple #[.bool (decide (x = y)), .int .i64 0]) ∧ Rep hb M w' ∧ (∃ c1 : Nat, Jd hb w' J c1 ∧ c1 ≤ c + 1) ∧ w'.os = W.os ∧ w'.tape = W.tape ∧ w'.output = W.output ∧ W.heap.size ≤ w'.heap.size ∧ ∀ k, k < W.heap.size → k ≠ J → w'.heap[k]? = W.heap[k]?

/-- what stands while find goes on -/
structure FiAt (hb : HB) (M : Hp) (w : World) (kd : Int) (x : Nat) (cb : Bool) (B J c : Nat) (W : World) : Prop where
  rep : Rep hb M W
  b0 : W.heap[B]? = some (.cells #[.pointer (some ⟨hb.h, 0, none⟩)] 23 (0, 0))
  b1 : W.heap[B + 1]? = some (.cells #[.int .i64 kd] 3 (0, 0))
  b2 : W.heap[B + 1 + 1]? = some (.cells #[.int .u64 (x : Nat)] 29 (0, 0))
  b3 : W.heap[B + 1 + 1 + 1]? = some (.cells #[.bool cb] 4 (0, 0))
  b4 : W.heap[B + 1 + 1 + 1 + 1]? = some (.cells #[.int .u64 0] 29 (0, 0))
  b5 : W.heap[B + 1 + 1 + 1 + 1 + 1]? = some (.cells #[.int .i64 0] 24 (0, 0))
  jd : Jd hb W J c
  jb : W.heap[J + 1]? = some (.cells #[.pointer (some ⟨J, 0, none⟩)] 164 (0, 0))
  below : Below B w W

/-- found: both results set -/
structure FoAt (w : World) (B x : Nat) (W : World) : Prop where
  b4 : W.heap[B + 1 + 1 + 1 + 1]? = some (.cells #[.int .u64 (x : Nat)] 29 (0, 0))
  b5 : W.heap[B + 1 + 1 + 1 + 1 + 1]? = some (.cells #[.int .i64 0] 24 (0, 0))
  below : Below B w W

theorem FiAt.step {hb : HB} {M : Hp} {w W W' : World} {kd : Int} {x : Nat} {cb : Bool} {B J c Bw : Nat} (h : FiAt hb M w kd x cb B J c W) (hw : J + 1 < Bw) (hJ : B + 6 ≤ J) (hhb : ∀ k, hb.has k → k < B) (hk : ∀ k cs t z, k ≠ Bw → W.heap[k]? = some (.cells cs t z) → W'.heap[k]? = W.heap[k]?) (hb' : B ≤ W.heap.size → Below B W W') : FiAt hb M w kd x cb B J c W' := by
  have hs : B ≤ W.heap.size := Nat.le_of_lt (lt_of_block h.b0)
  have hbb := hb' hs
  exact ⟨h.rep.of_blocks fun k hh => hbb.block k (hhb k hh), (hk _ _ _ _ (by omega) h.b0).trans h.b0, (hk _ _ _ _ (by omega) h.b1).trans h.b1, (hk _ _ _ _ (by omega) h.b2).trans h.b2, (hk _ _ _ _ (by omega) h.b3).trans h.b3, (hk _ _ _ _ (by omega) h.b4).trans h.b4, (hk _ _ _ _ (by omega) h.b5).trans h.b5,
    ⟨(hk _ _ _ _ (by omega) h.jd.at').trans h.jd.at', h.jd.out⟩, (hk _ _ _ _ (by omega) h.jb).trans h.jb, h.below.trans hbb⟩

theorem FoAt.step {w W W' : World} {B Bw x : Nat} (h : FoAt w B x W) (hw : B + 6 < Bw) (hk : ∀ k cs t z, k ≠ Bw → W.heap[k]? = some (.cells cs t z) → W'.heap[k]? = W.heap[k]?) (hb' : B ≤ W.heap.size → Below B W W') : FoAt w B x W' := by
  have hs : B ≤ W.heap.size := by have := lt_of_block h.b4; omega
  exact ⟨(hk _ _ _ _ (by omega) h.b4).trans h.b4, (hk _ _ _ _ (by omega) h.b5).trans h.b5, h.below.trans (hb' hs)⟩

/-- behind what only lays blocks -/
theorem FiAt.on {hb : HB} {M : Hp} {w W W' : World} {kd : Int} {x : Nat} {cb : Bool} {B J c : Nat} (h : FiAt hb M w kd x cb B J c W) (hJ : B + 6 ≤ J) (b : Below W.heap.size W W') : FiAt hb M w kd x cb B J c W' := by
  have h1 := lt_of_block h.jb
  exact ⟨h.rep.below b, (b.block _ (by omega)).trans h.b0, (b.block _ (by omega)).trans h.b1, (b.block _ (by omega)).trans h.b2, (b.block _ (by omega)).trans h.b3, (b.block _ (by omega)).trans h.b4, (b.block _ (by omega)).trans h.b5, h.jd.below b, (b.block _ h1).trans h.jb, h.below.trans (b.mono (by omega))⟩

/-- behind the judge's call -/
theorem FiAt.judged {hb : HB} {M : Hp} {w W W' : World} {kd : Int} {x : Nat} {cb : Bool} {B J c c1 : Nat} (h : FiAt hb M w kd x cb B J c W) (hJ : B + 6 ≤ J) (r : Rep hb M W') (j : Jd hb W' J c1) (h1 : W'.os = W.os) (h2 : W'.tape = W.tape) (h3 : W'.output = W.output) (h4 : W.heap.size ≤ W'.heap.size) (h5 : ∀ k, k < W.heap.size → k ≠ J → W'.heap[k]? = W.heap[k]?) : FiAt hb M w kd x cb B J c1 W' := by
  have hl := lt_of_block h.jb
  exact ⟨r, (h5 _ (by omega) (by omega)).trans h.b0, (h5 _ (by omega) (by omega)).trans h.b1, (h5 _ (by omega) (by omega)).trans h.b2, (h5 _ (by omega) (by omega)).trans h.b3, (h5 _ (by omega) (by omega)).trans h.b4, (h5 _ (by omega) (by omega)).trans h.b5, j, (h5 _ hl (by omega)).trans h.jb,
    h.below.trans ⟨h1, h2, h3, h4, fun k hk => h5 k (by omega) (by omega)⟩⟩

/-- both results set -/
theorem fo_next {hb : HB} {M : Hp} {w W : World} {kd : Int} {x z : Nat} {cb : Bool} {B J c N : Nat} (h : FiAt hb M w kd x cb B J c W) (hN : B + 6 ≤ N) :
    KeepsFrom N W ((W.setCell ⟨B + 1 + 1 + 1 + 1, 0, none⟩ (.int .u64 (z : Nat))).setCell ⟨B + 1 + 1 + 1 + 1 + 1, 0, none⟩ (.int .i64 0)) ∧ FoAt w B z ((W.setCell ⟨B + 1 + 1 + 1 + 1, 0, none⟩ (.int .u64 (z : Nat))).setCell ⟨B + 1 + 1 + 1 + 1 + 1, 0, none⟩ (.int .i64 0)) := by
  have ho : ∀ k, k ≠ B + 1 + 1 + 1 + 1 → k ≠ B + 1 + 1 + 1 + 1 + 1 → ((W.setCell ⟨B + 1 + 1 + 1 + 1, 0, none⟩ (.int .u64 (z : Nat))).setCell ⟨B + 1 + 1 + 1 + 1 + 1, 0, none⟩ (.int .i64 0)).heap[k]? = W.heap[k]? := fun k h1 h2 => (Below.heap_setCell _ _ _ _ h2).trans (Below.heap_setCell _ _ _ _ h1)
  refine ⟨⟨by simp [World.setCell], fun k o hk hc hn => (ho k (by omega) (by omega)).trans hc⟩, ?_, ?_, ?_⟩
  · exact (Below.heap_setCell _ _ _ _ (show B + 1 + 1 + 1 + 1 ≠ B + 1 + 1 + 1 + 1 + 1 by omega)).trans (box_set h.b4 _)
  · exact box_set ((Below.heap_setCell _ _ _ _ (show B + 1 + 1 + 1 + 1 + 1 ≠ B + 1 + 1 + 1 + 1 by omega)).trans h.b5) _
  · exact ((h.below).setCell (p := ⟨B + 1 + 1 + 1 + 1, 0, none⟩) (by show B ≤ B + 1 + 1 + 1 + 1; omega) _).setCell (p := ⟨B + 1 + 1 + 1 + 1 + 1, 0, none⟩) (by show B ≤ B + 1 + 1 + 1 + 1 + 1; omega) _
end Go.Proofs.Ytecemlamoiepdaa
