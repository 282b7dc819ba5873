/- A range over a function, in the wide fence: the iterator may write one box of its own (Bw) between two rounds, and names the blocks that a round has to leave (Kk). -/
import Derived.RangeFuncNested
import Derived.RangeFuncBound
import Derived.RangeFuncCalls
import Derived.RangeFuncLeaves
namespace Go.Proofs.Ytecemlamoiepdaa
open Go.RowKit

/-- a step of the iterator's: new blocks, or its own box -/
def AbidesV {β : Type} (Bw : Nat) (J : β → World → Prop) : Prop :=
  ∀ s W W' row, J s W → W.grownBy W' row → (∀ r, row = some r → r = Bw) → J s W'

/-- .. and the loop's own records, from B on -/
def OwnV {β : Type} (Bw B : Nat) (I : β → World → Prop) : Prop :=
  ∀ s W W' row, I s W → W.grownBy W' row → (∀ r, row = some r → r = Bw ∨ (B ≤ r ∧ ∃ o : Obj, W.heap[r]? = some o ∧ o.isCells = false)) → I s W'

/-- what a round has to leave as it was -/
def KeepK (Kk : Nat → Prop) (W W' : World) : Prop := ∀ k, Kk k → W'.heap[k]? = W.heap[k]?

/-- what an iterator gives: all of S, or, where a round has said 'no more', a part that is Sp -/
def SeqV {α : Type} (P : Program) (n g : Nat) (lb : Array Value) (encs : α → Array Value) (Kk : Nat → Prop) (Bw : Nat) (S Sp : List α → Prop) (Nx : List α → α → Prop) (w : World) : Prop :=
  ∀ (l : Nat) (J Jx : List α → World → Prop) (W : World), Below w.heap.size w W → AbidesV Bw J → AbidesV Bw Jx →
    (∀ pre x W1, J pre W1 → Nx pre x → YieldAt Fence.wide (n - 1) P l (encs x) W1 fun e W' =>
      (e = .returned (.bool true) ∧ J (pre ++ [x]) W' ∧ KeepK Kk W1 W' ∧ W1.heap.size ≤ W'.heap.size) ∨ (e = .returned (.bool false) ∧ Jx (pre ++ [x]) W')) →
    J [] W →
    CallsIn Fence.wide n P g (#[.func (.yield l) #[] #[]] ++ lb) W fun e W' => (∃ v, e = .returned v) ∧ ((∃ xs, S xs ∧ J xs W') ∨ (∃ pre, Sp pre ∧ Jx pre W'))

/-- how a round's body may be left -/
def roundV {α : Type} (B : Nat) (Kk : Nat → Prop) (I : List α → World → Prop) (Ix : Code → List α → World → Prop) (xs : List α) (W : World) : Exit → Act → World → Prop
  | .normal, _, W' => KeepsFrom B W W' ∧ KeepK Kk W W' ∧ I xs W'
  | .ret, _, W' => KeepsFrom B W W' ∧ Ix .ret xs W'
  | .exit id, _, W' => KeepsFrom B W W' ∧ Ix (.exit id) xs W'
  | .goto t, _, W' => KeepsFrom B W W' ∧ Ix (.goto t) xs W'
  | .panic _, _, _ => False
  | .outgrown, _, _ => False

theorem OwnV.put {β : Type} {Bw B : Nat} {I : β → World → Prop} (h : OwnV Bw B I) {s : β} {W : World} {l : Nat} {o : Obj} (o' : Obj) (hs : I s W) (hB : B ≤ l) (hl : W.heap[l]? = some o) (ho : o.isCells = false) : I s (W.putObj l o') :=
  h s W _ (some l) hs (grownBy_putObj' W l o') (fun r e => by cases e; exact .inr ⟨hB, o, hl, ho⟩)
theorem OwnV.alloc {β : Type} {Bw B : Nat} {I : β → World → Prop} (h : OwnV Bw B I) {s : β} {W : World} (o : Obj) (hs : I s W) : I s (W.alloc o) :=
  h s W _ none hs (World.grownBy_alloc W o none) (fun r e => by cases e)

/-- what speaks of blocks of cells other than the box, and of what lay below n₀ -/
theorem OwnV.of_cells {β : Type} {Bw B n₀ : Nat} (hBw : n₀ ≤ Bw) (hB : n₀ ≤ B) {I : β → World → Prop}
    (h : ∀ s W W', I s W → (∀ k cs t z, k ≠ Bw → W.heap[k]? = some (.cells cs t z) → W'.heap[k]? = W.heap[k]?) → (n₀ ≤ W.heap.size → Below n₀ W W') → I s W') : OwnV Bw B I := by
  intro s W W' row hs hg hr
  refine h s W W' hs (fun k cs t z hk hc => ?_) (fun hz => (Below.refl _ _).grown hg hz fun k e => ?_)
  · refine hg.block k (Array.getElem?_eq_some_iff.1 hc).1 fun e => ?_
    rcases hr k e.symm with rfl | ⟨_, o, ho, hn⟩
    · exact hk rfl
    · rw [hc] at ho; cases ho; cases hn
  · rcases hr k e with rfl | ⟨h1, _⟩
    · exact hBw
    · omega

/-- two facts beside each other -/
theorem OwnV.and {β : Type} {Bw B : Nat} {I I' : β → World → Prop} (h : OwnV Bw B I) (h' : OwnV Bw B I') : OwnV Bw B (fun s W => I s W ∧ I' s W) := fun s W W' row hs hg hr => ⟨h s W W' row hs.1 hg hr, h' s W W' row hs.2 hg hr⟩

theorem wpIn_range {α : Type} {P : Program} {n : Nat} {g : Operand} {ps : Array Tmp} {assign body : Code} {Q : Exit → Act → World → Prop} {a : Act} {w : World}
    {gf : Nat} {lb : Array Value} (hg : a.eval g = .func (.func gf) #[] lb) (eg : ∀ args w, (callFunc gf args).run P w = .ok (.enter gf args) w)
    {encs : α → Array Value} {Kk : Nat → Prop} {Bw : Nat} {S Sp : List α → Prop} {Nx : List α → α → Prop} (hseq : SeqV P (n - 1) gf lb encs Kk Bw S Sp Nx w) (hBw : Bw < w.heap.size) (hKk : ∀ k, Kk k → k < w.heap.size) (hps : ∀ x, (encs x).size = ps.size)
    (I : List α → World → Prop) (Ix : Code → List α → World → Prop) (hI : OwnV Bw w.heap.size I) (hIx : ∀ c, OwnV Bw w.heap.size (Ix c)) (h0 : I [] w)
    (hround : ∃ a₁ : α → Act, (∀ (l : Nat) (x : α) (W : World),
      assign.wpIn (Fence.wide.inRound l) (n - 1 - 1) P (Exit.then (fun a' W' => a' = a₁ x ∧ W' = W) (fun _ _ _ => False)) { tmps := (ps.zip (encs x)).foldl (fun t (p, v) => t.setIfInBounds p v) a.tmps, defers := [] } W) ∧
      ∀ (l : Nat) (pre : List α) (x : α) (W : World), I pre W → w.heap.size + 1 < W.heap.size → Nx pre x → body.wpIn (Fence.wide.inRound l) (n - 1 - 1) P (roundV w.heap.size Kk I Ix (pre ++ [x]) W) (a₁ x) W)
    (hdone : ∀ (D : Nat) (xs : List α) (W : World), w.heap.size ≤ D → S xs → I xs W → W.heap[D]? = some (.deferred (some [])) → Q .normal { a with defers := { target := .collected D, args := #[] } :: a.defers } W)
    (hstop : ∀ (D : Nat) (c : Code) (pre : List α) (W : World), w.heap.size ≤ D → Sp pre → Ix c pre W → W.heap[D]? = some (.deferred (some [])) → c.wpIn Fence.wide n P Q { a with defers := { target := .collected D, args := #[] } :: a.defers } W) :
    (Code.rangeFunc g ps assign body).wpIn Fence.wide n P Q a w := by
  obtain ⟨a₁, hassign, hbody⟩ := hround
  refine wpIn_rangeFunc fun fn hfn => ?_
  -- the two records of the loop: B the block of its deferred calls, B + 1 the loop's own
  generalize hB : w.heap.size = B at *
  let rc : LoopState → Option Code → Loop := fun st pe => { state := st, pending := pe, fn, tmps := a.tmps, params := ps, assign, body, defers := B }
  have hz : ((w.alloc (.deferred (some []))).alloc (.loop (rc .ready none))).heap.size = B + 2 := by simp [hB]
  have hrec : ((w.alloc (.deferred (some []))).alloc (.loop (rc .ready none))).heap[B + 1]? = some (.loop (rc .ready none)) := by
    have h := World.alloc_heap_new (w.alloc (.deferred (some []))) (.loop (rc .ready none))
    rwa [World.size_alloc, hB] at h
  have hdef : ((w.alloc (.deferred (some []))).alloc (.loop (rc .ready none))).heap[B]? = some (.deferred (some [])) := by
    have h := World.alloc_heap_new w (.deferred (some []))
    rw [hB] at h
    exact (Below.heap_alloc _ _ _ (by simp [hB])).trans h
  have hbel : Below B w ((w.alloc (.deferred (some []))).alloc (.loop (rc .ready none))) := ((Below.refl _ w).alloc (Nat.le_of_eq hB.symm) _).alloc (by simp [hB]) _
  have hent := run_enterLoop_outer (P := P) (w := w) fn a.tmps ps assign body
  generalize hW1 : (w.alloc (.deferred (some []))).alloc (.loop (rc .ready none)) = W1 at *
  refine ⟨B + 1, [{ target := .collected B, args := #[] }], W1, { target := .fn (.func gf) lb, args := #[.func (.yield (B + 1)) #[] #[]] }, W1, gf, #[.func (.yield (B + 1)) #[] #[]] ++ lb, W1, ?_, ?_, fun f' _ => trivial, ?_, fun h => (by cases h), ?_⟩
  · rw [hB] at hent; rw [← hW1]; exact hent
  · simp only [resolve, hg]; simp [go_sem]
  · simp [invoke, go_sem, eg]
  · have hstep : ∀ (A C : World) (row : Option Nat), (∀ r, row = some r → r = Bw) → A.grownBy C row → ∀ (k : Nat) (o : Obj), B ≤ k → A.heap[k]? = some o → C.heap[k]? = some o := by
      intro A C row hr hg' k o hk ho
      refine (hg'.block k (Array.getElem?_eq_some_iff.1 ho).1 fun e => ?_).trans ho
      have := hr k e.symm
      omega
    -- the invariant that the iterator is handed: the caller's, and the two records
    refine (hseq (B + 1) (fun pre W => I pre W ∧ W.heap[B + 1]? = some (.loop (rc .ready none)) ∧ W.heap[B]? = some (.deferred (some [])))
      (fun pre W => ∃ c, Ix c pre W ∧ W.heap[B + 1]? = some (.loop (rc .done (some c))) ∧ W.heap[B]? = some (.deferred (some []))) _ (by rw [hB]; exact hbel)
      (fun s A C row ⟨h1, h2, h3⟩ hg' hr => ⟨hI s A C row h1 hg' fun r e => .inl (hr r e), hstep A C row hr hg' _ _ (by omega) h2, hstep A C row hr hg' _ _ (Nat.le_refl _) h3⟩)
      (fun s A C row ⟨c, h1, h2, h3⟩ hg' hr => ⟨c, hIx c s A C row h1 hg' fun r e => .inl (hr r e), hstep A C row hr hg' _ _ (by omega) h2, hstep A C row hr hg' _ _ (Nat.le_refl _) h3⟩)
      ?_ ⟨by rw [← hW1]; exact hI.alloc _ (hI.alloc _ h0), hrec, hdef⟩).mono ?_
    · rintro pre x W ⟨hi, hl, hk⟩ hlen
      have hy := run_yield (P := P) (args := encs x) hl (hps x)
      have hlt : B + 1 < W.heap.size := (Array.getElem?_eq_some_iff.1 hl).1
      have hone : ∀ (K : Act → World → Prop), K (a₁ x) W → assign.wpIn (Fence.wide.inRound (B + 1)) (n - 1 - 1) P (Exit.then K (fun _ _ _ => False)) { tmps := (ps.zip (encs x)).foldl (fun t (p, v) => t.setIfInBounds p v) a.tmps, defers := [] } W := fun K hK =>
        wpIn_mono (hassign (B + 1) x W) fun e a' W' h => by
          cases e with
          | normal => obtain ⟨rfl, rfl⟩ := h; exact hK
          | _ => exact h
      refine ⟨fn, _, assign, body, hy, roundIn_of_wpIn hfn (hone _ ⟨_, run_beginRound hl rfl, ?_⟩)⟩
      -- the round has begun: the record is busy
      generalize hWb : W.putObj (B + 1) (.loop { rc .ready none with state := .busy }) = Wb
      have hlb : Wb.heap[B + 1]? = some (.loop { rc .ready none with state := .busy }) := by rw [← hWb]; exact World.putObj_heap_same hlt
      have hkb : Wb.heap[B]? = some (.deferred (some [])) := by rw [← hWb]; exact (World.putObj_heap_other (by omega)).trans hk
      have hsb : Wb.heap.size = W.heap.size := by rw [← hWb]; simp
      have hib : I pre Wb := by rw [← hWb]; exact hI.put _ hi (by omega) hl rfl
      have hKb : KeepK Kk W Wb := fun k hk' => by rw [← hWb]; exact World.putObj_heap_other (by have := hKk k hk'; omega)
      refine wpIn_mono (hbody _ pre x Wb hib (by omega) hlen) ?_
      have hend : ∀ (j : Option Code) (V : World), KeepsFrom B Wb V → ∃ V', V' = V.putObj (B + 1) (.loop (rc (if j.isNone then .ready else .done) j)) ∧ (Instr.endRound (B + 1) j).run P V = .ok (.bool j.isNone) V' ∧
          V.heap[B + 1]? = some (.loop { rc .ready none with state := .busy }) ∧ V'.heap[B + 1]? = some (.loop (rc (if j.isNone then .ready else .done) j)) ∧ V'.heap[B]? = some (.deferred (some [])) := by
        intro j V hkf
        have h1 := hkf.same _ _ (by omega) hlb rfl
        have h2 := hkf.same _ _ (Nat.le_refl _) hkb rfl
        exact ⟨_, rfl, run_endRound (P := P) j h1, h1, World.putObj_heap_same (Array.getElem?_eq_some_iff.1 h1).1, (World.putObj_heap_other (by omega)).trans h2⟩
      rintro e a3 V hp
      cases e with
      | normal =>
        obtain ⟨hkf, hkk, hi3⟩ := hp
        obtain ⟨V', hV, hr, h1, h2, h3⟩ := hend none V hkf
        refine ⟨_, _, hr, .inl ⟨rfl, ⟨?_, h2, h3⟩, fun k hk' => ?_, ?_⟩⟩
        · rw [hV]; exact hI.put _ hi3 (by omega) h1 rfl
        · rw [hV]; exact ((World.putObj_heap_other (by have := hKk k hk'; omega)).trans (hkk k hk')).trans (hKb k hk')
        · rw [hV]; have := hkf.size; simp; omega
      | ret =>
        obtain ⟨hkf, hi3⟩ := hp
        obtain ⟨V', hV, hr, h1, h2, h3⟩ := hend (some .ret) V hkf
        exact ⟨_, _, hr, .inr ⟨rfl, .ret, by rw [hV]; exact (hIx _).put _ hi3 (by omega) h1 rfl, h2, h3⟩⟩
      | exit id =>
        obtain ⟨hkf, hi3⟩ := hp
        obtain ⟨V', hV, hr, h1, h2, h3⟩ := hend (some (.exit id)) V hkf
        exact ⟨_, _, hr, .inr ⟨rfl, .exit id, by rw [hV]; exact (hIx _).put _ hi3 (by omega) h1 rfl, h2, h3⟩⟩
      | goto t =>
        obtain ⟨hkf, hi3⟩ := hp
        obtain ⟨V', hV, hr, h1, h2, h3⟩ := hend (some (.goto t)) V hkf
        exact ⟨_, _, hr, .inr ⟨rfl, .goto t, by rw [hV]; exact (hIx _).put _ hi3 (by omega) h1 rfl, h2, h3⟩⟩
      | panic ch => exact hp.elim
      | outgrown => exact hp.elim
    · rintro e V ⟨⟨v, rfl⟩, (⟨xs, hS, hi, hl, hk⟩ | ⟨pre, hSp, c, hi, hl, hk⟩)⟩
      · exact ⟨none, _, run_endLoop (P := P) hl (by simp [rc]), hdone _ xs _ (Nat.le_refl _) hS (hI.put _ hi (by omega) hl rfl) ((World.putObj_heap_other (by omega)).trans hk)⟩
      · exact ⟨some c, _, run_endLoop (P := P) hl (by simp [rc]), hstop _ c pre _ (Nat.le_refl _) hSp ((hIx c).put _ hi (by omega) hl rfl) ((World.putObj_heap_other (by omega)).trans hk)⟩
end Go.Proofs.Ytecemlamoiepdaa
