/- Acts that came in (package morainelaw10): a slice of calls, each with its values, its text, its number: what is known of them. No program in sight but its types. -/
import Derived.Test.YtecemlamoiepdaaArgs
import Derived.Deep.Slices
import Derived.Deep.Fields
import Derived.ChangeSame
namespace Go.Proofs.Ytecemlamoiepdaa
open Go.ChangeShapes Go.WideShapes Go.ChangeAt Go.RowKit Go.Deep

section
variable {H : Type} {enc : TypeId × Value → H} {P : Program} {w : World} {base : Nat} {spare : Nat → Bool} {held : Bool}

/-- a slice that came in: each element's cells, and their reading -/
theorem open_elems {t e : TypeId} {fuel : Nat} {cs : List Value} {x : DataW H × List MemPlace} (C : Nat) (ht : P.underlying t = some (.slice e)) (hC : P.cellsOf e = C) (h : DataW.trod enc P w base spare held fuel t cs = some x) :
    cs = [.slice none 0 0] ∨ ∃ (a : Addr) (len cap : Nat), cs = [.slice (some a) len cap] ∧ len ≤ maxLen ∧
      ∀ i, i < len → ∃ (n : Nat) (l : List Value) (y : DataW H × List MemPlace), l.length = C ∧ (∀ j u, l[j]? = some u → w.cell? (a.add (i * C + j)) = some u) ∧ DataW.trod enc P w base spare held n e l = some y := by
  subst hC
  rcases open_slice ht h with ⟨h0, _⟩ | ⟨a, len, cap, m, n, D, Pl, hcs, hb, hl, hm, hmm, hx, hi⟩
  · exact .inl h0
  · refine .inr ⟨a, len, cap, hcs, by omega, fun i him => ?_⟩
    obtain ⟨cs', hc, ht'⟩ := hi i (by rw [hmm]; split <;> omega)
    obtain ⟨_, hcl, hat⟩ := World.cells?_some hc
    refine ⟨n, cs', _, hcl, fun j u hu => ?_, ht'⟩
    have hj : j < P.cellsOf e := by rw [← hcl]; exact (List.getElem?_eq_some_iff.1 hu).1
    rw [← Go.Deep.add_add, hat j hj]
    exact hu
end

/-- a value: a word, or which of those that were made -/
structure Vl where
  w : Int
  of : Int

structure Vl.Ok (x : Vl) : Prop where
  w : 0 ≤ x.w ∧ x.w < 18446744073709551616
  of : -9223372036854775808 ≤ x.of ∧ x.of ≤ 9223372036854775807

def ValsAt (w : World) (v : Value) (L : List Vl) : Prop :=
  (v = .slice none 0 0 ∧ L = []) ∨ ∃ (ad : Addr) (cap : Nat), v = .slice (some ad) L.length cap ∧ L.length ≤ maxLen ∧ ∀ (i : Nat) (x : Vl), L[i]? = some x →
    w.cell? (ad.add (i * 2)) = some (.int .u64 x.w) ∧ w.cell? (ad.add (i * 2 + 1)) = some (.int .i64 x.of)

theorem ValsAt.len {w : World} {v : Value} {L : List Vl} (h : ValsAt w v L) : L.length ≤ maxLen ∧ ∃ a cap, v = .slice a L.length cap := by
  rcases h with ⟨rfl, rfl⟩ | ⟨ad, cap, rfl, hm, _⟩
  · exact ⟨Nat.zero_le _, none, 0, rfl⟩
  · exact ⟨hm, _, cap, rfl⟩

theorem ValsAt.form {w : World} {v : Value} {L : List Vl} (h : ValsAt w v L) (hn : 0 < L.length) :
    ∃ b o cap, v = .slice (some ⟨b, o, none⟩) L.length cap ∧ b < w.heap.size ∧ ∀ (i : Nat) (x : Vl), L[i]? = some x → w.cell? ⟨b, o + i * 2, none⟩ = some (.int .u64 x.w) ∧ w.cell? ⟨b, o + i * 2 + 1, none⟩ = some (.int .i64 x.of) := by
  rcases h with ⟨rfl, rfl⟩ | ⟨⟨b, o, sp⟩, cap, rfl, hm, hc⟩
  · simp at hn
  · obtain ⟨x, hx⟩ : ∃ x, L[0]? = some x := ⟨_, List.getElem?_eq_getElem hn⟩
    have h0 := (hc 0 x hx).1
    have hs : sp = none := by simpa [Addr.add] using World.cell?_spot h0
    subst hs
    refine ⟨b, o, cap, rfl, by simpa [Addr.add] using cell_lt h0, fun i x hx => ?_⟩
    obtain ⟨h1, h2⟩ := hc i x hx
    rw [Addr.add_mid] at h1 h2
    exact ⟨h1, by rw [Nat.add_assoc]; exact h2⟩

theorem ValsAt.stay {w w' : World} {v : Value} {L : List Vl} (h : ValsAt w v L) (hb : ∀ (b : Nat), b < w.heap.size → w'.heap[b]? = w.heap[b]?) : ValsAt w' v L := by
  rcases h with h | ⟨ad, cap, rfl, hm, hc⟩
  · exact .inl h
  · refine .inr ⟨ad, cap, rfl, hm, fun i x hx => ?_⟩
    obtain ⟨h1, h2⟩ := hc i x hx
    have key : ∀ {a : Addr} {x : Value}, w.cell? a = some x → w'.cell? a = some x := fun {a x} hx => by rw [World.cell?_of_block (w := w) (hb _ (cell_lt hx))]; exact hx
    exact ⟨key h1, key h2⟩
theorem ValsAt.below {w w' : World} {v : Value} {L : List Vl} (h : ValsAt w v L) (hb : Below w.heap.size w w') : ValsAt w' v L := h.stay fun b hlt => hb.block b hlt

/-- a call -/
structure Ac where
  do' : Int
  x : Vl
  y : Vl
  kind : Int
  n : Int
  more : Int
  lv : Value
  l : List Vl
  s : ByteArray
  neg : Bool
  mv : Value
  mag : List Int

structure Ac.Ok (c : Ac) : Prop where
  do' : -9223372036854775808 ≤ c.do' ∧ c.do' ≤ 9223372036854775807
  x : c.x.Ok
  y : c.y.Ok
  kind : -9223372036854775808 ≤ c.kind ∧ c.kind ≤ 9223372036854775807
  n : -9223372036854775808 ≤ c.n ∧ c.n ≤ 9223372036854775807
  more : 0 ≤ c.more ∧ c.more < 18446744073709551616
  l : ∀ x ∈ c.l, x.Ok
  s : c.s.size ≤ maxLen
  mag : ∀ x ∈ c.mag, 0 ≤ x ∧ x < 4294967296

/-- a call's cells, from an address on -/
structure Ac.At (w : World) (ad : Addr) (k : Nat) (c : Ac) : Prop where
  do' : w.cell? (ad.add k) = some (.int .i64 c.do')
  xw : w.cell? (ad.add (k + 1)) = some (.int .u64 c.x.w)
  xo : w.cell? (ad.add (k + 2)) = some (.int .i64 c.x.of)
  yw : w.cell? (ad.add (k + 3)) = some (.int .u64 c.y.w)
  yo : w.cell? (ad.add (k + 4)) = some (.int .i64 c.y.of)
  kind : w.cell? (ad.add (k + 5)) = some (.int .i64 c.kind)
  n : w.cell? (ad.add (k + 6)) = some (.int .i64 c.n)
  more : w.cell? (ad.add (k + 7)) = some (.int .u64 c.more)
  lv : w.cell? (ad.add (k + 8)) = some c.lv
  s : w.cell? (ad.add (k + 9)) = some (.string c.s)
  neg : w.cell? (ad.add (k + 10)) = some (.bool c.neg)
  mv : w.cell? (ad.add (k + 11)) = some c.mv
  l : ValsAt w c.lv c.l
  mag : IntsAt .u32 w c.mv c.mag

def ActsAt (w : World) (v : Value) (S : List Ac) : Prop :=
  (v = .slice none 0 0 ∧ S = []) ∨ ∃ (ad : Addr) (cap : Nat), v = .slice (some ad) S.length cap ∧ S.length ≤ maxLen ∧ ∀ (i : Nat) (c : Ac), S[i]? = some c → c.At w ad (i * 12)

theorem Ac.At.stay {w w' : World} {ad : Addr} {k : Nat} {c : Ac} (h : c.At w ad k) (hb : ∀ (b : Nat), b < w.heap.size → w'.heap[b]? = w.heap[b]?) : c.At w' ad k := by
  have key : ∀ {a : Addr} {x : Value}, w.cell? a = some x → w'.cell? a = some x := fun {a x} hx => by rw [World.cell?_of_block (w := w) (hb _ (cell_lt hx))]; exact hx
  exact ⟨key h.do', key h.xw, key h.xo, key h.yw, key h.yo, key h.kind, key h.n, key h.more, key h.lv, key h.s, key h.neg, key h.mv, h.l.stay hb, h.mag.stay hb⟩

theorem ActsAt.below {w w' : World} {v : Value} {S : List Ac} (h : ActsAt w v S) (hb : Below w.heap.size w w') : ActsAt w' v S := by
  rcases h with h | ⟨ad, cap, rfl, hm, hc⟩
  · exact .inl h
  · exact .inr ⟨ad, cap, rfl, hm, fun i c hi => (hc i c hi).stay fun b hlt => hb.block b hlt⟩

theorem ActsAt.len {w : World} {v : Value} {S : List Ac} (h : ActsAt w v S) : S.length ≤ maxLen ∧ ∃ a cap, v = .slice a S.length cap := by
  rcases h with ⟨rfl, rfl⟩ | ⟨ad, cap, rfl, hm, _⟩
  · exact ⟨Nat.zero_le _, none, 0, rfl⟩
  · exact ⟨hm, _, cap, rfl⟩

theorem ActsAt.form {w : World} {v : Value} {S : List Ac} (h : ActsAt w v S) (hn : 0 < S.length) :
    ∃ b o cap, v = .slice (some ⟨b, o, none⟩) S.length cap ∧ b < w.heap.size ∧ ∀ (i : Nat) (c : Ac), S[i]? = some c → c.At w ⟨b, o, none⟩ (i * 12) := by
  rcases h with ⟨rfl, rfl⟩ | ⟨⟨b, o, sp⟩, cap, rfl, hm, hc⟩
  · simp at hn
  · obtain ⟨x, hx⟩ : ∃ x, S[0]? = some x := ⟨_, List.getElem?_eq_getElem hn⟩
    have h0 := (hc 0 x hx).do'
    have hs : sp = none := by simpa [Addr.add] using World.cell?_spot h0
    subst hs
    exact ⟨b, o, cap, rfl, by simpa [Addr.add] using cell_lt h0, hc⟩

theorem wf_i64' {n : Int} (h : (Lit.int .i64 n).wf = true) : -9223372036854775808 ≤ n ∧ n ≤ 9223372036854775807 := by
  simp [Lit.wf, IntKind.min, IntKind.max, IntKind.bits, IntKind.signed] at h
  omega
theorem wf_u64' {n : Int} (h : (Lit.int .u64 n).wf = true) : 0 ≤ n ∧ n < 18446744073709551616 := by
  simp [Lit.wf, IntKind.min, IntKind.max, IntKind.bits, IntKind.signed] at h
  omega
theorem wf_u32n {n : Int} (h : (Lit.int .u32 n).wf = true) : 0 ≤ n ∧ n < 4294967296 := by
  simp [Lit.wf, IntKind.min, IntKind.max, IntKind.bits, IntKind.signed] at h
  omega

/-- so many witnesses, as a list -/
theorem list_of {α : Type} [Nonempty α] {len : Nat} {Q : Nat → α → Prop} (h : ∀ i, i < len → ∃ x, Q i x) : ∃ L : List α, L.length = len ∧ ∀ i x, L[i]? = some x → Q i x := by
  obtain ⟨f, hf⟩ := Classical.axiomOfChoice (r := fun (i : Fin len) (x : α) => Q i x) (fun i => h i i.2)
  refine ⟨List.ofFn f, by simp, fun i x hx => ?_⟩
  have hi : i < len := by simpa using (List.getElem?_eq_some_iff.1 hx).1
  rw [List.getElem?_ofFn, dif_pos hi] at hx
  cases hx
  exact hf ⟨i, hi⟩

section
variable {H : Type} {enc : TypeId × Value → H} {W : World} {base : Nat} {spare : Nat → Bool} {held : Bool}

/-- a field of one cell -/
theorem fld_one {P : Program} {fs : Array Field} {cs : List Value} {xs : List (DataW H × List MemPlace)} {n : Nat} (hf : ∀ (i : Nat) (f : Field), fs[i]? = some f → DataW.trod enc P W base spare held n f.type ((cs.drop f.offset).take (P.cellsOf f.type)) = xs[i]?)
    (hl : xs.length = fs.size) (j off : Nat) (t : TypeId) (hj : fs[j]?.map (fun f => (f.offset, f.type)) = some (off, t)) (hc : P.cellsOf t = 1) (c : Value) (hcs : cs[off]? = some c) : ∃ y, DataW.trod enc P W base spare held n t [c] = some y := by
  cases hfj : fs[j]? with
  | none => rw [hfj] at hj; cases hj
  | some f =>
    rw [hfj] at hj
    simp only [Option.map_some, Option.some.injEq, Prod.mk.injEq] at hj
    obtain ⟨rfl, rfl⟩ := hj
    have h := hf j f hfj
    have hlt : f.offset < cs.length := (List.getElem?_eq_some_iff.1 hcs).1
    have hg := (List.getElem?_eq_some_iff.1 hcs).2
    rw [hc, List.drop_eq_getElem_cons hlt, hg, List.take_succ_cons, List.take_zero] at h
    have hjl : j < fs.size := (Array.getElem?_eq_some_iff.1 hfj).1
    exact ⟨xs[j]'(by omega), by rw [h]; exact List.getElem?_eq_getElem _⟩

/-- a field of two cells -/
theorem fld_two {P : Program} {fs : Array Field} {cs : List Value} {xs : List (DataW H × List MemPlace)} {n : Nat} (hf : ∀ (i : Nat) (f : Field), fs[i]? = some f → DataW.trod enc P W base spare held n f.type ((cs.drop f.offset).take (P.cellsOf f.type)) = xs[i]?)
    (hl : xs.length = fs.size) (j off : Nat) (t : TypeId) (hj : fs[j]?.map (fun f => (f.offset, f.type)) = some (off, t)) (hc : P.cellsOf t = 2) (c d : Value) (hcs : cs[off]? = some c) (hds : cs[off + 1]? = some d) : ∃ y, DataW.trod enc P W base spare held n t [c, d] = some y := by
  cases hfj : fs[j]? with
  | none => rw [hfj] at hj; cases hj
  | some f =>
    rw [hfj] at hj
    simp only [Option.map_some, Option.some.injEq, Prod.mk.injEq] at hj
    obtain ⟨rfl, rfl⟩ := hj
    have h := hf j f hfj
    have hlt : f.offset < cs.length := (List.getElem?_eq_some_iff.1 hcs).1
    have hg := (List.getElem?_eq_some_iff.1 hcs).2
    have hlt2 : f.offset + 1 < cs.length := (List.getElem?_eq_some_iff.1 hds).1
    have hg2 := (List.getElem?_eq_some_iff.1 hds).2
    rw [hc, List.drop_eq_getElem_cons hlt, hg, List.drop_eq_getElem_cons hlt2, hg2, List.take_succ_cons, List.take_succ_cons, List.take_zero] at h
    have hjl : j < fs.size := (Array.getElem?_eq_some_iff.1 hfj).1
    exact ⟨xs[j]'(by omega), by rw [h]; exact List.getElem?_eq_getElem _⟩

set_option maxRecDepth 100000 in
theorem open_val {n : Nat} {a b : Value} {y : DataW H × List MemPlace} (h : DataW.trod enc Try.prog W base spare held n 67 [a, b] = some y) : ∃ x : Vl, a = .int .u64 x.w ∧ b = .int .i64 x.of ∧ x.Ok := by
  obtain ⟨xs, m, _, _, _, hl, hf⟩ := DataW.trod_struct (fs := #[_, _]) Try.underlying67 h
  obtain ⟨y0, h0⟩ := fld_one hf hl 0 0 29 rfl (by kernel_rfl) a rfl
  obtain ⟨y1, h1⟩ := fld_one hf hl 1 1 3 rfl (by kernel_rfl) b rfl
  obtain ⟨n0, c0, _, w0⟩ := DataW.trod_int Try.underlying29 h0
  obtain ⟨n1, c1, _, w1⟩ := DataW.trod_int Try.underlying3 h1
  simp at c0 c1
  exact ⟨⟨n0, n1⟩, c0, c1, wf_u64' w0, wf_i64' w1⟩

/-- what reads as a slice is one -/
theorem trod_slice_is {P : Program} {t e : TypeId} {fuel : Nat} {v : Value} {x : DataW H × List MemPlace} (ht : P.underlying t = some (.slice e)) (h : DataW.trod enc P W base spare held fuel t [v] = some x) : ∃ a l c, v = .slice a l c := by
  rcases open_slice ht h with ⟨h0, _⟩ | ⟨a, len, cap, m, n, D, Pl, hcs, _⟩
  · cases h0; exact ⟨none, 0, 0, rfl⟩
  · cases hcs; exact ⟨_, _, _, rfl⟩

set_option maxRecDepth 100000 in
theorem open_vals {n : Nat} {v : Value} {y : DataW H × List MemPlace} (h : DataW.trod enc Try.prog W base spare held n 68 [v] = some y) : ∃ L : List Vl, ValsAt W v L ∧ ∀ x ∈ L, x.Ok := by
  haveI : Nonempty Vl := ⟨⟨0, 0⟩⟩
  rcases open_elems 2 Try.underlying68 (by kernel_rfl) h with h0 | ⟨a, len, cap, h1, hlm, hc⟩
  · cases h0; exact ⟨[], .inl ⟨rfl, rfl⟩, by simp⟩
  · cases h1
    obtain ⟨L, hL, hQ⟩ := list_of (len := len) (Q := fun i (x : Vl) => x.Ok ∧ W.cell? (a.add (i * 2)) = some (.int .u64 x.w) ∧ W.cell? (a.add (i * 2 + 1)) = some (.int .i64 x.of)) (fun i hi => by
      obtain ⟨m, l, y, hl, hcell, ht⟩ := hc i hi
      match l, hl with
      | [c0, c1], _ =>
        obtain ⟨x, rfl, rfl, hx⟩ := open_val ht
        exact ⟨x, hx, hcell 0 _ rfl, hcell 1 _ rfl⟩)
    refine ⟨L, .inr ⟨a, cap, by rw [hL], by omega, fun i x hx => (hQ i x hx).2⟩, fun x hx => ?_⟩
    obtain ⟨i, hi, rfl⟩ := List.mem_iff_getElem.1 hx
    exact (hQ i _ (List.getElem?_eq_getElem hi)).1

set_option maxRecDepth 100000 in
set_option maxHeartbeats 1000000 in
theorem open_acts {n : Nat} {v : Value} {y : DataW H × List MemPlace} (h : DataW.trod enc Try.prog W base spare held n 63 [v] = some y) : ∃ S : List Ac, ActsAt W v S ∧ ∀ c ∈ S, c.Ok := by
  haveI : Nonempty Ac := ⟨⟨0, ⟨0, 0⟩, ⟨0, 0⟩, 0, 0, 0, .slice none 0 0, [], .empty, false, .slice none 0 0, []⟩⟩
  rcases open_elems 12 Try.underlying63 (by kernel_rfl) h with h0 | ⟨a, len, cap, h1, hlm, hc⟩
  · cases h0; exact ⟨[], .inl ⟨rfl, rfl⟩, by simp⟩
  · cases h1
    obtain ⟨L, hL, hQ⟩ := list_of (len := len) (Q := fun i (c : Ac) => c.Ok ∧ c.At W a (i * 12)) (fun i hi => by
      obtain ⟨m, l, y, hl, hcell, ht⟩ := hc i hi
      match l, hl with
      | [c0, c1, c2, c3, c4, c5, c6, c7, c8, c9, c10, c11], _ =>
        obtain ⟨xs, m', _, _, _, hxl, hf⟩ := DataW.trod_struct (fs := #[_, _, _, _, _, _, _, _, _]) Try.underlying72 ht
        obtain ⟨_, t0⟩ := fld_one hf hxl 0 0 3 rfl (by kernel_rfl) c0 rfl
        obtain ⟨_, t1⟩ := fld_two hf hxl 1 1 67 rfl (by kernel_rfl) c1 c2 rfl rfl
        obtain ⟨_, t2⟩ := fld_two hf hxl 2 3 67 rfl (by kernel_rfl) c3 c4 rfl rfl
        obtain ⟨_, t3⟩ := fld_one hf hxl 3 5 3 rfl (by kernel_rfl) c5 rfl
        obtain ⟨_, t4⟩ := fld_one hf hxl 4 6 3 rfl (by kernel_rfl) c6 rfl
        obtain ⟨_, t5⟩ := fld_one hf hxl 5 7 28 rfl (by kernel_rfl) c7 rfl
        obtain ⟨_, t6⟩ := fld_one hf hxl 6 8 68 rfl (by kernel_rfl) c8 rfl
        obtain ⟨_, t7⟩ := fld_one hf hxl 7 9 9 rfl (by kernel_rfl) c9 rfl
        obtain ⟨_, t8⟩ := fld_two hf hxl 8 10 70 rfl (by kernel_rfl) c10 c11 rfl rfl
        obtain ⟨zs, m2, _, _, _, hzl, hg⟩ := DataW.trod_struct (fs := #[_, _]) Try.underlying70 t8
        obtain ⟨_, t9⟩ := fld_one hg hzl 0 0 4 rfl (by kernel_rfl) c10 rfl
        obtain ⟨_, ta⟩ := fld_one hg hzl 1 1 40 rfl (by kernel_rfl) c11 rfl
        obtain ⟨n0, e0, _, w0⟩ := DataW.trod_int Try.underlying3 t0
        obtain ⟨x, rfl, rfl, hx⟩ := open_val t1
        obtain ⟨y, rfl, rfl, hy⟩ := open_val t2
        obtain ⟨n3, e3, _, w3⟩ := DataW.trod_int Try.underlying3 t3
        obtain ⟨n4, e4, _, w4⟩ := DataW.trod_int Try.underlying3 t4
        obtain ⟨n5, e5, _, w5⟩ := DataW.trod_int Try.underlying28 t5
        obtain ⟨V, hV, hVo⟩ := open_vals t6
        obtain ⟨s, e7, _, hs⟩ := DataW.trod_string Try.underlying9 t7
        obtain ⟨b, e9, _⟩ := DataW.trod_bool Try.underlying4 t9
        obtain ⟨ma, ml, mc, rfl⟩ := trod_slice_is Try.underlying40 ta
        obtain ⟨ms, hms, hmo⟩ := open_at (v := .slice ma ml mc) Try.underlying40 Try.underlying41 (by kernel_rfl) (by simpa [Value.cells] using ta) ma ml mc rfl
        simp at e0 e3 e4 e5 e7 e9
        subst e0 e3 e4 e5 e7 e9
        exact ⟨⟨n0, x, y, n3, n4, n5, c8, V, s, b, .slice ma ml mc, ms⟩, ⟨wf_i64' w0, hx, hy, wf_i64' w3, wf_i64' w4, wf_u64' w5, hVo, hs, fun x hx => wf_u32n (hmo x hx)⟩,
          ⟨hcell 0 _ rfl, hcell 1 _ rfl, hcell 2 _ rfl, hcell 3 _ rfl, hcell 4 _ rfl, hcell 5 _ rfl, hcell 6 _ rfl, hcell 7 _ rfl, hcell 8 _ rfl, hcell 9 _ rfl, hcell 10 _ rfl, hcell 11 _ rfl, hV, hms⟩⟩)
    refine ⟨L, .inr ⟨a, cap, by rw [hL], by omega, fun i c hx => (hQ i c hx).2⟩, fun c hx => ?_⟩
    obtain ⟨i, hi, rfl⟩ := List.mem_iff_getElem.1 hx
    exact (hQ i _ (List.getElem?_eq_getElem hi)).1
end
end Go.Proofs.Ytecemlamoiepdaa
