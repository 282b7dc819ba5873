/- FrameLexical: whatever the steps, morainelaw20.FrameLexical returns true, and the steps read behind the call as before. No conditions. -/
import Derived.Test.YtecemlamoiepdaaRows
import Derived.Test.YtecemlamoiepdaaRowKit
import Derived.Test.YtecemlamoiepdaaLex
import Derived.Test.YtecemlamoiepdaaRecs
namespace Go.Proofs.Ytecemlamoiepdaa
open Go.ChangeShapes Go.WideShapes Go.ChangeAt Go.RowKit

theorem wf_i64 {n : Int} (h : (Lit.int .i64 n).wf = true) : -9223372036854775808 ≤ n ∧ n ≤ 9223372036854775807 := by
  simp [Lit.wf, IntKind.min, IntKind.max, IntKind.bits, IntKind.signed] at h
  omega
theorem wf_u32' {n : Int} (h : (Lit.int .u32 n).wf = true) : 0 ≤ n ∧ n < 4294967296 := by
  simp [Lit.wf, IntKind.min, IntKind.max, IntKind.bits, IntKind.signed] at h
  omega

set_option maxRecDepth 100000 in
/-- steps that came in -/
theorem arg_steps {H : Type} {enc : TypeId × Value → H} {W : World} {base : Nat} {v : Value} {d : DataW H} {p : List MemPlace}
    (hval : Value.okWide Try.prog W .any base 47 v) (h : DataW.Trod enc Try.prog W 0 (fun _ => true) true 47 v d p) : ∃ S : List St, StepsAt W v S ∧ ∀ s ∈ S, s.Ok := by
  obtain ⟨a0, len, cap, rfl⟩ := okWide_slice Try.underlying47 hval
  obtain ⟨fuel, hf⟩ := h
  rcases open_recs (fs := #[_, _, _, _, _, _]) Try.underlying47 Try.underlying50 (by kernel_rfl) (by kernel_rfl) hf with h0 | ⟨a, l, c, h1, hlm, hc⟩
  · simp [Value.cells] at h0
    obtain ⟨rfl, rfl, rfl⟩ := h0
    exact ⟨[], .inl ⟨rfl, rfl⟩, by simp⟩
  · simp [Value.cells] at h1
    obtain ⟨rfl, rfl, rfl⟩ := h1
    have hone : ∀ i, i < len → ∃ s : St, s.Ok ∧ W.cell? (a.add (i * 6)) = some (.int .i64 s.put) ∧ W.cell? (a.add (i * 6 + 1)) = some (.int .i64 s.at') ∧ W.cell? (a.add (i * 6 + 2)) = some (.int .i64 s.up) ∧ W.cell? (a.add (i * 6 + 3)) = some (.int .i64 s.i) ∧
        W.cell? (a.add (i * 6 + 4)) = some s.lv ∧ W.cell? (a.add (i * 6 + 5)) = some (.int .u32 s.v) ∧ IntsAt .u32 W s.lv s.l := by
      intro i hi
      obtain ⟨n, hcell⟩ := hc i hi
      obtain ⟨v0, y0, c0, t0⟩ := hcell 0 _ rfl
      obtain ⟨v1, y1, c1, t1⟩ := hcell 1 _ rfl
      obtain ⟨v2, y2, c2, t2⟩ := hcell 2 _ rfl
      obtain ⟨v3, y3, c3, t3⟩ := hcell 3 _ rfl
      obtain ⟨v4, y4, c4, t4⟩ := hcell 4 _ rfl
      obtain ⟨v5, y5, c5, t5⟩ := hcell 5 _ rfl
      obtain ⟨n0, e0, _, w0⟩ := DataW.trod_int Try.underlying3 t0
      obtain ⟨n1, e1, _, w1⟩ := DataW.trod_int Try.underlying3 t1
      obtain ⟨n2, e2, _, w2⟩ := DataW.trod_int Try.underlying3 t2
      obtain ⟨n3, e3, _, w3⟩ := DataW.trod_int Try.underlying3 t3
      obtain ⟨n5, e5, _, w5⟩ := DataW.trod_int Try.underlying41 t5
      simp only [List.cons.injEq, and_true] at e0 e1 e2 e3 e5
      subst e0 e1 e2 e3 e5
      obtain ⟨sa, sl, sc, rfl⟩ := trod_slice_form Try.underlying40 t4
      obtain ⟨zs, i4, w4⟩ := open_at (v := .slice sa sl sc) Try.underlying40 Try.underlying41 (by kernel_rfl) (by simpa [Value.cells] using t4) sa sl sc rfl
      exact ⟨⟨n0, n1, n2, n3, .slice sa sl sc, zs, n5⟩, ⟨wf_i64 w0, wf_i64 w1, wf_i64 w2, wf_i64 w3, fun n hn => wf_u32' (w4 n hn), wf_u32' w5⟩, c0, c1, c2, c3, c4, c5, i4⟩
    obtain ⟨f, hf'⟩ := Classical.axiomOfChoice (r := fun (i : Fin len) (s : St) => s.Ok ∧ W.cell? (a.add (i * 6)) = some (.int .i64 s.put) ∧ W.cell? (a.add (i * 6 + 1)) = some (.int .i64 s.at') ∧ W.cell? (a.add (i * 6 + 2)) = some (.int .i64 s.up) ∧ W.cell? (a.add (i * 6 + 3)) = some (.int .i64 s.i) ∧
        W.cell? (a.add (i * 6 + 4)) = some s.lv ∧ W.cell? (a.add (i * 6 + 5)) = some (.int .u32 s.v) ∧ IntsAt .u32 W s.lv s.l) (fun i => hone i i.2)
    refine ⟨List.ofFn f, .inr ⟨a, cap, by simp, by simpa using hlm, fun i s hs => ?_⟩, fun s hs => ?_⟩
    · have hi : i < len := by simpa using (List.getElem?_eq_some_iff.1 hs).1
      rw [List.getElem?_ofFn, dif_pos hi] at hs
      cases hs
      exact (hf' ⟨i, hi⟩).2
    · obtain ⟨i, rfl⟩ := List.mem_ofFn.1 hs
      exact (hf' i).1

set_option maxRecDepth 100000 in
theorem lex_lifted (os : Os) (started : os.Started) (H : Type) (enc : TypeId × Value → H) :
    ReturnsInHanded {} Try.checked os 5 .any (Rows.frameLexicalSpec.pre6 enc Try.prog Try.f5 Rows.frameLexicalRow.domain false) (Rows.frameLexicalSpec.post enc Try.prog Try.f5 false true false false) := by
  refine returnsInHanded_of_change (C := Try.checked) own started (by kernel_rfl) Try.func5
    (ChangeSpec.witness6 (enc := enc) (C := Try.checked) false ⟨#[], #[.slice none 0 0], []⟩ 8 (by kernel_rfl) (by kernel_rfl) (by kernel_rfl) (by kernel_rfl)) ?_
  intro W base args ds gs before hval0 hW hcnd _
  have hval : ∀ (j : Nat) t v, Try.f5.params[j]? = some t → args[j]? = some v → Value.okWide Try.prog W .any base t v := hval0
  have hW' := hW
  obtain ⟨p, q, hA0, hV, rfl, hfz, hnd⟩ := hW
  have hA : DataW.TrodAll enc Try.prog W 0 (fun _ => true) true Try.f5.params.toList args.toList ds p := hA0
  rw [Try.params5] at hA hval
  obtain ⟨v0, vs0, d0, ds0, p0, q0, hargs, rfl, rfl, h0, r0⟩ := trodAll_cons hA
  obtain ⟨rfl, rfl, rfl⟩ := trodAll_nil r0
  obtain rfl : args = #[v0] := by cases args; simp_all
  obtain ⟨rfl, rfl⟩ := trodVars_none hV
  clear hA0 hval0
  simp only [List.append_nil] at hW'
  have hlt : ∀ x ∈ p0, x.block < W.heap.size := fun x hx => by simpa using hW'.lt x hx
  obtain ⟨S, i0, o0⟩ := arg_steps (hval 0 47 v0 rfl rfl) h0
  refine (lex_walk v0 S W i0 o0).mono fun e W' ⟨he, hb⟩ => ?_
  subst he
  exact ⟨_, rfl, ⟨_, _, _, [], _, [], hW', trodAll_mk1 (shut_bool Try.underlying4 _),
    trodAll_mk1 (Below.trod laidOut (by kernel_rfl) (of_decide_eq_true (by kernel_rfl)) h0 hb (fun x hx => hlt x (by simp [hx]))), rfl, hb.frame _, fun h => by cases h⟩⟩

theorem frameLexical_holds : Rows.FrameLexicalSaid :=
  OpenClaim.holds_of_wide 5 Try.f5 rfl rfl rfl rfl rfl rfl rfl ⟨rfl, rfl, rfl, rfl, rfl⟩ rfl rfl rfl rfl rfl (by kernel_rfl) Try.func5 (by kernel_rfl)
    (of_decide_eq_true (by kernel_rfl)) (by unfold Func.isWrapper; first | (rw [if_pos (by decide +kernel)]; kernel_rfl) | (rw [if_neg (by decide +kernel)]; exact ⟨rfl, rfl⟩))
    (fun os started H enc _ => lex_lifted os started H enc)
#print axioms frameLexical_holds
end Go.Proofs.Ytecemlamoiepdaa
