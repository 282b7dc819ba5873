/- Size of what a word points to; package morainelaw10's there. -/
import Derived.Test.YtecemlamoiepdaaThings
import Derived.Test.YtecemlamoiepdaaEnvT
namespace Go.Proofs.Ytecemlamoiepdaa
open Go.ChangeShapes Go.WideShapes Go.ChangeAt Go.RowKit

set_option maxHeartbeats 400000 in
theorem size_any {hb : HB} {M : Hp} {w : World} (r : Rep hb M w) (x : Nat) (hx : x < 18446744073709551616) :
    Calls Try.prog 38 #[.pointer (some ⟨hb.h, 0, none⟩), .int .u64 x] w fun e w' => e = .returned (.int .i64 (M.sizeOf' x : Nat)) ∧ Below w.heap.size w w' := by
  have hP := isPair_any r x hx
  unfold Hp.sizeOf'
  rcases hp : (M.pairOf x).isSome with _ | _
  · have hA : ∀ w1, Below w.heap.size w w1 → Calls Try.prog 76 #[.pointer (some ⟨hb.h, 0, none⟩), .int .u64 x] w1 fun e w' => e = .returned (objVal (M.objOf x)) ∧ Below w1.heap.size w1 w' := fun w1 b => object_any (r.below b) x hx
    have hlt : ∀ a k n m, M.objOf x = some (a, k, n, m) → n < 64 := fun a k n m h => by
      obtain ⟨_, s, hd, h1, h2, h3, h4, _⟩ := Hp.objOf_some h
      have := r.ok.room _ _ h1
      omega
    rw [hp] at hP
    clear r hp
    rcases h : M.objOf x with _ | ⟨a, k, n, m⟩
    all_goals
      rw [h] at hA
      unfold objVal at hA
      try have hn := hlt _ _ _ _ h
      clear h hlt
      go_enter Try.func38, Try.ntmps38
      go_wp2_with fail
      refine hP.mono ?_
      rintro e w1 ⟨rfl, b1⟩
      clear hP
      have hA1 := hA w1 b1
      clear hA
      go_wp2_with fail
      refine hA1.mono ?_
      rintro e w2 ⟨rfl, b2⟩
      clear hA1
      have B2 := b1.trans (b2.mono b1.size)
      go_wp2_with fail
      go_ret
      exact ⟨rfl, B2⟩
  · rw [hp] at hP
    clear r hp
    go_enter Try.func38, Try.ntmps38
    go_wp2_with fail
    refine hP.mono ?_
    rintro e w1 ⟨rfl, b1⟩
    clear hP
    go_wp2_with fail
    go_ret
    exact ⟨rfl, b1⟩

set_option maxRecDepth 20000 in
set_option maxHeartbeats 400000 in
theorem there_any {hb : HB} {lo : Nat} {w : World} {u : Value} {G : List Sc} {vs : List Value} (h : EnvT 75 hb lo w u G vs) (x : Nat) (hl : G.length ≤ 1000000) :
    Calls Try.prog 29 #[u, .int .u64 (x : Nat)] w fun e w' => ∃ b, e = .returned (.bool b) ∧ w' = w ∧ (b = true → ∃ (i : Nat) (s : Sc), G[i]? = some s ∧ s.w = x) := by
  obtain ⟨ua, uc, rfl⟩ := h.slice
  obtain ⟨n, hn⟩ : ∃ n, n = G.length := ⟨_, rfl⟩
  have H := Lib.hid h
  rw [← hn] at hl ⊢
  have HN := Lib.hid hn
  clear h hn
  go_enter Try.func29, Try.ntmps29
  go_wp2_with fail
  go_loop [5] (fun iv => ∃ k : Nat, k ≤ n ∧ iv = .int .i64 k) (fun iv => n - (intOf iv).toNat)
  case atStart => exact ⟨0, Nat.zero_le _, rfl⟩
  case round =>
    obtain ⟨k, hk, rfl⟩ := hrel
    by_cases hlt : k < n
    · obtain ⟨g, cap, e, hg, hc⟩ := H.out.form (by rw [← HN.out]; omega)
      rw [← HN.out] at e
      obtain ⟨rfl, rfl⟩ : ua = some ⟨g, 0, none⟩ ∧ uc = cap := by
        simp only [Value.slice.injEq] at e
        exact ⟨e.1, e.2.2⟩
      obtain ⟨s, hs⟩ : ∃ s, G[k]? = some s := ⟨_, List.getElem?_eq_getElem (by rw [← HN.out]; omega)⟩
      obtain ⟨a, cp, c0, _, _, _⟩ := hc k s hs
      have HS := Lib.hid hs
      clear e hc hs
      by_cases hy : s.w = x
      · have hq : (((s.w : Nat) : Int) == (x : Int)) = true := by simp [hy]
        have HY := Lib.hid hy
        clear hy
        go_wp2_with fail
        go_ret
        exact .inr ⟨rfl, rfl, k, s, HS.out, HY.out⟩
      · have hq : (((s.w : Nat) : Int) == (x : Int)) = false := by simp; omega
        clear hy
        go_wp2_with fail
        go_round
        case rel => exact ⟨k + 1, by omega, by go_num⟩
        case measure => simp [intOf]; omega
    · go_wp2_with fail
      go_ret
      exact .inl ⟨rfl, rfl⟩
end Go.Proofs.Ytecemlamoiepdaa
