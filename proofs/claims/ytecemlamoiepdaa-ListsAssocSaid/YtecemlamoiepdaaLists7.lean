/- What the laws of lists ask, one step at a time, on a heap that grows. -/
import Derived.Test.YtecemlamoiepdaaLists6
namespace Go.Proofs.Ytecemlamoiepdaa
open Go.RowKit

/-- append, by a guard that holds -/
theorem wpList_app_g {P : Program} {w : World} {ops : Array Oper} {rest : List Oper} {o : Oper} {a : Act} {Q : Exit → Act → World → Prop} {t e : TypeId} {size bytes : Nat} (E : Elem P t e size bytes)
    (hgd : Region.wanted o (yielded ops a.tmps) = true) (s x : Operand) (ho : o.op = .call { callee := .builtin .append, args := #[s, x], argTypes := #[t, t] })
    (v : Value) (n : Nat) (xs : List Value) (hs : a.eval s = v) (hown : w.ownsRow 0 e size v n xs) (xv : Value) (m : Nat) (news : List Value) (hxv : a.eval x = xv) (hx : SlCells w xv m news)
    (hl : news.length = m * size) (h1 : ∀ u ∈ news, u.oneCell' = true) (h63 : n + m ≤ maxLen) (hbytes : (n + m) * bytes ≤ 140737488355328)
    (h : ∀ v' w', w'.ownsRow 0 e size v' (n + m) (xs ++ news) → w.grownBy w' v.ownBlock → (v'.ownBlock = v.ownBlock ∨ v'.ownBlock = some w.heap.size) → wpList P ops Q rest (a.put o.dst v') w') : wpList P ops Q (o :: rest) a w := by
  refine wpList_step fun K hK => ?_
  simp only [hgd, if_true]
  obtain ⟨v', w', hr, h2, h3, h5⟩ := run_app (P := P) w E o.type v n xs hown xv m news hx hl h1 h63 hbytes
  unfold Oper.wp execOp
  simp only [ho, resolve, invoke, builtin, Sem.run_bind, Sem.run_pure, Result.andThen_ok, List.map_toArray, List.map_cons, List.map_nil, hs, hxv, hr]
  exact hK _ _ (h v' w' h2 h3 h5)

theorem Grew.alloc {hb : HB} {M M' : Hp} {n n' : Nat} {w w' : World} (h : Grew hb M n w M' n' w') (o : Obj) : Grew hb M n w M' n' (w'.alloc o) := ⟨h.rep.alloc o, h.pk, h.g, h.mv.trans (.of_below ((Below.refl _ _).alloc (Nat.le_refl _) _))⟩
theorem Grew.moves {hb : HB} {M M' : Hp} {n n' : Nat} {w w' : World} (h : Grew hb M n w M' n' w') : Moves hb w w' := h.mv

variable {hb : HB} {M0 M : Hp} {n0 n : Nat} {w0 w : World}

theorem g_of (G : Grew hb M0 n0 w0 M n w) (sv : Value) (ws : List Nat) (hs : Kept hb w sv ws) (hx : ∀ x ∈ ws, x < 18446744073709551616) (hroom : n + ws.length ≤ 32 * M0.limit) :
    Calls Try.prog 57 #[.pointer (some ⟨hb.h, 0, none⟩), sv] w fun e w' => ∃ (M' : Hp) (v : Nat), e = .returned (.tuple #[.int .u64 (v : Nat), .bool true]) ∧ Grew hb M0 n0 w0 M' (n + ws.length) w' ∧ LSeg M' v (rowL n ws) 20 ∧ M.Grown M' ∧ Moves hb w w' :=
  (of_any G.rep G.pk sv ws hs hx (by rw [G.limit]; exact hroom)).mono fun e w' ⟨M', v, h1, h2, h3⟩ => ⟨M', v, h1, G.trans h2, h3, h2.g, h2.mv⟩

theorem g_rev (G : Grew hb M0 n0 w0 M n w) {v : Nat} {l : List (Nat × Nat)} (hL : Lst M v l) (hroom : n + l.length ≤ 32 * M0.limit) (e : TypeId) :
    Calls Try.prog 58 #[.pointer (some ⟨hb.h, 0, none⟩), .int .i64 15, .slice (some ⟨w.heap.size, 0, none⟩) 1 1] (w.alloc (.cells #[.int .u64 (v : Nat)] e)) fun e w' => ∃ (M' : Hp) (v' : Nat), e = .returned (.tuple #[.int .u64 (v' : Nat), .int .i64 0]) ∧ Grew hb M0 n0 w0 M' (n + l.length) w' ∧ LSeg M' v' (rowL n (l.map (·.2)).reverse) 20 ∧ M.Grown M' ∧ Moves hb w w' :=
  (apply_rev (G.rep.alloc _) G.pk hL (hL.lt G.rep.ok (by omega)) (by rw [G.limit]; exact hroom) _ (one_arg w v e)).mono fun e w' ⟨M', v', h1, h2, h3, h4, h5, h6⟩ => ⟨M', v', h1, (G.alloc _).trans ⟨h2, h3, h4, h6⟩, h5, h4, (Moves.of_below ((Below.refl _ _).alloc (Nat.le_refl _) _)).trans h6⟩

theorem g_app (G : Grew hb M0 n0 w0 M n w) {v v2 : Nat} {l tl : List (Nat × Nat)} (hL : Lst M v l) (hT : Lst M v2 tl) (hroom : n + l.length ≤ 32 * M0.limit) (e : TypeId) :
    Calls Try.prog 58 #[.pointer (some ⟨hb.h, 0, none⟩), .int .i64 14, .slice (some ⟨w.heap.size, 0, none⟩) 2 2] (w.alloc (.cells #[.int .u64 (v : Nat), .int .u64 (v2 : Nat)] e)) fun e w' => ∃ (M' : Hp) (v' : Nat), e = .returned (.tuple #[.int .u64 (v' : Nat), .int .i64 0]) ∧ Grew hb M0 n0 w0 M' (n + l.length) w' ∧ LSeg M' v' (rowL n (l.map (·.2)) ++ tl) 20 ∧ M.Grown M' ∧ Moves hb w w' :=
  (apply_app (G.rep.alloc _) G.pk hL hT (by omega) (hL.lt G.rep.ok (by omega)) (by rw [G.limit]; exact hroom) _ (two_arg w v v2 e)).mono fun e w' ⟨M', v', h1, h2, h3, h4, h5, h6⟩ => ⟨M', v', h1, (G.alloc _).trans ⟨h2, h3, h4, h6⟩, h5, h4, (Moves.of_below ((Below.refl _ _).alloc (Nat.le_refl _) _)).trans h6⟩

theorem g_len (G : Grew hb M0 n0 w0 M n w) {v : Nat} {l : List (Nat × Nat)} (hL : Lst M v l) (hl : l.length ≤ 32768) (e : TypeId) :
    Calls Try.prog 58 #[.pointer (some ⟨hb.h, 0, none⟩), .int .i64 13, .slice (some ⟨w.heap.size, 0, none⟩) 1 1] (w.alloc (.cells #[.int .u64 (v : Nat)] e)) fun e w' => e = .returned (.tuple #[.int .u64 (l.length * 8 : Nat), .int .i64 0]) ∧ Grew hb M0 n0 w0 M n w' ∧ Moves hb w w' :=
  (apply_len (G.rep.alloc _) hL (hL.lt G.rep.ok (by omega)) hl _ (one_arg w v e)).mono fun e w' ⟨h1, h2⟩ => ⟨h1, (G.alloc _).below h2, (Moves.of_below ((Below.refl _ _).alloc (Nat.le_refl _) _)).trans (.of_below h2)⟩

theorem g_list (G : Grew hb M0 n0 w0 M n w) {v : Nat} {l : List (Nat × Nat)} (hL : Lst M v l) (hl : l.length ≤ 32768) :
    Calls Try.prog 59 #[.pointer (some ⟨hb.h, 0, none⟩), .int .u64 v] w fun e w' => ∃ u, e = .returned (.tuple #[u, .bool true]) ∧ OwnW w' u (l.map (·.2)) ∧ Kept hb w' u (l.map (·.2)) ∧ Grew hb M0 n0 w0 M n w' ∧ Moves hb w w' :=
  (list_any G.rep hL (hL.lt G.rep.ok (by omega)) hl).mono fun e w' ⟨u, h1, h2, h3, h4⟩ => ⟨u, h1, h2, Kept.own G.rep h2 h3, G.below h4, .of_below h4⟩

theorem LSeg.at_lt {M : Hp} (o : M.Ok) {v q : Nat} {l : List (Nat × Nat)} (h : LSeg M v l q) (hq : q < 18446744073709551616) (i : Nat) (hi : i ≤ l.length) : LSeg.at' q l i < 18446744073709551616 := (h.drop i hi).lt o hq

theorem g_tail (G : Grew hb M0 n0 w0 M n w) {v : Nat} {l : List (Nat × Nat)} (hL : Lst M v l) (hl : l.length ≤ 32768) (K : Nat) (hK : K ≤ l.length) (e : TypeId) :
    Calls Try.prog 58 #[.pointer (some ⟨hb.h, 0, none⟩), .int .i64 16, .slice (some ⟨w.heap.size, 0, none⟩) 2 2] (w.alloc (.cells #[.int .u64 (v : Nat), .int .u64 (K * 8 : Nat)] e)) fun e w' => e = .returned (.tuple #[.int .u64 (LSeg.at' 20 l K : Nat), .int .i64 0]) ∧ Grew hb M0 n0 w0 M n w' ∧ Moves hb w w' :=
  (apply16 (G.rep.alloc _) (fun w1 b => tail_any ((G.rep.alloc _).below b) hL (hL.lt G.rep.ok (by omega)) (by omega) (nopair (by decide)) hl K hK) _ (two_arg w v (K * 8) e)).mono fun e w' ⟨h1, h2⟩ => ⟨h1, (G.alloc _).below h2, (Moves.of_below ((Below.refl _ _).alloc (Nat.le_refl _) _)).trans (.of_below h2)⟩

theorem g_ref (G : Grew hb M0 n0 w0 M n w) {v : Nat} {l : List (Nat × Nat)} (hL : Lst M v l) (hl : l.length ≤ 32768) (K x : Nat) (hK : (l.map (·.2))[K]? = some x) (e : TypeId) :
    Calls Try.prog 58 #[.pointer (some ⟨hb.h, 0, none⟩), .int .i64 17, .slice (some ⟨w.heap.size, 0, none⟩) 2 2] (w.alloc (.cells #[.int .u64 (v : Nat), .int .u64 (K * 8 : Nat)] e)) fun e w' => e = .returned (.tuple #[.int .u64 (x : Nat), .int .i64 0]) ∧ Grew hb M0 n0 w0 M n w' ∧ Moves hb w w' := by
  obtain ⟨⟨u, y⟩, hy⟩ : ∃ p, l[K]? = some p := by
    rw [List.getElem?_map] at hK
    cases h : l[K]? with
    | none => rw [h] at hK; cases hK
    | some p => exact ⟨p, rfl⟩
  obtain rfl : y = x := by rw [List.getElem?_map, hy] at hK; simpa using hK
  have hlt : K < l.length := (List.getElem?_eq_some_iff.1 hy).1
  obtain ⟨kk, d, hu, hp, hd⟩ := LSeg.step hL K u y hy
  have hat : LSeg.at' 20 l K = u := by simp [LSeg.at', hy]
  refine (apply17 (p := u) (G.rep.alloc _) (fun w1 b => ?_) (fun w1 b => car_ok ((G.rep.alloc _).below b) u (by rw [← hat]; exact hL.at_lt G.rep.ok (by omega) K (by omega)) (by rw [hu]; exact hp.car G.rep.ok)) _ (two_arg w v (K * 8) e)).mono fun e w' ⟨h1, h2⟩ => ⟨h1, (G.alloc _).below h2, (Moves.of_below ((Below.refl _ _).alloc (Nat.le_refl _) _)).trans (.of_below h2)⟩
  have := tail_any ((G.rep.alloc _).below b) hL (hL.lt G.rep.ok (by omega)) (by omega) (nopair (by decide)) hl K (by omega)
  rw [hat] at this
  exact this
end Go.Proofs.Ytecemlamoiepdaa
