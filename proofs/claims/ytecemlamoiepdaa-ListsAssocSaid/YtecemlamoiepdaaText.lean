/- The contracts of obj's words (all words of an object of a type), and of Text. -/
import Derived.Test.YtecemlamoiepdaaStr
import Derived.Laws.Cover4
namespace Go.Proofs.Ytecemlamoiepdaa
open Go.RowKit

/-- an object's words, if it is of that type -/
def Hp.wordsOf (M : Hp) (x : Nat) (K : Int) : Option (List Nat) :=
  match M.objOf x with
  | some (a, k, n, _) => if (k : Int) = K then some ((List.range n).map fun i => (M.rd (a + 1 + i)).getD 0) else none
  | none => none

theorem Hp.wordsOf_lt {M : Hp} (o : M.Ok) {x : Nat} {K : Int} {ws : List Nat} (h : M.wordsOf x K = some ws) : ws.length ≤ 62 ∧ ∀ y ∈ ws, y < 18446744073709551616 := by
  unfold Hp.wordsOf at h
  split at h
  · rename_i a k n m ho
    split at h
    · cases h
      obtain ⟨h1, h2, h3, h4, h5⟩ := Hp.objOf_lt ho
      refine ⟨by simpa using h2, fun y hy => ?_⟩
      obtain ⟨i, hi, rfl⟩ := List.mem_map.1 hy
      obtain ⟨v, hv⟩ := Hp.objOf_rd o ho i (List.mem_range.1 hi)
      rw [hv, Option.getD_some]
      obtain ⟨s, hs1, hs2⟩ := Hp.rd_some hv
      exact o.word _ _ hs1 v (List.mem_of_getElem? hs2)
    · cases h
  · cases h

def RetWords (w : World) (o : Option (List Nat)) (e : Ending) (w' : World) : Prop :=
  match o with
  | none => e = .returned (.tuple #[.slice none 0 0, .bool false]) ∧ Below w.heap.size w w'
  | some ws => ∃ v, e = .returned (.tuple #[v, .bool true]) ∧ OwnW w' v ws ∧ (∀ k, v.ownBlock = some k → w.heap.size ≤ k) ∧ Below w.heap.size w w'

theorem made_w (n : Nat) : madeCells #[Value.int .u64 0] n = (List.replicate n (wv 0)).toArray := by
  unfold madeCells
  apply Array.ext
  · simp
  · intro i h1 h2
    simp [wv, Nat.mod_one]

def fillW (ws : List Nat) (n j : Nat) : List Value := (ws.take j).map wv ++ List.replicate (n - j) (wv 0)

theorem fillW_len {ws : List Nat} {n j : Nat} (hl : ws.length = n) (hj : j ≤ n) : (fillW ws n j).length = n := by
  unfold fillW
  rw [List.length_append, List.length_map, List.length_take, List.length_replicate]
  omega

theorem fillW_at {ws : List Nat} {n j : Nat} (hl : ws.length = n) (hj : j < n) : (fillW ws n j)[j]? = some (wv 0) := by
  have h : ((ws.take j).map wv).length = j := by rw [List.length_map, List.length_take]; omega
  unfold fillW
  rw [List.getElem?_append_right (by omega), h, Nat.sub_self, List.getElem?_replicate, if_pos (by omega)]

theorem fillW_set {ws : List Nat} {n j v : Nat} (hl : ws.length = n) (hj : j < n) (hv : ws[j]? = some v) : (fillW ws n j).set j (wv v) = fillW ws n (j + 1) := by
  have h : ((ws.take j).map wv).length = j := by rw [List.length_map, List.length_take]; omega
  unfold fillW
  rw [List.set_append, if_neg (by omega), h, Nat.sub_self, List.take_add_one, hv, List.map_append, List.append_assoc, show n - j = (n - (j + 1)) + 1 by omega, List.replicate_succ]
  rfl

theorem fillW_end {ws : List Nat} {n : Nat} (hl : ws.length = n) : fillW ws n n = ws.map wv := by
  unfold fillW
  rw [← hl]
  simp

set_option maxRecDepth 20000 in
set_option maxHeartbeats 2000000 in
theorem words_any {hb : HB} {M : Hp} {w : World} (r : Rep hb M w) (x : Nat) (hx : x < 18446744073709551616) (K : Int) :
    Calls Try.prog 78 #[.pointer (some ⟨hb.h, 0, none⟩), .int .u64 x, .int .i64 K] w (RetWords w (M.wordsOf x K)) := by
  have hO := object_any r x hx
  unfold Hp.wordsOf
  rcases ho : M.objOf x with _ | ⟨a, k, n, m⟩
  · rw [ho] at hO
    simp only [objVal] at hO
    clear r
    go_enter Try.func78, Try.ntmps78
    go_wp2_with fail
    refine hO.mono ?_
    rintro e w1 ⟨rfl, b1⟩
    clear hO
    go_wp2_with fail
    go_ret2
    exact ⟨by simp, b1⟩
  · rw [ho] at hO
    simp only [objVal] at hO
    obtain ⟨h1, h2, h3, h4, h5⟩ := Hp.objOf_lt ho
    by_cases hk : (k : Int) = K
    · simp only [if_pos hk]
      subst hk
      have hrd : ∀ i, i < n → ∃ v, M.rd (a + 1 + i) = some v := fun i hi => Hp.objOf_rd r.ok ho i hi
      obtain ⟨ws, hws⟩ : ∃ ws, ws = (List.range n).map fun i => (M.rd (a + 1 + i)).getD 0 := ⟨_, rfl⟩
      rw [← hws]
      have hwl : ws.length = n := by rw [hws]; simp
      have hwi : ∀ i, i < n → ∃ v, M.rd (a + 1 + i) = some v ∧ ws[i]? = some v := by
        intro i hi
        obtain ⟨v, hv⟩ := hrd i hi
        refine ⟨v, hv, ?_⟩
        rw [hws, List.getElem?_map, List.getElem?_range hi]
        simp [hv]
      have R := Lib.hid r
      have HWI := Lib.hid hwi
      have HWL := Lib.hid hwl
      have t1 : (((k : Nat) : Int) != k) = false := by simp
      clear r ho hws hrd hwi hwl h3 h4 h5
      go_enter Try.func78, Try.ntmps78
      go_wp2_with fail
      refine hO.mono ?_
      rintro e w1 ⟨rfl, b1⟩
      have B1 := Lib.hid b1
      clear hO b1
      go_wp2_with (at_make; refine wpList_mk (z := .int .u64 0) (zc := #[.int .u64 0]) (size := 1) (bytes := 8) Try.underlying39 rfl (by kernel_rfl) rfl _ _ rfl .i64 .i64 _ _ n rfl rfl rfl rfl (by omega) (by unfold maxLen; omega) ?_)
      obtain ⟨g, hg⟩ : ∃ g, g = w1.heap.size := ⟨_, rfl⟩
      have hB2 : Below w.heap.size w (w1.alloc (.cells (madeCells #[.int .u64 0] n) 29)) := B1.out.alloc B1.out.size _
      have hG2 : (w1.alloc (.cells (madeCells #[.int .u64 0] n) 29)).heap[g]? = some (.cells (fillW ws n 0).toArray 29 (0, 0)) := by
        rw [hg, made_w]; simpa [fillW] using heap_alloc_new w1 (.cells (List.replicate n (wv 0)).toArray 29)
      have hgw : w.heap.size ≤ g := by rw [hg]; exact B1.out.size
      rw [← hg]
      have B2 := Lib.hid hB2
      have G2 := Lib.hid hG2
      clear hB2 hG2 B1 hg
      go_loopw [35] (fun iv wr => ∃ j : Nat, j ≤ n ∧ iv = .int .i64 j ∧ wr.heap[g]? = some (.cells (fillW ws n j).toArray 29 (0, 0)) ∧ Below w.heap.size w wr) (fun iv _ => n - (intOf iv).toNat)
      case atStart => exact ⟨0, Nat.zero_le _, rfl, G2.out, B2.out⟩
      case round =>
        obtain ⟨j, hj, rfl, hgj, hBj⟩ := hrel
        have GJ := Lib.hid hgj
        have BJ := Lib.hid hBj
        by_cases hlt : j < n
        · obtain ⟨v, hv1, hv2⟩ := HWI.out j hlt
          have rj := R.out.below hBj
          have hRd := read_yes rj ((a : Int) + 1 + (j : Int)) (v := v) (by omega) (by rw [show ((a : Int) + 1 + (j : Int)).toNat = a + 1 + j by omega]; exact hv1)
          have c0 := rj.h0
          have c1 := rj.c0
          have c2 := rj.s0
          have d1 : wr.cell? ⟨g, j, none⟩ = some (wv 0) := by
            unfold World.cell?
            simp only [hgj]
            rw [List.getElem?_toArray, fillW_at HWL.out hlt]
            simp
          have d2 : wr.frozen? ⟨g, j, none⟩ = false := by simp [World.frozen?, hgj]
          have GN : Hid ((wr.setCell ⟨g, j, none⟩ (.int .u64 (v : Nat))).heap[g]? = some (.cells (fillW ws n (j + 1)).toArray 29 (0, 0))) := Lib.hid (by
            have hst := fillW_set HWL.out hlt hv2
            simp [World.setCell, Array.getElem?_modify, hgj]
            exact hst)
          have BN : Hid (Below w.heap.size w (wr.setCell ⟨g, j, none⟩ (.int .u64 (v : Nat)))) := Lib.hid (hBj.setCell (p := ⟨g, j, none⟩) hgw _)
          clear rj hgj hBj hv1 hv2
          go_wp2_with fail
          refine hRd.mono ?_
          rintro e w3 ⟨rfl, rfl⟩
          clear hRd c0 c1 c2
          go_wp2_with fail
          go_roundw
          case rel => exact ⟨j + 1, by omega, by go_num, GN.out, BN.out⟩
          case measure => simp [intOf]; omega
        · obtain rfl : j = n := by omega
          clear hgj hBj
          go_wp2_with fail
          go_ret2
          have hw : fillW ws j j = ws.map wv := fillW_end HWL.out
          have hG := GJ.out
          rw [hw] at hG
          refine ⟨_, by simp; rfl, ⟨by simp, .inr ⟨g, j, _, ?_, Nat.zero_le _, hG, ?_, ?_, ?_, ?_⟩⟩, ?_, BJ.out⟩
          · rw [HWL.out]
          · rw [HWL.out]; exact Nat.le_refl _
          · unfold maxLen; omega
          · simp [HWL.out]
          · simp
            rw [List.take_of_length_le (by simp)]
          · intro q hq
            cases hq
            exact hgw
    · simp only [if_neg hk]
      have t1 : (((k : Nat) : Int) != K) = true := by rw [bne_iff_ne]; exact hk
      clear r hk
      go_enter Try.func78, Try.ntmps78
      go_wp2_with fail
      refine hO.mono ?_
      rintro e w1 ⟨rfl, b1⟩
      clear hO
      go_wp2_with fail
      go_ret2
      exact ⟨by simp, b1⟩

/-! ### Text -/
def clampR (y : Nat) : Nat := if 1114111 < y then 65533 else y
def runeV (y : Nat) : Value := .int .i32 (clampR y : Nat)
def Hp.txt (M : Hp) (x : Nat) : Option ByteArray := (M.wordsOf x 2).map fun ws => runesBytes (ws.map fun y => ((clampR y : Nat) : Int))
def txtVal : Option ByteArray → Value
  | some b => .tuple #[.string b, .int .i64 0]
  | none => .tuple #[.string .empty, .int .i64 3]

theorem E_rune : Elem Try.prog 86 21 1 4 := Elem.of (z := .int .i32 0) Try.underlying86 (by kernel_rfl) rfl (by decide)

theorem take_runes {ws : List Nat} {j y : Nat} (h : ws[j]? = some y) : (ws.take (j + 1)).map runeV = (ws.take j).map runeV ++ [runeV y] := by
  rw [List.take_add_one, h, List.map_append]; rfl

set_option maxRecDepth 20000 in
set_option maxHeartbeats 2000000 in
theorem text_any {hb : HB} {M : Hp} {w : World} (r : Rep hb M w) (x : Nat) (hx : x < 18446744073709551616) :
    Calls Try.prog 43 #[.pointer (some ⟨hb.h, 0, none⟩), .int .u64 x] w fun e w' => e = .returned (txtVal (M.txt x)) ∧ Below w.heap.size w w' := by
  have hW := words_any r x hx 2
  have ho := r.ok
  unfold Hp.txt
  rcases hq : M.wordsOf x 2 with _ | ws
  · rw [hq] at hW
    clear r ho
    go_enter Try.func43, Try.ntmps43
    go_wp2_with fail
    refine hW.mono ?_
    rintro e w1 ⟨rfl, b1⟩
    clear hW
    go_wp2_with fail
    go_ret2
    exact ⟨by simp [txtVal]; rfl, b1⟩
  · rw [hq] at hW
    obtain ⟨hl62, hlt⟩ := Hp.wordsOf_lt ho hq
    obtain ⟨n, hn⟩ : ∃ n, n = ws.length := ⟨_, rfl⟩
    rw [← hn] at hl62
    have HN := Lib.hid hn
    have HLT := Lib.hid hlt
    clear r ho hq hn hlt
    go_enter Try.func43, Try.ntmps43
    go_wp2_with fail
    refine hW.mono ?_
    rintro e w1 ⟨v, rfl, o1, k1, b1⟩
    obtain ⟨va, vc, rfl⟩ := o1.slice'
    rw [← HN.out] at o1 k1 ⊢
    have O1 := Lib.hid o1
    have B1 := Lib.hid b1
    clear hW o1 k1 b1
    go_wp2_with fail
    go_loopw [8, 21] (fun u iv wr => ∃ j : Nat, j ≤ n ∧ iv = .int .i64 j ∧ wr.ownsRow 0 21 1 u j ((ws.take j).map runeV) ∧ (∀ k, u.ownBlock = some k → w1.heap.size ≤ k) ∧ Below w1.heap.size w1 wr) (fun _ iv _ => n - (intOf iv).toNat)
    case atStart => exact ⟨0, Nat.zero_le _, rfl, ⟨rfl, .inl ⟨rfl, rfl⟩⟩, by intro k hk; simp [Value.ownBlock] at hk, Below.refl _ _⟩
    case round =>
      obtain ⟨j, hj, rfl, ho, hk, hB⟩ := hrel
      obtain ⟨ua, uc, rfl⟩ := own_slice' ho
      have O := Lib.hid ho
      have HK := Lib.hid hk
      have BB := Lib.hid hB
      by_cases hlt : j < n
      · obtain ⟨g, cap, e1, _, hg, hw1⟩ := OwnW.form (ws := ws) (by have := O1.out; rw [HN.out] at this; exact this) (by rw [← HN.out]; omega)
        rw [← HN.out] at e1
        obtain ⟨rfl, rfl⟩ : va = some ⟨g, 0, none⟩ ∧ vc = cap := by
          simp only [Value.slice.injEq] at e1
          exact ⟨e1.1, e1.2.2⟩
        obtain ⟨y, hy⟩ : ∃ y, ws[j]? = some y := ⟨_, List.getElem?_eq_getElem (by rw [← HN.out]; omega)⟩
        have hc : wr.cell? ⟨g, j, none⟩ = some (.int .u64 (y : Nat)) := (hB.cell (p := ⟨g, j, none⟩) hg).trans (by have := hw1 j y hy; rw [Nat.zero_add] at this; exact this)
        have HY := Lib.hid hy
        clear ho hk hB e1 hw1 hy
        obtain ⟨cy, hcy⟩ : ∃ cy, cy = clampR y := ⟨_, rfl⟩
        have hcl : cy ≤ 1114111 := by rw [hcy]; unfold clampR; split <;> omega
        have HCY := Lib.hid hcy
        have OA : Hid (∀ (cs : Array Value) (e : TypeId), World.ownsRow (wr.alloc (.cells cs e)) 0 21 1 (.slice ua j uc) j ((ws.take j).map runeV)) := Lib.hid fun cs e => O.out.alloc _
        by_cases hbig : 1114111 < y
        · have hce : cy = 65533 := by rw [hcy]; unfold clampR; rw [if_pos hbig]
          have HCE := Lib.hid hce
          clear hcy hce hcl
          go_wp2_with (at_builtin; refine wpList_app E_rune rfl _ _ rfl (.slice ua j uc) j ((ws.take j).map runeV) rfl (OA.out _ _) (.slice (some ⟨wr.heap.size, 0, none⟩) 1 1) 1 [.int .i32 65533] rfl (one_word _ _ _ _ rfl) (by simp) (by simp [Value.oneCell']) (by unfold maxLen; omega) (by omega) ?_; intro v' w6 hown hgrow hat)
          have hre : runeV y = .int .i32 65533 := by unfold runeV; rw [← HCY.out, HCE.out]; rfl
          refine ⟨⟨j + 1, by omega, by go_num, ?_, ?_, ?_⟩, ?_⟩
          · rw [take_runes HY.out, hre]; exact hown
          · intro k hk
            rcases hat with h | h
            · rw [h] at hk; exact HK.out k hk
            · rw [h] at hk; cases hk; have := BB.out.size; simp; omega
          · exact below_grown (BB.out.alloc BB.out.size _) hgrow (fun k e => HK.out k e)
          · simp [intOf]; omega
        · have hce : cy = y := by rw [hcy]; unfold clampR; rw [if_neg hbig]
          have HCE := Lib.hid hce
          have hyl : y ≤ 1114111 := by omega
          have hcw : IntKind.i32.wrap (y : Int) = y := by rw [IntKind.wrap_i32]; omega
          clear hcy hce hcl
          go_wp2_with (at_builtin; refine wpList_app E_rune rfl _ _ rfl (.slice ua j uc) j ((ws.take j).map runeV) rfl (OA.out _ _) (.slice (some ⟨wr.heap.size, 0, none⟩) 1 1) 1 [.int .i32 (y : Nat)] rfl (one_word _ _ _ _ rfl) (by simp) (by simp [Value.oneCell']) (by unfold maxLen; omega) (by omega) ?_; intro v' w6 hown hgrow hat)
          have hre : runeV y = .int .i32 (y : Nat) := by unfold runeV; rw [← HCY.out, HCE.out]
          refine ⟨⟨j + 1, by omega, by go_num, ?_, ?_, ?_⟩, ?_⟩
          · rw [take_runes HY.out, hre]; exact hown
          · intro k hk
            rcases hat with h | h
            · rw [h] at hk; exact HK.out k hk
            · rw [h] at hk; cases hk; have := BB.out.size; simp; omega
          · exact below_grown (BB.out.alloc BB.out.size _) hgrow (fun k e => HK.out k e)
          · simp [intOf]; omega
      · obtain rfl : j = n := by omega
        have hws : (ws.take j).map runeV = ws.map runeV := by rw [List.take_of_length_le (by have := HN.out; omega)]
        have hcv : (convert 86 9 (.slice ua j uc)).run Try.prog wr = .ok (.string (runesBytes (ws.map fun y => ((clampR y : Nat) : Int)))) wr := by
          have h0 := O.out
          rw [hws] at h0
          obtain ⟨zs, hzs⟩ : ∃ zs : List Int, zs = ws.map fun y => ((clampR y : Nat) : Int) := ⟨_, rfl⟩
          have hzl : zs.length = j := by rw [hzs, List.length_map]; exact HN.out.symm
          rw [← hzs]
          cases hu : ua with
          | none =>
            rw [run_convert_runes_nil (e := 21) wr _ _ j uc Try.underlying86 Try.underlying21 Try.underlying9]
            have hz : zs = [] := by
              rcases h0.2 with ⟨_, hj0⟩ | ⟨g, cap, cur, e9, _⟩
              · exact List.eq_nil_of_length_eq_zero (by omega)
              · rw [hu] at e9; cases e9
            rw [hz]
            rfl
          | some ad =>
            have h9 := run_convert_runes (P := Try.prog) wr 86 9 21 ad j uc zs (by omega) Try.underlying86 Try.underlying21 Try.underlying9 (by
              intro i hi
              rcases h0.2 with ⟨e9, _⟩ | ⟨g, cap, cur, e9, _, hgg, _⟩
              · rw [hu] at e9; cases e9
              · rw [hu] at e9
                obtain rfl : ad = ⟨g, 0, none⟩ := by simpa using (by simpa using e9 : ad = ⟨g, 0, none⟩ ∧ _).1
                have hc := h0.cells (g := g) (by rw [hu]; rfl) i (runeV (ws.getD i 0)) (by
                  rw [List.getElem?_map, List.getD_eq_getElem?_getD, List.getElem?_eq_getElem (by have := HN.out; omega)]
                  rfl)
                rw [hc, hzs]
                have hiw : i < ws.length := by have := HN.out; omega
                simp [runeV, hiw])
            rw [List.take_of_length_le (by omega)] at h9
            exact h9
        have HCV := Lib.hid hcv
        clear hcv
        clear hws ho hk hB
        have hcv := HCV.out
        go_wp2_with fail
        go_ret2
        exact ⟨by simp [txtVal], B1.out.trans (BB.out.mono B1.out.size)⟩
end Go.Proofs.Ytecemlamoiepdaa
