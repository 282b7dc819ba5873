/- The walk of morainelaw20.row: frames that are pushed ahead of a row, one by one. -/
import Derived.Test.YtecemlamoiepdaaAwakeF
import Derived.Test.YtecemlamoiepdaaArgs
namespace Go.Proofs.Ytecemlamoiepdaa
open Go.ChangeShapes Go.WideShapes Go.ChangeAt Go.RowKit

/-- frames, each ahead of the next one: c i is the word of the row of the first i, f i the fields of the next -/
def Hp.Chain (M : Hp) (ks : List Nat) (c : Nat → Nat) (f : Nat → List Nat) : Prop := ∀ (i z : Nat), ks[i]? = some z → M.Has (c (i + 1)) 8 0 (z * 8 :: c i :: f i)

theorem Hp.Chain.grown {M M' : Hp} {ks : List Nat} {c : Nat → Nat} {f : Nat → List Nat} (h : M.Chain ks c f) (g : M.Grown M') : M'.Chain ks c f := fun i z hz => (h i z hz).grown g

theorem Hp.push_eq {M : Hp} {K : Int} {k nx : Nat} {fs : List Nat} (hK : K = k) (hk : k ≤ 2147483647) (hn : nx = 20 ∨ M.typ nx = 8) : M.push K nx fs = M.mk' 8 0 (k * 8 :: nx :: fs) := by
  subst hK
  unfold Hp.push
  rw [if_neg (by omega), if_neg (by omega)]
  rfl

theorem Hp.push_has {M : Hp} (o : M.Ok) {K : Int} {k nx : Nat} {fs : List Nat} (hK : K = k) (hk : k ≤ 2147483647) (hn : nx = 20 ∨ M.typ nx = 8) (hf : fs.length ≤ 60) (hs : M.segs.length < M.limit) :
    ∃ x M', M.push K nx fs = (x, 0, M') ∧ M.Grown M' ∧ M'.Has x 8 0 (k * 8 :: nx :: fs) ∧ M'.segs.length ≤ M.segs.length + 1 := by
  obtain ⟨x, M', h⟩ := Hp.mk_some (M := M) (k := 8) (m := 0) (ws := k * 8 :: nx :: fs) (by simp; omega) hs
  exact ⟨x, M', by rw [Hp.push_eq hK hk hn]; exact h, Hp.mk_has o (by omega) (by omega) (by simp; omega) (by omega) h⟩

set_option maxHeartbeats 1000000 in
theorem row_ok {hb : HB} {M : Hp} {w : World} (r : Rep hb M w) (v : Value) (zs : List Int) (hv : Stays hb w (fun w' => IntsAt .u16 w' v zs)) (hz : ∀ z ∈ zs, 0 ≤ z ∧ z < 65536) (hl : zs.length ≤ 60)
    (x : Nat) (hx : x < 18446744073709551616) (hx8 : x = 20 ∨ M.typ x = 8) (hs : M.segs.length + zs.length ≤ M.limit) :
    Calls Try.prog 16 #[.pointer (some ⟨hb.h, 0, none⟩), v, .int .u64 x] w fun e w' => ∃ (c : Nat → Nat) (M' : Hp), e = .returned (.int .u64 (c zs.length)) ∧ Rep hb M' w' ∧ Moves hb w w' ∧ M.Grown M' ∧
      c 0 = x ∧ M'.Chain (zs.map Int.toNat) c (fun i => [i * 8]) ∧ M'.segs.length ≤ M.segs.length + zs.length ∧ (c zs.length = 20 ∨ M'.typ (c zs.length) = 8) ∧ c zs.length < 18446744073709551616 := by
  obtain ⟨a, cap, hva⟩ := hv.now.len.2
  obtain ⟨n, hn⟩ : ∃ n, n = zs.length := ⟨_, rfl⟩
  have R := Lib.hid r
  have V := Lib.hid hv
  have HZ := Lib.hid hz
  have HX := Lib.hid hx8
  have HS := Lib.hid hs
  rw [← hn] at hva hl
  have HN := Lib.hid hn
  clear r hv hz hx8 hs hn
  subst hva
  go_enter Try.func16, Try.ntmps16
  go_wp2_with fail
  go_loopw [2, 7] (fun u i wr => ∃ (k : Nat) (c : Nat → Nat) (Mr : Hp), k ≤ n ∧ i = .int .i64 k ∧ u = .int .u64 (c k) ∧ Rep hb Mr wr ∧ Moves hb w wr ∧ M.Grown Mr ∧ c 0 = x ∧
    Mr.Chain ((zs.take k).map Int.toNat) c (fun i => [i * 8]) ∧ Mr.segs.length ≤ M.segs.length + k ∧ (c k = 20 ∨ Mr.typ (c k) = 8) ∧ c k < 18446744073709551616) (fun _ i _ => n - (intOf i).toNat)
  case atStart => exact ⟨0, fun _ => x, M, Nat.zero_le _, rfl, rfl, R.out, .refl _ _, .refl _, rfl, by intro i z hz; simp at hz, by omega, HX.out, hx⟩
  case round =>
    obtain ⟨k, c, Mr, hk, rfl, rfl, hR, hM, hG, h0, hC, hS, h8, hc⟩ := hrel
    by_cases hlt : k < n
    · obtain ⟨b, o, cap', hv', hbl, hcell⟩ := (V.out _ hM).form (by rw [← HN.out]; omega)
      cases hv'
      obtain ⟨z, hz⟩ : ∃ z, zs[k]? = some z := ⟨_, List.getElem?_eq_getElem (by rw [← HN.out]; omega)⟩
      have c1 := hcell k z hz
      have hzb := HZ.out z (List.mem_of_getElem? hz)
      have hz0 := hzb.1
      have hz1 := hzb.2
      have h9 := HS.out
      have hno := HN.out
      have hlim : Mr.limit = M.limit := hG.1
      obtain ⟨x', M', hp, g', hh', hs'⟩ := Hp.push_has hR.ok (K := z) (k := z.toNat) (nx := c k) (fs := [k * 8]) (by omega) (by omega) h8 (by simp) (by omega)
      have RR := Lib.hid hR
      have HM := Lib.hid hM
      have HG := Lib.hid hG
      have HC := Lib.hid hC
      have H8 := Lib.hid h8
      have HP := Lib.hid hp
      have HH := Lib.hid (And.intro g' (And.intro hh' hs'))
      have HZK := Lib.hid hz
      clear hR hM hG hC h8 hp g' hh' hs' hcell hzb h9 hz
      go_wp2_with fail
      rw [show ((k : Int) * 8) = ((k * 8 : Nat) : Int) by omega]
      refine (push_any (RR.out.alloc _) z (c k) hc _ [k * 8] (.inr ⟨_, 0, 1, rfl, by simp, one_at _ _⟩) (by simp) (by intro y hy; simp at hy; omega) HP.out).mono ?_
      rintro e w2 ⟨rfl, r2, m2⟩
      have R2 := Lib.hid r2
      have M2 : Hid (Moves hb w w2) := Lib.hid ((HM.out.alloc _).trans m2)
      clear r2 m2
      go_wp2_with fail
      go_roundw
      case rel =>
        obtain ⟨g', hh', hs'⟩ := HH.out
        refine ⟨k + 1, fun j => if j = k + 1 then x' else c j, M', by omega, by go_num, by simp, R2.out, M2.out, HG.out.trans g', by simp [h0], ?_, by omega, ?_, ?_⟩
        · intro i y hy
          by_cases hi : i = k
          · subst hi
            rw [List.getElem?_map, List.getElem?_take_of_lt (by omega), HZK.out] at hy
            cases hy
            simpa using hh'
          · have hi2 : i < k := by
              have := (List.getElem?_eq_some_iff.1 hy).1
              simp at this
              omega
            have hy2 : ((zs.take k).map Int.toNat)[i]? = some y := by
              rw [List.getElem?_map, List.getElem?_take_of_lt (by omega)] at hy ⊢
              exact hy
            have := (HC.out i y hy2).grown g'
            simpa [show ¬ i = k + 1 by omega, hi] using this
        · right; simp only [if_pos]; exact hh'.typ
        · simp only [if_pos]; have := hh'.lt; omega
      case measure => simp [intOf]; omega
    · obtain rfl : k = n := by omega
      have RR := Lib.hid hR
      have HM := Lib.hid hM
      have HG := Lib.hid hG
      have HC := Lib.hid hC
      have H8 := Lib.hid h8
      clear hR hM hG hC h8
      go_wp2_with fail
      go_ret
      have e0 := HN.out
      refine ⟨c, Mr, by rw [← e0]; rfl, RR.out, HM.out, HG.out, h0, ?_, by rw [← e0]; exact hS, by rw [← e0]; exact H8.out, by rw [← e0]; exact hc⟩
      have h7 := HC.out
      rw [e0, List.take_length] at h7
      exact h7
end Go.Proofs.Ytecemlamoiepdaa
