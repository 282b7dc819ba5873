/- morainelaw22.fixes, same, of. -/
import Derived.Test.YtecemlamoiepdaaAwake22
namespace Go.Proofs.Ytecemlamoiepdaa
open Go.RowKit

/-- a number's word -/
def fixW (x : Int) : Nat := (x * 8 % 18446744073709551616).toNat
def fixL (r : List Int) : List Nat := r.map fixW

theorem fixW_cast (x : Int) : ((fixW x : Nat) : Int) = x * 8 % 18446744073709551616 := by unfold fixW; omega
theorem fixW_wrap (x : Int) : wv (fixW x) = .int .u64 (IntKind.u64.wrap (IntKind.u64.wrap x * 8)) := by
  unfold wv
  rw [fixW_cast, IntKind.wrap_u64, IntKind.wrap_u64]
  congr 1
  omega
theorem fixW_lt (x : Int) : fixW x < 18446744073709551616 := by unfold fixW; omega
theorem fixW_inj {x y : Int} (hx : -2147483648 ≤ x ∧ x < 2147483648) (hy : -2147483648 ≤ y ∧ y < 2147483648) : fixW x = fixW y ↔ x = y := by unfold fixW; omega
theorem fixW_tag (x : Int) : fixW x % 8 = 0 := by unfold fixW; omega
theorem fixW_nat (k : Nat) (h : k < 1000000) : fixW k = k * 8 := by unfold fixW; omega
theorem fixL_snoc {r : List Int} {n : Nat} {x : Int} (h : r[n]? = some x) : fixL (r.take (n + 1)) = fixL (r.take n) ++ [fixW x] := by
  unfold fixL
  rw [List.take_add_one, h]
  simp
theorem fixL_len (r : List Int) : (fixL r).length = r.length := by unfold fixL; simp
theorem fixL_lt {r : List Int} : ∀ x ∈ fixL r, x < 18446744073709551616 := by
  intro x hx
  obtain ⟨y, _, rfl⟩ := List.mem_map.1 hx
  exact fixW_lt y

theorem one_cell' (w : World) (u : Value) (e : TypeId) : SlCells (w.alloc (.cells #[u] e)) (.slice (some ⟨w.heap.size, 0, none⟩) 1 1) 1 [u] := by
  refine .inr ⟨w.heap.size, 0, 1, rfl, by simp, fun j y hy => ?_⟩
  match j with
  | 0 => cases hy; simp
  | j + 1 => cases hy

set_option maxRecDepth 20000 in
set_option maxHeartbeats 2000000 in
theorem fixes_any (sv : Value) (zs : List Int) (w : World) (hz : IntsAt .i32 w sv zs) (hr : ∀ z ∈ zs, -2147483648 ≤ z ∧ z < 2147483648) (hl : zs.length ≤ 1000000) :
    Calls Try.prog 56 #[sv] w fun e w' => ∃ v, e = .returned v ∧ OwnW w' v (fixL zs) ∧ Below w.heap.size w w' ∧ ∀ k, v.ownBlock = some k → w.heap.size ≤ k := by
  obtain ⟨m, hm⟩ : ∃ m, m = zs.length := ⟨_, rfl⟩
  obtain ⟨hml, sa, sc, hsv⟩ := hz.len
  rw [← hm] at hl hml hsv
  subst hsv
  have HZ := Lib.hid hz
  have HM := Lib.hid hm
  have HR := Lib.hid hr
  clear hz hm hr hml
  go_enter Try.func56, Try.ntmps56
  go_wp2_with fail
  go_loopw [3, 4] (fun v i wr => ∃ n : Nat, n ≤ m ∧ i = .int .i64 n ∧ OwnW wr v (fixL (zs.take n)) ∧ Below w.heap.size w wr ∧ ∀ g, v.ownBlock = some g → w.heap.size ≤ g) (fun _ i _ => m - (intOf i).toNat)
  case atStart => exact ⟨0, Nat.zero_le _, rfl, OwnW.nil' _, Below.refl _ _, by intro g hg; cases hg⟩
  case round =>
    obtain ⟨n, hn, rfl, hO, hB5, hg⟩ := hrel
    by_cases hnm : n < m
    · obtain ⟨b3, o3, p3, e3, s3, k3⟩ := (HZ.out.below hB5).form (by rw [← HM.out]; omega)
      obtain ⟨x, hx⟩ : ∃ x, zs[n]? = some x := ⟨_, List.getElem?_eq_getElem (by rw [← HM.out]; omega)⟩
      have c3 := k3 n x hx
      have hx0 := HR.out x (List.mem_of_getElem? hx)
      obtain ⟨rfl, rfl⟩ : sa = some ⟨b3, o3, none⟩ ∧ sc = p3 := by
        simp only [Value.slice.injEq] at e3
        exact ⟨e3.1, e3.2.2⟩
      have hlen : (fixL (zs.take n)).length = n := by rw [fixL_len, List.length_take]; have := HM.out; omega
      have hO1 := hO
      unfold OwnW at hO1
      rw [hlen] at hO1
      have O1 := Lib.hid (hO1.alloc (.cells #[.int .u64 (IntKind.u64.wrap (IntKind.u64.wrap x * 8))] 29))
      have G := Lib.hid hg
      have B5 := Lib.hid hB5
      have X := Lib.hid hx
      have OC := Lib.hid (one_cell' wr (.int .u64 (IntKind.u64.wrap (IntKind.u64.wrap x * 8))) 29)
      clear hO hO1 hg hB5 hx e3 s3 k3 hlen
      go_wp2_with (at_builtin; refine wpList_app E_word rfl _ _ rfl u3 n ((fixL (zs.take n)).map wv) rfl O1.out _ 1 [.int .u64 (IntKind.u64.wrap (IntKind.u64.wrap x * 8))] rfl OC.out (by simp) (by simp [Value.oneCell']) (by unfold maxLen; omega) (by omega) ?_; intro v' w6 hown hgrow hat)
      go_roundw
      case rel =>
        refine ⟨n + 1, by omega, by go_num, ?_, grown_below (W := w) (B5.out.alloc B5.out.size _) hgrow (fun g hg => G.out g hg), ?_⟩
        · have hlen : (fixL (zs.take n)).length = n := by rw [fixL_len, List.length_take]; have := HM.out; omega
          unfold OwnW
          rw [fixL_snoc X.out, List.map_append, List.length_append, hlen]
          show w6.ownsRow 0 29 1 v' (n + 1) (_ ++ [wv (fixW x)])
          rw [fixW_wrap]
          exact hown
        · intro g hg
          rcases hat with h | h
          · rw [h] at hg; exact G.out g hg
          · rw [h] at hg; cases hg; have := B5.out.size; simp; omega
      case measure => simp [intOf]; omega
    · obtain rfl : n = m := by omega
      rw [HM.out, List.take_length] at hO
      have HO := Lib.hid hO
      have HB := Lib.hid hB5
      have HG := Lib.hid hg
      clear hO hB5 hg
      go_wp2_with fail
      go_ret
      exact ⟨_, rfl, HO.out, HB.out, HG.out⟩

set_option maxRecDepth 20000 in
set_option maxHeartbeats 2000000 in
theorem same_any (u v : Value) (xs ys : List Nat) (w : World) (hu : SlWords w u xs) (hv : SlWords w v ys) (hl : xs.length ≤ 1000000) (hl2 : ys.length ≤ 1000000) :
    Calls Try.prog 60 #[u, v] w fun e w' => e = .returned (.bool (decide (xs = ys))) ∧ Below w.heap.size w w' := by
  obtain ⟨m, hm⟩ : ∃ m, m = xs.length := ⟨_, rfl⟩
  obtain ⟨m2, hm2⟩ : ∃ m, m = ys.length := ⟨_, rfl⟩
  obtain ⟨ua, uc, hsu⟩ := hu.slice
  obtain ⟨va, vc, hsv⟩ := hv.slice
  rw [← hm] at hl hsu
  rw [← hm2] at hl2 hsv
  subst hsu hsv
  generalize hB : decide (xs = ys) = bb
  have HB := Lib.hid hB
  have HU := Lib.hid hu
  have HV := Lib.hid hv
  have HM := Lib.hid hm
  have HM2 := Lib.hid hm2
  clear hu hv hm hm2 hB
  by_cases hne : m = m2
  · subst hne
    go_enter Try.func60, Try.ntmps60
    go_wp2_with fail
    go_loopw [5] (fun i wr => ∃ n : Nat, n ≤ m ∧ i = .int .i64 n ∧ xs.take n = ys.take n ∧ Below w.heap.size w wr) (fun i _ => m - (intOf i).toNat)
    case atStart => exact ⟨0, Nat.zero_le _, rfl, rfl, Below.refl _ _⟩
    case round =>
      obtain ⟨n, hn, rfl, hpre, hbw⟩ := hrel
      have HP := Lib.hid hpre
      have BW := Lib.hid hbw
      clear hpre hbw
      by_cases hnm : n < m
      · obtain ⟨x, hx⟩ : ∃ x, xs[n]? = some x := ⟨_, List.getElem?_eq_getElem (by rw [← HM.out]; omega)⟩
        obtain ⟨y, hy⟩ : ∃ x, ys[n]? = some x := ⟨_, List.getElem?_eq_getElem (by rw [← HM2.out]; omega)⟩
        obtain ⟨b3, o3, p3, e3, l3, q3, k3⟩ := (HU.out.below BW.out).form (by rw [← HM.out]; omega)
        obtain ⟨b4, o4, p4, e4, l4, q4, k4⟩ := (HV.out.below BW.out).form (by rw [← HM2.out]; omega)
        simp only [Value.slice.injEq] at e3 e4
        obtain ⟨rfl, e5, rfl⟩ := e3
        obtain ⟨rfl, e6, rfl⟩ := e4
        have c3 := k3 n x hx
        have c4 := k4 n y hy
        have HX := Lib.hid hx
        have HY := Lib.hid hy
        clear k3 k4 hx hy e5 e6 l3 q3 l4 q4
        by_cases hxy : x = y
        · subst hxy
          have hxx : (((x : Nat) : Int) != ((x : Nat) : Int)) = false := by simp
          go_wp2_with fail
          go_quiet (fail)
          go_wp2_with fail
          go_roundw
          case rel => exact ⟨n + 1, by omega, by go_num, by rw [List.take_add_one, List.take_add_one, HP.out, HX.out, HY.out], ⟨BW.out.os, BW.out.tape, BW.out.output, BW.out.size, BW.out.block⟩⟩
          case measure => simp [intOf]; omega
        · have hxx : (((x : Nat) : Int) != ((y : Nat) : Int)) = true := by simp; omega
          obtain rfl : bb = false := by
            rw [← HB.out]
            simp only [decide_eq_false_iff_not]
            rintro rfl
            have := HX.out.symm.trans HY.out
            simp at this
            exact hxy this
          go_wp2_with fail
          go_quiet (fail)
          go_wp2_with fail
          go_ret
          exact ⟨rfl, ⟨BW.out.os, BW.out.tape, BW.out.output, BW.out.size, BW.out.block⟩⟩
      · obtain rfl : n = m := by omega
        obtain rfl : bb = true := by
          have h := HP.out
          rw [List.take_of_length_le (by rw [← HM.out]; exact Nat.le_refl _), List.take_of_length_le (by rw [← HM2.out]; exact Nat.le_refl _)] at h
          rw [← HB.out]
          simp [h]
        go_wp2_with fail
        go_ret
        exact ⟨rfl, BW.out⟩
  · obtain rfl : bb = false := by
      rw [← HB.out]
      simp only [decide_eq_false_iff_not]
      rintro rfl
      exact hne (HM.out.trans HM2.out.symm)
    have h1 : (((m : Nat) : Int) != ((m2 : Nat) : Int)) = true := by simp; omega
    go_enter Try.func60, Try.ntmps60
    go_wp2_with fail
    go_ret
    exact ⟨rfl, Below.refl _ _⟩
end Go.Proofs.Ytecemlamoiepdaa
