/- The contracts of obj's Make, Cons, Weak, New. -/
import Derived.Test.YtecemlamoiepdaaApp
namespace Go.Proofs.Ytecemlamoiepdaa
open Go.RowKit

def rawK (k : Nat) : Nat := if k = 2 ∨ k = 3 then 3 else 2

set_option maxHeartbeats 400000 in
theorem raw_any (K : Int) (w : World) (h : 0 ≤ K) :
    Calls Try.prog 71 #[.int .i64 K] w fun e w' => e = .returned (.int .i64 (rawK K.toNat : Nat)) ∧ w' = w := by
  obtain ⟨k, rfl⟩ := Int.eq_ofNat_of_zero_le h
  rw [Int.toNat_natCast]
  go_enter Try.func71, Try.ntmps71
  go_wp2
  all_goals
    go_ret
    refine ⟨ret_i ?_, rfl⟩
    unfold rawK
    split <;> simp_all <;> omega

theorem SlWords.below {w w' : World} {v : Value} {ws : List Nat} (h : SlWords w v ws) (hb : Below w.heap.size w w') : SlWords w' v ws := by
  rcases h with h | ⟨b, o, cap, rfl, h1, h2⟩
  · exact .inl h
  · exact .inr ⟨b, o, cap, rfl, Nat.lt_of_lt_of_le h1 hb.size, h2.of_block (hb.block b h1)⟩

def Hp.make (M : Hp) (k m : Nat) (ws : List Nat) : Option (Nat × Hp) := (M.putAt (rawK k) (headerOf k ws.length m :: ws)).map fun p => (p.1 * 8 + 3, p.2)

theorem mayN_raw (k : Nat) (n : Nat) (hn : n ≤ 62) : mayN (rawK k : Nat) ((n + 1 : Nat) : Int) := by
  unfold mayN rawK
  split <;> omega

theorem header_lt {k n m : Nat} (h2 : k ≤ 13) (h3 : n ≤ 62) (h4 : m < 281474976710656) : headerOf k n m < 18446744073709551616 := by unfold headerOf; omega

theorem header_okI (K N Mo : Int) (k n m : Nat) (hK : K = k) (hN : N = n) (hM : Mo = m) (h1 : 1 ≤ k) (h2 : k ≤ 13) (h3 : n ≤ 62) (h4 : m < 281474976710656) (w : World) :
    Calls Try.prog 70 #[.int .i64 K, .int .i64 N, .int .u64 Mo] w fun e w' => e = .returned (.tuple #[.int .u64 (headerOf k n m : Nat), .int .i64 0]) ∧ w' = w := by
  subst hK hN hM
  exact header_ok k n m h1 h2 h3 h4 w

set_option maxHeartbeats 1000000 in
theorem make_ok {hb : HB} {M M' : Hp} {w : World} (r : Rep hb M w) (K Mo : Int) (k m : Nat) (hK : K = k) (hMo : Mo = m) (h1 : 1 ≤ k) (h2 : k ≤ 13) (h4 : m < 281474976710656) (v : Value) (ws : List Nat) (hv : SlWords w v ws) (hl : ws.length ≤ 62)
    (hx : ∀ x ∈ ws, x < 18446744073709551616) {x : Nat} (h : M.make k m ws = some (x, M')) :
    Calls Try.prog 33 #[.pointer (some ⟨hb.h, 0, none⟩), .int .i64 K, .int .u64 Mo, v] w fun e w' =>
      e = .returned (.tuple #[.int .u64 x, .int .i64 0]) ∧ Rep hb M' w' ∧ Moves hb w w' := by
  unfold Hp.make at h
  cases hp : M.putAt (rawK k) (headerOf k ws.length m :: ws) with
  | none => rw [hp] at h; cases h
  | some p =>
    rw [hp] at h
    cases h
    subst hK hMo
    have hlt := r.lt
    have hA := header_okI (k : Int) 0 (m : Int) k 0 m rfl rfl rfl h1 h2 (by omega) h4 w
    have hB := header_okI (k : Int) (ws.length : Int) (m : Int) k ws.length m rfl rfl rfl h1 h2 hl h4 w
    have hR := raw_any (k : Int) w (by omega)
    rw [Int.toNat_natCast] at hR
    have hh := header_lt (k := k) (n := ws.length) (m := m) h2 hl h4
    obtain ⟨a, cap, hva⟩ : ∃ a cap, v = .slice a ws.length cap := by
      rcases hv with ⟨rfl, rfl⟩ | ⟨b, o, cap, rfl, _⟩
      · exact ⟨none, 0, rfl⟩
      · exact ⟨_, _, rfl⟩
    subst hva
    have HP := Lib.hid hp
    have HL := Lib.hid hlt
    have HV := Lib.hid hv
    have R := Lib.hid r
    clear hp r hv hlt
    go_enter Try.func33, Try.ntmps33
    go_wp2_with fail
    refine hA.mono ?_
    rintro e w2 ⟨rfl, rfl⟩
    go_wp2_with fail
    refine hB.mono ?_
    rintro e w2 ⟨rfl, rfl⟩
    go_wp2_with fail
    refine hR.mono ?_
    rintro e w2 ⟨rfl, rfl⟩
    clear hA hB hR
    have hcell : SlCells (w2.alloc (.cells #[wv (headerOf k ws.length m)] 29)) (.slice a ws.length cap) ws.length (ws.map wv) := (HV.out.below ((Below.refl _ _).alloc (Nat.le_refl _) _)).cells
    go_wp2_with (at_builtin; refine wpList_app E_word rfl _ _ rfl (.slice (some ⟨w2.heap.size, 0, none⟩) 1 1) 1 [wv (headerOf k ws.length m)] rfl (OwnW.one w2 (headerOf k ws.length m)) _ ws.length (ws.map wv) rfl hcell (by simp) (by simp [wv, Value.oneCell']) (by unfold maxLen; omega) (by omega) ?_; intro v' w3 hown hgrow hat)
    have ho : OwnW w3 v' (headerOf k ws.length m :: ws) := by unfold OwnW; simpa [Nat.add_comm] using hown
    have hlen3 : (headerOf k ws.length m :: ws).length = ws.length + 1 := rfl
    obtain ⟨g, cap', rfl, hob, hg, hwa⟩ := ho.form (by simp)
    have hgb : ¬ hb.has g := by
      intro hc
      have := HL.out g hc
      rw [hob] at hat
      rcases hat with h | h
      · simp only [Value.ownBlock, Option.some.injEq] at h; omega
      · simp at h; omega
    have r3 : Rep hb M w3 := (R.out.alloc _).grown hgrow (fun q hq hc => by
      have := HL.out q hc
      simp only [Value.ownBlock, Option.some.injEq] at hq; omega)
    have v3 : Moves hb w2 w3 := ((Moves.refl hb w2).alloc _).grown hgrow (fun q hq => by
      simp only [Value.ownBlock, Option.some.injEq] at hq; omega)
    have hP := put_ok r3 (rawK k : Nat) 3 (headerOf k ws.length m :: ws) g 0 cap' (by rw [hlen3]; exact mayN_raw k _ hl) (by omega) (by omega) hwa hg hgb (by
      intro y hy
      rcases List.mem_cons.1 hy with h | h
      · rw [h]; exact hh
      · exact hx y h) (by rw [Int.toNat_natCast]; exact HP.out)
    have V3 := Lib.hid v3
    clear hwa ho hown hgrow hat r3 v3 hcell hob
    refine hP.mono ?_
    rintro e w4 ⟨rfl, r4, v4⟩
    have R4 := Lib.hid r4
    have V4 := Lib.hid v4
    clear r4 v4
    go_wp2_with fail
    go_ret2
    exact ⟨by simp, R4.out, V3.out.trans V4.out⟩
end Go.Proofs.Ytecemlamoiepdaa
