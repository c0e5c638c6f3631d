/- A map: the lowest thing that is free. -/
import Derived.Test.YtdaeibbjoefofaaDoorFm4
namespace Go.Proofs.YtdaeibbjoefofaaDoor
open Go.RowKit
set_option linter.unusedVariables false
set_option linter.unusedSimpArgs false

/-- The least thing that is free is i; or none is below n. -/
def Low (T : Nat → Bool) (i : Nat) : Prop := T i = false ∧ ∀ j, j < i → T j = true
def Full (T : Nat → Bool) (n : Nat) : Prop := ∀ j, j < n → T j = true
theorem xor_max (x : Nat) (hx : x < 18446744073709551616) : bits .xor .u64 IntKind.u64.max (x : Int) = ((18446744073709551615 - x : Nat) : Int) := by
  rw [show IntKind.u64.max = ((18446744073709551615 : Nat) : Int) from rfl, bits_xor_u64_nat _ _ (by omega) hx]
  refine congrArg Nat.cast (Nat.eq_of_testBit_eq ?_)
  intro i
  rw [Nat.testBit_xor, show (18446744073709551615 : Nat) = 2 ^ 64 - 1 by decide, Nat.testBit_two_pow_sub_one, show 2 ^ 64 - 1 - x = 2 ^ 64 - (x + 1) by omega, Nat.testBit_two_pow_sub_succ (by omega)]
  by_cases h : i < 64
  · simp [h]
  · rw [Nat.testBit_lt_two_pow (Nat.lt_of_lt_of_le (by omega : x < 2 ^ 64) (Nat.pow_le_pow_right (by omega) (by omega)))]
    simp [h]
theorem ctz64_zero : ctz64 0 = 64 := by rw [ctz64_eq]; rfl
theorem turn_low {T : Nat → Bool} {n i : Nat} (hi : i < n) (hf : T i = false) : turnC T n (i : Int) true 12 = 0 := by
  have : inB n (i : Int) = true := by unfold inB; simp; omega
  unfold turnC
  rw [if_pos this, Int.toNat_natCast, hf]
  rfl
/-- Where the lowest bit of the inverse of a word is. -/
theorem ctz_inv (T : Nat → Bool) (j : Nat) (h : 18446744073709551615 - wT T j ≠ 0) : ctz64 (18446744073709551615 - wT T j) < 64 ∧ T (64 * j + ctz64 (18446744073709551615 - wT T j)) = false ∧ ∀ i, i < ctz64 (18446744073709551615 - wT T j) → T (64 * j + i) = true := by
  have hl := wT_lt T j
  rw [ctz64_eq]
  obtain ⟨m, hm, hlt⟩ := Lib.ctzFrom_spec 64 (18446744073709551615 - wT T j) (by omega) (by omega)
  have e : Lib.ctz 64 (18446744073709551615 - wT T j) = Lib.ctzFrom 64 (18446744073709551615 - wT T j) := by unfold Lib.ctz; rw [if_neg h]
  rw [e]
  generalize Lib.ctzFrom 64 (18446744073709551615 - wT T j) = z at *
  have tb : ∀ i, i < 64 → (18446744073709551615 - wT T j).testBit i = !T (64 * j + i) := by
    intro i hi
    rw [show 18446744073709551615 - wT T j = 2 ^ 64 - (wT T j + 1) by omega, Nat.testBit_two_pow_sub_succ (by omega), wT_eq, mkW_test]
    simp [hi]
  refine ⟨hlt, ?_, fun i hi => ?_⟩
  · have := tb z hlt
    rw [hm, Nat.testBit_eq_decide_div_mod_eq, Nat.mul_div_cancel_left _ (Nat.two_pow_pos z)] at this
    rw [show (2 * m + 1) % 2 = 1 by omega] at this
    simpa using this.symm
  · have := tb i (by omega)
    rw [hm, Nat.testBit_eq_decide_div_mod_eq] at this
    have e2 : 2 ^ z = 2 ^ i * (2 * 2 ^ (z - i - 1)) := by
      have e4 : z = i + (1 + (z - i - 1)) := by omega
      rw [show 2 ^ i * (2 * 2 ^ (z - i - 1)) = 2 ^ (i + (1 + (z - i - 1))) by rw [Nat.pow_add, Nat.pow_add], ← e4]
    rw [e2, Nat.mul_assoc, Nat.mul_div_cancel_left _ (Nat.two_pow_pos i), Nat.mul_assoc] at this
    have e3 : 2 * (2 ^ (z - i - 1) * (2 * m + 1)) % 2 = 0 := by omega
    rw [e3] at this
    simpa using this.symm
theorem wT_all {T : Nat → Bool} {j : Nat} (h : 18446744073709551615 - wT T j = 0) : ∀ i, i < 64 → T (64 * j + i) = true := by
  intro i hi
  have hl := wT_lt T j
  have e : wT T j = 2 ^ 64 - 1 := by omega
  have : (wT T j).testBit i = (2 ^ 64 - 1).testBit i := by rw [e]
  rw [wT_eq, mkW_test, Nat.testBit_two_pow_sub_one] at this
  simpa [hi] using this
theorem low_at {T : Nat → Bool} {n k z : Nat} (hb : ∀ j, j < 64 * k → j < n → T j = true) (hf : T (64 * k + z) = false) (hz : ∀ i, i < z → T (64 * k + i) = true) (hn : 64 * k + z < n) : Low T (64 * k + z) := by
  refine ⟨hf, fun j hj => ?_⟩
  by_cases h : j < 64 * k
  · exact hb j h (by omega)
  · have := hz (j - 64 * k) (by omega)
    rwa [show 64 * k + (j - 64 * k) = j by omega] at this
set_option maxRecDepth 100000 in
set_option maxHeartbeats 1000000 in
theorem take_any (b n : Nat) (T : Nat → Bool) (w : World) (hM : MapAt w b T n) (hF : FMOk T n) (hT : TabD w) : Calls Tryd.prog 11 #[.pointer (some ⟨b, 0, none⟩)] w fun e w' =>
    (∃ i : Nat, Low T i ∧ i < n ∧ e = .returned (.tuple #[.int .i64 i, .int .i64 0]) ∧ MapAt w' b (turnT T n i true) n ∧ w.grownBy w' (some b)) ∨ (Full T n ∧ e = .returned (.tuple #[.int .i64 (-1), .int .i64 11]) ∧ w = w') := by
  have c0 := hM.wd 0 (by omega)
  have c1 := hM.wd 1 (by omega)
  have c2 := hM.wd 2 (by omega)
  have c3 := hM.wd 3 (by omega)
  have c4 := hM.wd 4 (by omega)
  have c5 := hM.wd 5 (by omega)
  have c6 := hM.wd 6 (by omega)
  have c7 := hM.wd 7 (by omega)
  have c8 := hM.wd 8 (by omega)
  have c9 := hM.wd 9 (by omega)
  have c10 := hM.wd 10 (by omega)
  have c11 := hM.wd 11 (by omega)
  have c12 := hM.wd 12 (by omega)
  have c13 := hM.wd 13 (by omega)
  have c14 := hM.wd 14 (by omega)
  have c15 := hM.wd 15 (by omega)
  have c16 := hM.len
  have hn := hF.hi
  go_enter Tryd.func11, Tryd.ntmps11
  go_wp2_with fail
  clear c0 c1 c2 c3 c4 c5 c6 c7 c8 c9 c10 c11 c12 c13 c14 c15
  rw [wA_eq]
  go_loop [4, 5, 6, 13] (fun _ _ _ i => ∃ k : Nat, k ≤ 16 ∧ i = .int .i64 k ∧ Hid (∀ j, j < 64 * k → j < n → T j = true)) (fun _ _ _ i => 16 - (intOf i).toNat)
  case atStart => exact ⟨0, by omega, rfl, (fun j hj _ => absurd hj (by omega))⟩
  case round =>
    obtain ⟨k, hk, rfl, HB⟩ := hrel
    by_cases hlt : k < 16
    · have hix := fun W => widx T k hlt W
      have hx := xor_max (wT T k) (wT_lt T k)
      obtain ⟨v, hv⟩ : ∃ v, 18446744073709551615 - wT T k = v := ⟨_, rfl⟩
      rw [hv] at hx
      have hx2 : bits .xor .u64 18446744073709551615 ((wT T k : Nat) : Int) = (v : Int) := hx
      have HVL : Hid (v < 18446744073709551616) := by show v < 18446744073709551616; omega
      have HV := Lib.hid hv
      clear hv
      obtain ⟨z, hz⟩ : ∃ z, ctz64 v = z := ⟨_, rfl⟩
      have HZ := Lib.hid hz
      clear hz
      by_cases h0 : v = 0
      · have e0 : ((v : Int) != 0) = false := by simp [h0]
        have hzl : z ≤ 64 := by have := HZ.out; rw [h0, ctz64_zero] at this; exact Nat.le_of_eq this.symm
        have HA : Hid (∀ j, j < 64 * (k + 1) → j < n → T j = true) := by
          intro j hj hjn
          by_cases hjk : j < 64 * k
          · exact HB.out j hjk hjn
          · have := wT_all (HV.out.trans h0) (j - 64 * k) (by omega)
            rwa [show 64 * k + (j - 64 * k) = j by omega] at this
        clear h0
        go_wp2_with fail
        have q := tz_any v HVL.out w hT
        rw [HZ.out] at q
        refine q.mono ?_
        rintro e w' ⟨rfl, rfl⟩
        clear q
        go_wp2_with fail
        go_round
        case rel => exact ⟨k + 1, by omega, by go_num, HA⟩
        case measure => simp [intOf]; omega
      · have e0 : ((v : Int) != 0) = true := by simp [h0]
        obtain ⟨z1, z2, z3⟩ := ctz_inv T k (by rw [HV.out]; exact h0)
        rw [HV.out, HZ.out] at z1 z2 z3
        have Z2 := Lib.hid z2
        have Z3 := Lib.hid z3
        clear h0 z2 z3
        by_cases hin : 64 * k + z < n
        · have HLow : Hid (Low T (64 * k + z)) := low_at HB.out Z2.out Z3.out hin
          have HC := Lib.hid (turn_low hin Z2.out)
          have HCA : Hid ((k : Int) * 64 + (z : Int) = ((64 * k + z : Nat) : Int)) := by show (k : Int) * 64 + (z : Int) = ((64 * k + z : Nat) : Int); omega
          go_wp2_with fail
          have q := tz_any v HVL.out w hT
          rw [HZ.out] at q
          refine q.mono ?_
          rintro e w' ⟨rfl, rfl⟩
          clear q
          go_wp2_with fail
          rw [HCA.out]
          have q := use_any b n T ((64 * k + z : Nat) : Int) w hM hF
          rw [HC.out] at q
          refine q.mono ?_
          rintro e w' ⟨rfl, h2, h3⟩
          clear q
          go_wp2_with fail
          go_ret2
          exact .inl ⟨64 * k + z, HLow.out, hin, rfl, h2, h3⟩
        · have HA : Hid (∀ j, j < 64 * (k + 1) → j < n → T j = true) := by
            intro j hj hjn
            by_cases hjk : j < 64 * k
            · exact HB.out j hjk hjn
            · have := Z3.out (j - 64 * k) (by omega)
              rwa [show 64 * k + (j - 64 * k) = j by omega] at this
          go_wp2_with fail
          have q := tz_any v HVL.out w hT
          rw [HZ.out] at q
          refine q.mono ?_
          rintro e w' ⟨rfl, rfl⟩
          clear q
          go_wp2_with fail
          go_round
          case rel => exact ⟨k + 1, by omega, by go_num, HA⟩
          case measure => simp [intOf]; omega
    · obtain rfl : k = 16 := by omega
      have HA : Hid (Full T n) := fun j hj => HB.out j (by omega) hj
      go_wp2_with fail
      go_ret2
      exact .inr ⟨HA.out, rfl, rfl⟩
theorem take_nil (w : World) : Calls Tryd.prog 11 #[.pointer none] w fun e w' => e = .returned (.tuple #[.int .i64 (-1), .int .i64 1]) ∧ w = w' := by
  go_enter Tryd.func11, Tryd.ntmps11
  go_wp2_with fail
  go_ret2
  exact ⟨rfl, rfl⟩
end Go.Proofs.YtdaeibbjoefofaaDoor
