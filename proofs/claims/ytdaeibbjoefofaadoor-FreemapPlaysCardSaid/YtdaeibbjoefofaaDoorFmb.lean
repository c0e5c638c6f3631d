/- A map is read. -/
import Derived.Test.YtdaeibbjoefofaaDoorFma
import Derived.DeepKeys
namespace Go.Proofs.YtdaeibbjoefofaaDoor
open Go.RowKit
set_option linter.unusedVariables false
set_option linter.unusedSimpArgs false

theorem key_arr : Tryd.prog.keyTypeAt 3 56 = true := by kernel_rfl
theorem c_u64 : Tryd.prog.cellsOf 55 = 1 := by kernel_rfl
theorem c_arr : Tryd.prog.cellsOf 56 = 16 := by kernel_rfl
theorem range16 : List.range 16 = [0, 1, 2, 3, 4, 5, 6, 7, 8, 9, 10, 11, 12, 13, 14, 15] := by decide
theorem lits_one {n : Int} (h : (Lit.int .u64 n).wf = true) : Tryd.prog.keyLits 2 55 [.int .u64 n] = some [.int .u64 n] := by
  unfold Program.keyLits
  rw [Tryd.underlying55]
  simp [h]
theorem lits_arr (f : Nat → Int) (hf : ∀ j, (Lit.int .u64 (f j)).wf = true) : Tryd.prog.keyLits 3 56 [.int .u64 (f 0), .int .u64 (f 1), .int .u64 (f 2), .int .u64 (f 3), .int .u64 (f 4), .int .u64 (f 5), .int .u64 (f 6), .int .u64 (f 7), .int .u64 (f 8), .int .u64 (f 9), .int .u64 (f 10), .int .u64 (f 11), .int .u64 (f 12), .int .u64 (f 13), .int .u64 (f 14), .int .u64 (f 15)] = some [.int .u64 (f 0), .int .u64 (f 1), .int .u64 (f 2), .int .u64 (f 3), .int .u64 (f 4), .int .u64 (f 5), .int .u64 (f 6), .int .u64 (f 7), .int .u64 (f 8), .int .u64 (f 9), .int .u64 (f 10), .int .u64 (f 11), .int .u64 (f 12), .int .u64 (f 13), .int .u64 (f 14), .int .u64 (f 15)] := by
  unfold Program.keyLits
  rw [Tryd.underlying56]
  simp only [c_arr, c_u64, range16, List.length_cons, List.length_nil]
  simp [lits_one (hf _)]
theorem wf_word (T : Nat → Bool) (j : Nat) : (Lit.int .u64 ((wT T j : Nat) : Int)).wf = true := by
  have h := wT_lt T j
  have m1 : IntKind.u64.min = 0 := rfl
  have m2 : IntKind.u64.max = 18446744073709551615 := rfl
  simp only [Lit.wf, Bool.and_eq_true, decide_eq_true_eq]
  omega
theorem formed_arr (f : Nat → Int) : Value.formed Tryd.prog 56 (.agg #[.int .u64 (f 0), .int .u64 (f 1), .int .u64 (f 2), .int .u64 (f 3), .int .u64 (f 4), .int .u64 (f 5), .int .u64 (f 6), .int .u64 (f 7), .int .u64 (f 8), .int .u64 (f 9), .int .u64 (f 10), .int .u64 (f 11), .int .u64 (f 12), .int .u64 (f 13), .int .u64 (f 14), .int .u64 (f 15)]) = true := by kernel_rfl
theorem arr_neq (T S : Nat → Bool) (W : World) : ∃ r : Bool, (binOp .neq 56 (wA T) (wA S)).run Tryd.prog W = .ok (.bool (!r)) W ∧ (r = true ↔ ∀ j, j < 16 → wT T j = wT S j) := by
  have h := run_equalIn_deep (P := Tryd.prog) 9997 3 56 key_arr W 3 3 (wA T) (wA S) _ _ (formed_arr fun j => (wT T j : Nat)) (formed_arr fun j => (wT S j : Nat)) (lits_arr (fun j => (wT T j : Nat)) (wf_word T)) (lits_arr (fun j => (wT S j : Nat)) (wf_word S))
  obtain ⟨r, hr, hiff⟩ := h
  refine ⟨r, ?_, ?_⟩
  · unfold wA
    rw [run_neq_struct]
    unfold wA at hr
    rw [hr]
    rfl
  · rw [hiff]
    constructor
    · intro h j hj
      simp only [List.cons.injEq, Lit.int.injEq, true_and, and_true] at h
      obtain ⟨h0, h1, h2, h3, h4, h5, h6, h7, h8, h9, h10, h11, h12, h13, h14, h15⟩ := h
      rcases (show j = 0 ∨ j = 1 ∨ j = 2 ∨ j = 3 ∨ j = 4 ∨ j = 5 ∨ j = 6 ∨ j = 7 ∨ j = 8 ∨ j = 9 ∨ j = 10 ∨ j = 11 ∨ j = 12 ∨ j = 13 ∨ j = 14 ∨ j = 15 by omega) with rfl | rfl | rfl | rfl | rfl | rfl | rfl | rfl | rfl | rfl | rfl | rfl | rfl | rfl | rfl | rfl <;> omega
    · intro h
      simp only [h 0 (by omega), h 1 (by omega), h 2 (by omega), h 3 (by omega), h 4 (by omega), h 5 (by omega), h 6 (by omega), h 7 (by omega), h 8 (by omega), h 9 (by omega), h 10 (by omega), h 11 (by omega), h 12 (by omega), h 13 (by omega), h 14 (by omega), h 15 (by omega)]

/-- The i-th bit of these bytes. -/
def bitS (l : List UInt8) (i : Nat) : Bool := (l.getD (i / 8) 0).toNat.testBit (i % 8)
/-- What k bytes give. -/
def partT (l : List UInt8) (k : Nat) : Nat → Bool := fun i => decide (i < k) && bitS l i
theorem bitS_out {l : List UInt8} {i : Nat} (h : 8 * l.length ≤ i) : bitS l i = false := by
  unfold bitS
  rw [List.getD_eq_getElem?_getD, List.getElem?_eq_none (by omega)]
  simp
theorem or_byte (l : List UInt8) (k : Nat) (hk : k < 128) : bits .or .u64 ((wT (partT l (8 * k)) (k * 8 / 64) : Nat) : Int) (IntKind.u64.wrap (((l.getD k 0).toNat : Int) * (2 : Int) ^ (k * 8 % 64))) = ((wT (partT l (8 * (k + 1))) (k * 8 / 64) : Nat) : Int) := by
  obtain ⟨v, hv⟩ : ∃ v, (l.getD k 0).toNat = v := ⟨_, rfl⟩
  have hvl : v < 256 := by rw [← hv]; exact (l.getD k 0).toNat_lt
  rw [hv]
  have e2 : ((v : Nat) : Int) * (2 : Int) ^ (k * 8 % 64) = ((v * 2 ^ (k * 8 % 64) : Nat) : Int) := by simp
  have hm : v * 2 ^ (k * 8 % 64) < 18446744073709551616 := by
    have h1 : 2 ^ (k * 8 % 64) ≤ 2 ^ 56 := Nat.pow_le_pow_right (by omega) (by omega)
    have h2 : v * 2 ^ (k * 8 % 64) ≤ 255 * 2 ^ 56 := Nat.mul_le_mul (by omega) h1
    have h3 : 255 * 2 ^ 56 < 18446744073709551616 := by decide
    omega
  rw [e2]
  obtain ⟨m, hmm⟩ : ∃ m : Nat, m = v * 2 ^ (k * 8 % 64) := ⟨_, rfl⟩
  rw [← hmm] at hm ⊢
  rw [wrap_u64_small _ (by omega) (by omega), bits_or_u64_nat _ _ (wT_lt _ _) hm]
  subst hmm
  refine congrArg Nat.cast (Nat.eq_of_testBit_eq ?_)
  intro i
  rw [wT_eq, wT_eq, Nat.testBit_or, mkW_test, mkW_test, Nat.testBit_mul_two_pow]
  unfold partT
  by_cases hi : i < 64
  · simp only [hi, decide_true, Bool.true_and]
    by_cases c1 : i < k * 8 % 64
    · have a1 : decide (64 * (k * 8 / 64) + i < 8 * k) = true := by simp; omega
      have a2 : decide (64 * (k * 8 / 64) + i < 8 * (k + 1)) = true := by simp; omega
      have a3 : decide (i ≥ k * 8 % 64) = false := by simp; omega
      rw [a1, a2, a3]
      simp
    · have a1 : decide (64 * (k * 8 / 64) + i < 8 * k) = false := by simp; omega
      have a3 : decide (i ≥ k * 8 % 64) = true := by simp; omega
      rw [a1, a3]
      by_cases c2 : i < k * 8 % 64 + 8
      · have a2 : decide (64 * (k * 8 / 64) + i < 8 * (k + 1)) = true := by simp; omega
        rw [a2]
        unfold bitS
        rw [show (64 * (k * 8 / 64) + i) / 8 = k by omega, show (64 * (k * 8 / 64) + i) % 8 = i - k * 8 % 64 by omega, hv]
        simp
      · have a2 : decide (64 * (k * 8 / 64) + i < 8 * (k + 1)) = false := by simp; omega
        have a4 : v.testBit (i - k * 8 % 64) = false := Nat.testBit_lt_two_pow (Nat.lt_of_lt_of_le (by omega : v < 2 ^ 8) (Nat.pow_le_pow_right (by omega) (by omega)))
        rw [a2, a4]
        simp
  · have a4 : v.testBit (i - k * 8 % 64) = false := Nat.testBit_lt_two_pow (Nat.lt_of_lt_of_le (by omega : v < 2 ^ 8) (Nat.pow_le_pow_right (by omega) (by omega)))
    simp [hi, a4]
theorem MapAt.ored {w : World} {b n : Nat} {l : List UInt8} {k : Nat} (h : MapAt w b (partT l (8 * k)) n) (hk : k < 128) :
    MapAt (w.setCell ⟨b, k * 8 / 64, none⟩ (.int .u64 (bits .or .u64 ((wT (partT l (8 * k)) (k * 8 / 64) : Nat) : Int) (IntKind.u64.wrap (((l.getD k 0).toNat : Int) * (2 : Int) ^ (k * 8 % 64)))))) b (partT l (8 * (k + 1))) n := by
  refine ⟨fun j hj => ?_, ?_, fun j hj => by rw [World.frozen?_setCell]; exact h.fz j hj⟩
  · by_cases e : j = k * 8 / 64
    · subst e
      rw [World.cell?_setCell_same (h := h.wd _ hj), or_byte l k hk]
    · rw [World.cell?_setCell_other (h := by simp <;> omega), h.wd j hj]
      refine congrArg some (congrArg (Value.int .u64) (congrArg Nat.cast ?_))
      rw [wT_eq, wT_eq]
      apply mkW_ext
      intro i hi
      unfold partT
      congr 1
      simp
      omega
  · rw [World.cell?_setCell_other (h := by simp <;> omega)]
    exact h.len
theorem part_snoc_use {l : List UInt8} {n k : Nat} (hk : k < n) (hb : bitS l k = true) : turnT (partT l k) n (k : Int) true = partT l (k + 1) := by
  funext j
  rw [turnT_at hk]
  unfold partT
  by_cases e : j = k
  · subst e
    simp [hb]
  · have : decide (j < k) = decide (j < k + 1) := by simp; omega
    simp [e, this]
theorem part_snoc_not {l : List UInt8} {k : Nat} (hb : bitS l k = false) : partT l k = partT l (k + 1) := by
  funext j
  unfold partT
  by_cases e : j = k
  · subst e
    simp [hb]
  · have : decide (j < k) = decide (j < k + 1) := by simp; omega
    rw [this]
theorem part_ok {l : List UInt8} {n k : Nat} (h1 : 1 ≤ n) (h2 : n ≤ 1024) (hk : k ≤ n) : FMOk (partT l k) n := ⟨h1, h2, fun i hi => by unfold partT; simp; omega⟩
/-- No bit behind the last thing. -/
def Clean (l : List UInt8) (n : Nat) : Prop := ∀ i, n ≤ i → bitS l i = false
theorem same_clean {l : List UInt8} {n : Nat} (h2 : n ≤ 1024) (hl : l.length = (n + 7) / 8) : (∀ j, j < 16 → wT (partT l n) j = wT (partT l (8 * l.length)) j) ↔ Clean l n := by
  constructor
  · intro h i hi
    by_cases hl2 : i < 8 * l.length
    · have := congrArg (fun x => x.testBit (i % 64)) (h (i / 64) (by omega))
      simp only [wT_eq, mkW_test] at this
      rw [show 64 * (i / 64) + i % 64 = i by omega] at this
      unfold partT at this
      have a1 : decide (i % 64 < 64) = true := by simp; omega
      have a2 : decide (i < n) = false := by simp; omega
      have a3 : decide (i < 8 * l.length) = true := by simp; omega
      rw [a1, a2, a3] at this
      simpa using this.symm
    · exact bitS_out (by omega)
  · intro h j hj
    rw [wT_eq, wT_eq]
    apply mkW_ext
    intro i hi
    unfold partT
    by_cases c : 64 * j + i < n
    · have a1 : decide (64 * j + i < n) = true := by simp; omega
      have a2 : decide (64 * j + i < 8 * l.length) = true := by simp; omega
      rw [a1, a2]
    · rw [h _ (by omega)]
      simp
theorem part_zero (l : List UInt8) : partT l 0 = fun _ => false := by
  funext j
  unfold partT
  simp
theorem arr_same {T S : Nat → Bool} (h : ∀ j, j < 16 → wT T j = wT S j) (W : World) : (binOp .neq 56 (.agg #[.int .u64 (wT T 0 : Nat), .int .u64 (wT T 1 : Nat), .int .u64 (wT T 2 : Nat), .int .u64 (wT T 3 : Nat), .int .u64 (wT T 4 : Nat), .int .u64 (wT T 5 : Nat), .int .u64 (wT T 6 : Nat), .int .u64 (wT T 7 : Nat), .int .u64 (wT T 8 : Nat), .int .u64 (wT T 9 : Nat), .int .u64 (wT T 10 : Nat), .int .u64 (wT T 11 : Nat), .int .u64 (wT T 12 : Nat), .int .u64 (wT T 13 : Nat), .int .u64 (wT T 14 : Nat), .int .u64 (wT T 15 : Nat)]) (.agg #[.int .u64 (wT S 0 : Nat), .int .u64 (wT S 1 : Nat), .int .u64 (wT S 2 : Nat), .int .u64 (wT S 3 : Nat), .int .u64 (wT S 4 : Nat), .int .u64 (wT S 5 : Nat), .int .u64 (wT S 6 : Nat), .int .u64 (wT S 7 : Nat), .int .u64 (wT S 8 : Nat), .int .u64 (wT S 9 : Nat), .int .u64 (wT S 10 : Nat), .int .u64 (wT S 11 : Nat), .int .u64 (wT S 12 : Nat), .int .u64 (wT S 13 : Nat), .int .u64 (wT S 14 : Nat), .int .u64 (wT S 15 : Nat)])).run Tryd.prog W = .ok (.bool false) W := by
  obtain ⟨r, hr, hi⟩ := arr_neq T S W
  rw [hi.2 h] at hr
  exact hr
theorem arr_diff {T S : Nat → Bool} (h : ¬ ∀ j, j < 16 → wT T j = wT S j) (W : World) : (binOp .neq 56 (.agg #[.int .u64 (wT T 0 : Nat), .int .u64 (wT T 1 : Nat), .int .u64 (wT T 2 : Nat), .int .u64 (wT T 3 : Nat), .int .u64 (wT T 4 : Nat), .int .u64 (wT T 5 : Nat), .int .u64 (wT T 6 : Nat), .int .u64 (wT T 7 : Nat), .int .u64 (wT T 8 : Nat), .int .u64 (wT T 9 : Nat), .int .u64 (wT T 10 : Nat), .int .u64 (wT T 11 : Nat), .int .u64 (wT T 12 : Nat), .int .u64 (wT T 13 : Nat), .int .u64 (wT T 14 : Nat), .int .u64 (wT T 15 : Nat)]) (.agg #[.int .u64 (wT S 0 : Nat), .int .u64 (wT S 1 : Nat), .int .u64 (wT S 2 : Nat), .int .u64 (wT S 3 : Nat), .int .u64 (wT S 4 : Nat), .int .u64 (wT S 5 : Nat), .int .u64 (wT S 6 : Nat), .int .u64 (wT S 7 : Nat), .int .u64 (wT S 8 : Nat), .int .u64 (wT S 9 : Nat), .int .u64 (wT S 10 : Nat), .int .u64 (wT S 11 : Nat), .int .u64 (wT S 12 : Nat), .int .u64 (wT S 13 : Nat), .int .u64 (wT S 14 : Nat), .int .u64 (wT S 15 : Nat)])).run Tryd.prog W = .ok (.bool true) W := by
  obtain ⟨r, hr, hi⟩ := arr_neq T S W
  have : r = false := by
    cases r with
    | false => rfl
    | true => exact absurd (hi.1 rfl) h
  rw [this] at hr
  exact hr
theorem part_bit {l : List UInt8} {n k : Nat} (hk : k < n) (hn : n ≤ 8 * l.length) : hasB (partT l (8 * l.length)) n (k : Int) = bitS l k := by
  unfold hasB partT
  have : decide (k < 8 * l.length) = true := by simp; omega
  rw [Int.toNat_natCast, this]
  simp [hk]
theorem byte_wrap {l : List UInt8} {k : Nat} {x : UInt8} (h : x.toNat = (l.getD k 0).toNat) : IntKind.u64.wrap (x.toNat : Int) = ((l.getD k 0).toNat : Int) := by
  have := x.toNat_lt
  rw [wrap_u64_small _ (by omega) (by omega), h]
end Go.Proofs.YtdaeibbjoefofaaDoor
