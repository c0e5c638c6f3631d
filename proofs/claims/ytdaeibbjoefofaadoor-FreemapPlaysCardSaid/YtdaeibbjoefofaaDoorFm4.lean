/- A map: how many are free; the lowest one. -/
import Derived.Test.YtdaeibbjoefofaaDoorFm3
namespace Go.Proofs.YtdaeibbjoefofaaDoor
open Go.RowKit
set_option linter.unusedVariables false
set_option linter.unusedSimpArgs false

theorem cnt_le : ∀ (k : Nat) (T : Nat → Bool), cnt T k ≤ k
  | 0, _ => Nat.le_refl _
  | k + 1, T => by
    have := cnt_le k (fun i => T (i + 1))
    have := toNat_le1 (T 0)
    rw [cnt]
    omega
theorem cnt_add : ∀ (a b : Nat) (T : Nat → Bool), cnt T (a + b) = cnt T a + cnt (fun i => T (a + i)) b
  | 0, b, T => by simp [cnt]
  | a + 1, b, T => by
    rw [show a + 1 + b = (a + b) + 1 by omega, cnt, cnt, cnt_add a b]
    have : (fun i => T (a + i + 1)) = (fun i => T (a + 1 + i)) := by funext i; congr 1; omega
    rw [this]
    omega
theorem cnt_snoc (a : Nat) (T : Nat → Bool) : cnt T (a + 1) = cnt T a + (T a).toNat := by
  rw [cnt_add]
  simp [cnt]
theorem cnt_ext {k : Nat} : ∀ {T S : Nat → Bool}, (∀ i, i < k → T i = S i) → cnt T k = cnt S k := by
  induction k with
  | zero => intros; rfl
  | succ k ih =>
    intro T S h
    rw [cnt, cnt, h 0 (by omega), ih fun i hi => h (i + 1) (by omega)]
theorem cnt_none (k : Nat) : cnt (fun _ => false) k = 0 := by
  induction k with
  | zero => rfl
  | succ k ih => rw [cnt_snoc, ih]; rfl
theorem cn_ex : ∃ f : (Nat → Bool) → Nat → Nat, ∀ T k, f T k = cnt T k := ⟨_, fun _ _ => rfl⟩
/-- How many of the first k are so; not to be reckoned. -/
noncomputable def cn : (Nat → Bool) → Nat → Nat := Classical.choose cn_ex
theorem cn_eq (T : Nat → Bool) (k : Nat) : cn T k = cnt T k := Classical.choose_spec cn_ex T k
theorem cn_le (k : Nat) (T : Nat → Bool) : cn T k ≤ k := by rw [cn_eq]; exact cnt_le k T
theorem FMOk.cntEq {T : Nat → Bool} {n : Nat} (h : FMOk T n) : cn T 1024 = cn T n := by
  rw [cn_eq, cn_eq]
  have := h.hi
  have e : cnt (fun i => T (n + i)) (1024 - n) = cnt (fun _ => false) (1024 - n) := cnt_ext fun i _ => h.out _ (by omega)
  rw [show 1024 = n + (1024 - n) by omega, cnt_add, e, cnt_none]
  omega
theorem pop_wT (T : Nat → Bool) (k : Nat) : cn T (64 * k) + pop64 (wT T k) = cn T (64 * (k + 1)) := by
  rw [cn_eq, cn_eq, show 64 * (k + 1) = 64 * k + 64 by omega, cnt_add, pop64_eq, wT_eq, mkW_pop]
/-- How many things are free. -/
noncomputable def leftN (T : Nat → Bool) (n : Nat) : Int := (n : Int) - (cn T n : Nat)
/-- The array of a map's words. -/
noncomputable def wA (T : Nat → Bool) : Value := .agg #[.int .u64 (wT T 0 : Nat), .int .u64 (wT T 1 : Nat), .int .u64 (wT T 2 : Nat), .int .u64 (wT T 3 : Nat), .int .u64 (wT T 4 : Nat), .int .u64 (wT T 5 : Nat), .int .u64 (wT T 6 : Nat), .int .u64 (wT T 7 : Nat), .int .u64 (wT T 8 : Nat), .int .u64 (wT T 9 : Nat), .int .u64 (wT T 10 : Nat), .int .u64 (wT T 11 : Nat), .int .u64 (wT T 12 : Nat), .int .u64 (wT T 13 : Nat), .int .u64 (wT T 14 : Nat), .int .u64 (wT T 15 : Nat)]
theorem wA_eq (T : Nat → Bool) : Value.agg #[.int .u64 (wT T 0 : Nat), .int .u64 (wT T 1 : Nat), .int .u64 (wT T 2 : Nat), .int .u64 (wT T 3 : Nat), .int .u64 (wT T 4 : Nat), .int .u64 (wT T 5 : Nat), .int .u64 (wT T 6 : Nat), .int .u64 (wT T 7 : Nat), .int .u64 (wT T 8 : Nat), .int .u64 (wT T 9 : Nat), .int .u64 (wT T 10 : Nat), .int .u64 (wT T 11 : Nat), .int .u64 (wT T 12 : Nat), .int .u64 (wT T 13 : Nat), .int .u64 (wT T 14 : Nat), .int .u64 (wT T 15 : Nat)] = wA T := rfl
theorem widx (T : Nat → Bool) (k : Nat) (hk : k < 16) (W : World) : (Instr.index 56 (wA T) (.int .i64 (k : Int))).run Tryd.prog W = .ok (.int .u64 (wT T k : Nat)) W := by
  unfold wA
  have hk' : k = 0 ∨ k = 1 ∨ k = 2 ∨ k = 3 ∨ k = 4 ∨ k = 5 ∨ k = 6 ∨ k = 7 ∨ k = 8 ∨ k = 9 ∨ k = 10 ∨ k = 11 ∨ k = 12 ∨ k = 13 ∨ k = 14 ∨ k = 15 := by omega
  rcases hk' with rfl | rfl | rfl | rfl | rfl | rfl | rfl | rfl | rfl | rfl | rfl | rfl | rfl | rfl | rfl | rfl
  all_goals (refine Eq.symm ?_; kernel_rfl)
set_option maxRecDepth 100000 in
set_option maxHeartbeats 1000000 in
theorem left_any (b n : Nat) (T : Nat → Bool) (w : World) (h : MapAt w b T n) (hF : FMOk T n) : Calls Tryd.prog 12 #[.pointer (some ⟨b, 0, none⟩)] w fun e w' => e = .returned (.int .i64 (leftN T n)) ∧ w = w' := by
  have c0 := h.wd 0 (by omega)
  have c1 := h.wd 1 (by omega)
  have c2 := h.wd 2 (by omega)
  have c3 := h.wd 3 (by omega)
  have c4 := h.wd 4 (by omega)
  have c5 := h.wd 5 (by omega)
  have c6 := h.wd 6 (by omega)
  have c7 := h.wd 7 (by omega)
  have c8 := h.wd 8 (by omega)
  have c9 := h.wd 9 (by omega)
  have c10 := h.wd 10 (by omega)
  have c11 := h.wd 11 (by omega)
  have c12 := h.wd 12 (by omega)
  have c13 := h.wd 13 (by omega)
  have c14 := h.wd 14 (by omega)
  have c15 := h.wd 15 (by omega)
  have c16 := h.len
  have hn := hF.hi
  go_enter Tryd.func12, Tryd.ntmps12
  go_wp2_with (go_at_call 27; refine (len_any b n T _ h).mono ?_; rintro e w' ⟨rfl, rfl⟩)
  clear c0 c1 c2 c3 c4 c5 c6 c7 c8 c9 c10 c11 c12 c13 c14 c15
  rw [wA_eq]
  go_loop [3, 5, 14] (fun r _ i => ∃ k : Nat, k ≤ 16 ∧ i = .int .i64 k ∧ r = .int .i64 ((n : Int) - (cn T (64 * k) : Nat))) (fun _ _ i => 16 - (intOf i).toNat)
  case atStart => exact ⟨0, by omega, rfl, by rw [cn_eq]; simp [cnt]⟩
  case round =>
    obtain ⟨k, hk, rfl, rfl⟩ := hrel
    have hc := cn_le (64 * k) T
    by_cases hlt : k < 16
    · have hix := fun W => widx T k hlt W
      have hp := pop_wT T k
      have HP := Lib.hid hp
      have hc2 := cn_le (64 * (k + 1)) T
      have hpb : (pop64 (wT T k) : Int) ≤ 1024 := by omega
      clear hp
      go_wp2_with (go_at_call 31; refine (ones_any _ (wT_lt T k) _).mono ?_; rintro e w' ⟨rfl, rfl⟩)
      go_round
      case rel => exact ⟨k + 1, by omega, by go_num, by have := HP.out; congr 1; omega⟩
      case measure => simp [intOf]; omega
    · obtain rfl : k = 16 := by omega
      have he := hF.cntEq
      have HE := Lib.hid he
      clear he
      go_wp2_with fail
      go_ret
      exact ⟨by unfold leftN; rw [← HE.out]; rfl, rfl⟩
theorem left_nil (w : World) : Calls Tryd.prog 12 #[.pointer none] w fun e w' => e = .returned (.int .i64 0) ∧ w = w' := by
  go_enter Tryd.func12, Tryd.ntmps12
  go_wp2_with (go_at_call 27; refine (len_nil _).mono ?_; rintro e w' ⟨rfl, rfl⟩)
  go_ret
  exact ⟨rfl, rfl⟩
end Go.Proofs.YtdaeibbjoefofaaDoor
