/- A map: whether a thing is used; used, given. -/
import Derived.Test.YtdaeibbjoefofaaDoorFm2
import Derived.StillTailTactics
namespace Go.Proofs.YtdaeibbjoefofaaDoor
open Go.RowKit
set_option linter.unusedVariables false
set_option linter.unusedSimpArgs false

theorem bit_at (T : Nat → Bool) (k : Nat) (hk : k < 1024) : (bits .and .u64 ((wT T (k / 64) : Nat) / (2 : Int) ^ (k % 64)) 1 == 1) = T k := by
  have hl := wT_lt T (k / 64)
  have e : ((wT T (k / 64) : Nat) : Int) / (2 : Int) ^ (k % 64) = ((wT T (k / 64) / 2 ^ (k % 64) : Nat) : Int) := by simp
  have hd : wT T (k / 64) / 2 ^ (k % 64) < 18446744073709551616 := Nat.lt_of_le_of_lt (Nat.div_le_self _ _) hl
  rw [e, show (1 : Int) = ((1 : Nat) : Int) from rfl, and_u64 _ _ hd (by omega), nat_mask1]
  have q := mkW_test 64 (fun i => T (64 * (k / 64) + i)) (k % 64)
  rw [show 64 * (k / 64) + k % 64 = k by omega, Nat.testBit_eq_decide_div_mod_eq] at q
  rw [show decide (k % 64 < 64) = true by simp; omega, Bool.true_and] at q
  rw [← q]
  rw [wT_eq]
  generalize mkW (fun i => T (64 * (k / 64) + i)) 64 / 2 ^ (k % 64) % 2 = z
  rw [Bool.eq_iff_iff]
  simp
  omega
def hasB (T : Nat → Bool) (n : Nat) (i : Int) : Bool := decide (0 ≤ i) && decide (i < n) && T i.toNat
set_option maxRecDepth 100000 in
set_option maxHeartbeats 4000000 in
theorem has_any0 (b n : Nat) (T : Nat → Bool) (i : Int) (w : World) (h : MapAt w b T n) (hn1 : 1 ≤ n) (hn2 : n ≤ 1024) : Calls Tryd.prog 21 #[.pointer (some ⟨b, 0, none⟩), .int .i64 i] w fun e w' => e = .returned (.bool (hasB T n i)) ∧ w = w' := by
  have c := h.len
  by_cases h0 : 0 ≤ i
  · by_cases h1 : i < n
    · obtain ⟨k, rfl⟩ : ∃ k : Nat, i = (k : Int) := ⟨i.toNat, by omega⟩
      have hk : k < 1024 := by omega
      have hw := h.wd (k / 64) (by omega)
      have hlt := wT_lt T (k / 64)
      go_enter Tryd.func21, Tryd.ntmps21
      go_wp2_with fail
      go_ret
      exact ⟨by rw [bit_at _ _ hk]; unfold hasB; simp [h1], rfl⟩
    · go_enter Tryd.func21, Tryd.ntmps21
      go_wp2_with fail
      go_ret
      exact ⟨by unfold hasB; simp; omega, rfl⟩
  · go_enter Tryd.func21, Tryd.ntmps21
    go_wp2_with fail
    go_ret
    exact ⟨by unfold hasB; simp; omega, rfl⟩
theorem has_any (b n : Nat) (T : Nat → Bool) (i : Int) (w : World) (h : MapAt w b T n) (hF : FMOk T n) : Calls Tryd.prog 21 #[.pointer (some ⟨b, 0, none⟩), .int .i64 i] w fun e w' => e = .returned (.bool (hasB T n i)) ∧ w = w' := has_any0 b n T i w h hF.lo hF.hi

def inB (n : Nat) (i : Int) : Bool := decide (0 ≤ i) && decide (i < n)
/-- What is used behind a thing is made so. -/
def turnT (T : Nat → Bool) (n : Nat) (i : Int) (u : Bool) : Nat → Bool := if inB n i then fun x => if x = i.toNat then u else T x else T
def turnC (T : Nat → Bool) (n : Nat) (i : Int) (u : Bool) (was : Int) : Int := if inB n i then (if T i.toNat == u then was else 0) else 2
theorem grown_refl (w : World) (row : Option Nat) : w.grownBy w row := ⟨rfl, rfl, rfl, Nat.le_refl _, fun _ _ _ => rfl⟩
theorem FMOk.turn {T : Nat → Bool} {n : Nat} (h : FMOk T n) (i : Int) (u : Bool) : FMOk (turnT T n i u) n := by
  refine ⟨h.lo, h.hi, fun j hj => ?_⟩
  unfold turnT
  split
  · rename_i hi
    unfold inB at hi
    simp at hi
    have : j ≠ i.toNat := by omega
    simp [this, h.out j hj]
  · exact h.out j hj
theorem turn_same {T : Nat → Bool} {n k : Nat} {v : Bool} (hI : inB n (k : Int) = true) (hv : T k = v) : turnT T n (k : Int) v = T := by
  unfold turnT
  rw [if_pos hI]
  funext x
  by_cases e : x = k
  · simp [e, hv]
  · simp [e]
theorem MapAt.drew {w : World} {b n : Nat} {T : Nat → Bool} (h : MapAt w b T n) : MapAt w.drew b T n := ⟨h.wd, h.len, h.fz⟩
theorem wT_turn {T : Nat → Bool} {n k : Nat} {v : Bool} (hk : k < 1024) (hI : inB n (k : Int) = true) (hv : T k = v) : bits .xor .u64 ((wT T (k / 64) : Nat) : Int) (IntKind.u64.wrap ((2 : Int) ^ (k % 64))) = ((wT (turnT T n (k : Int) (!v)) (k / 64) : Nat) : Int) := by
  have hr : 2 ^ (k % 64) < 2 ^ 64 := Nat.pow_lt_pow_right (by omega) (by omega)
  have e2 : (2 : Int) ^ (k % 64) = ((2 ^ (k % 64) : Nat) : Int) := by simp
  obtain ⟨m, hm⟩ : ∃ m : Nat, m = 2 ^ (k % 64) := ⟨_, rfl⟩
  rw [e2, ← hm] 
  rw [← hm] at hr
  rw [wrap_u64_small _ (by omega) (by omega), bits_xor_u64_nat _ _ (wT_lt T _) (by omega)]
  refine congrArg Nat.cast (Nat.eq_of_testBit_eq ?_)
  subst hm
  intro i
  rw [wT_eq, wT_eq, Nat.testBit_xor, mkW_test, mkW_test, Nat.testBit_two_pow]
  unfold turnT
  rw [if_pos hI]
  by_cases hi : i < 64
  · by_cases e : k % 64 = i
    · have : 64 * (k / 64) + i = k := by omega
      simp [hi, e, this, hv]
    · have : 64 * (k / 64) + i ≠ k := by omega
      simp [hi, e, this]
  · have : k % 64 ≠ i := by omega
    simp [hi, this]
theorem wT_other {T : Nat → Bool} {n k j : Nat} {u : Bool} (hj : j ≠ k / 64) : wT (turnT T n (k : Int) u) j = wT T j := by
  rw [wT_eq, wT_eq]
  apply mkW_ext
  intro i hi
  unfold turnT
  split
  · have : 64 * j + i ≠ k := by omega
    simp [this]
  · rfl
theorem MapAt.turned {w : World} {b n : Nat} {T : Nat → Bool} (h : MapAt w b T n) {k : Nat} {v : Bool} (hk : k < 1024) (hI : inB n (k : Int) = true) (hv : T k = v) :
    MapAt (w.setCell ⟨b, k / 64, none⟩ (.int .u64 (bits .xor .u64 ((wT T (k / 64) : Nat) : Int) (IntKind.u64.wrap ((2 : Int) ^ (k % 64)))))) b (turnT T n (k : Int) (!v)) n := by
  refine ⟨fun j hj => ?_, ?_, fun j hj => by rw [World.frozen?_setCell]; exact h.fz j hj⟩
  · by_cases e : j = k / 64
    · subst e
      rw [World.cell?_setCell_same (h := h.wd _ hj), wT_turn hk hI hv]
    · rw [World.cell?_setCell_other (h := by simp <;> omega), h.wd j hj, wT_other e]
  · rw [World.cell?_setCell_other (h := by simp <;> omega)]
    exact h.len
set_option maxRecDepth 100000 in
set_option maxHeartbeats 800000 in
theorem turn_any (b n : Nat) (T : Nat → Bool) (i : Int) (u : Bool) (was : Int) (w : World) (h : MapAt w b T n) (hF : FMOk T n) : Calls Tryd.prog 29 #[.pointer (some ⟨b, 0, none⟩), .int .i64 i, .bool u, .int .i64 was] w fun e w' => e = .returned (.int .i64 (turnC T n i u was)) ∧ MapAt w' b (turnT T n i u) n ∧ w.grownBy w' (some b) := by
  have c := h.len
  have hn1 := hF.lo
  have hn2 := hF.hi
  by_cases h0 : 0 ≤ i
  · by_cases h1 : i < n
    · obtain ⟨k, rfl⟩ : ∃ k : Nat, i = (k : Int) := ⟨i.toNat, by omega⟩
      have hk : k < 1024 := by omega
      have hw := h.wd (k / 64) (by omega)
      have hf := h.fz (k / 64) (by omega)
      have HI : Hid (inB n (k : Int) = true) := by show inB n (k : Int) = true; unfold inB; simp [h1]
      obtain ⟨v, hv⟩ : ∃ v, T k = v := ⟨_, rfl⟩
      have HH : Hid (hasB T n (k : Int) = v) := by show hasB T n (k : Int) = v; unfold hasB; simp [h1, hv]
      have HV := Lib.hid hv
      clear hv
      by_cases hu : v = u
      · subst hu
        cases v
        all_goals
          go_enter Tryd.func29, Tryd.ntmps29
          go_wp2_with (go_at_call 21; refine (has_any b n T _ _ h hF).mono ?_; rintro e w' ⟨rfl, rfl⟩; rw [HH.out])
          go_ret
          exact ⟨by unfold turnC; simp [HI.out, HV.out], by rw [turn_same HI.out HV.out]; exact h, grown_refl _ _⟩
      · obtain rfl : u = !v := by cases u <;> cases v <;> simp_all
        clear hu
        cases v
        all_goals
          go_enter Tryd.func29, Tryd.ntmps29
          go_wp2_with (go_at_call 21; refine (has_any b n T _ _ h hF).mono ?_; rintro e w' ⟨rfl, rfl⟩; rw [HH.out])
          go_region
          go_wp2
          go_ret
          exact ⟨by unfold turnC; simp [HI.out, HV.out], (h.turned hk HI.out HV.out).drew, grown_drew (grown_set _ _ _)⟩
    · have HI : inB n i = false := by unfold inB; simp; omega
      go_enter Tryd.func29, Tryd.ntmps29
      go_wp2_with fail
      go_ret
      exact ⟨by unfold turnC; simp [HI], by unfold turnT; simp [HI]; exact h, grown_refl _ _⟩
  · have HI : inB n i = false := by unfold inB; simp; omega
    go_enter Tryd.func29, Tryd.ntmps29
    go_wp2_with fail
    go_ret
    exact ⟨by unfold turnC; simp [HI], by unfold turnT; simp [HI]; exact h, grown_refl _ _⟩
theorem use_any (b n : Nat) (T : Nat → Bool) (i : Int) (w : World) (h : MapAt w b T n) (hF : FMOk T n) : Calls Tryd.prog 10 #[.pointer (some ⟨b, 0, none⟩), .int .i64 i] w fun e w' => e = .returned (.int .i64 (turnC T n i true 12)) ∧ MapAt w' b (turnT T n i true) n ∧ w.grownBy w' (some b) := by
  go_enter Tryd.func10, Tryd.ntmps10
  go_wp2_with (go_at_call 29; refine (turn_any b n T _ _ _ _ h hF).mono ?_; rintro e w' ⟨rfl, h2, h3⟩)
  go_ret
  exact ⟨rfl, h2, h3⟩
theorem give_any (b n : Nat) (T : Nat → Bool) (i : Int) (w : World) (h : MapAt w b T n) (hF : FMOk T n) : Calls Tryd.prog 14 #[.pointer (some ⟨b, 0, none⟩), .int .i64 i] w fun e w' => e = .returned (.int .i64 (turnC T n i false 13)) ∧ MapAt w' b (turnT T n i false) n ∧ w.grownBy w' (some b) := by
  go_enter Tryd.func14, Tryd.ntmps14
  go_wp2_with (go_at_call 29; refine (turn_any b n T _ _ _ _ h hF).mono ?_; rintro e w' ⟨rfl, h2, h3⟩)
  go_ret
  exact ⟨rfl, h2, h3⟩
theorem use_nil (i : Int) (w : World) : Calls Tryd.prog 10 #[.pointer none, .int .i64 i] w fun e w' => e = .returned (.int .i64 1) ∧ w = w' := by
  go_enter Tryd.func10, Tryd.ntmps10
  go_wp2
  go_ret
  exact ⟨rfl, rfl⟩
theorem give_nil (i : Int) (w : World) : Calls Tryd.prog 14 #[.pointer none, .int .i64 i] w fun e w' => e = .returned (.int .i64 1) ∧ w = w' := by
  go_enter Tryd.func14, Tryd.ntmps14
  go_wp2
  go_ret
  exact ⟨rfl, rfl⟩
theorem has_nil (i : Int) (w : World) : Calls Tryd.prog 21 #[.pointer none, .int .i64 i] w fun e w' => e = .returned (.bool false) ∧ w = w' := by
  go_enter Tryd.func21, Tryd.ntmps21
  go_wp2
  go_ret
  exact ⟨rfl, rfl⟩
theorem copy_nil (w : World) : Calls Tryd.prog 19 #[.pointer none] w fun e w' => e = .returned (.pointer none) ∧ w = w' := by
  go_enter Tryd.func19, Tryd.ntmps19
  go_wp2
  go_ret
  exact ⟨rfl, rfl⟩
theorem copy_any (b n : Nat) (T : Nat → Bool) (w : World) (h : MapAt w b T n) : Calls Tryd.prog 19 #[.pointer (some ⟨b, 0, none⟩)] w fun e w' => e = .returned (.pointer (some ⟨w.heap.size, 0, none⟩)) ∧ w' = w.alloc (.cells (mapC T n) 58) := by
  have c0 := h.wd 0 (by omega)
  have c1 := h.wd 1 (by omega)
  have c2 := h.wd 2 (by omega)
  have c3 := h.wd 3 (by omega)
  have c4 := h.wd 4 (by omega)
  have c5 := h.wd 5 (by omega)
  have c6 := h.wd 6 (by omega)
  have c7 := h.wd 7 (by omega)
  have c8 := h.wd 8 (by omega)
  have c9 := h.wd 9 (by omega)
  have c10 := h.wd 10 (by omega)
  have c11 := h.wd 11 (by omega)
  have c12 := h.wd 12 (by omega)
  have c13 := h.wd 13 (by omega)
  have c14 := h.wd 14 (by omega)
  have c15 := h.wd 15 (by omega)
  have c16 := h.len
  go_enter Tryd.func19, Tryd.ntmps19
  go_wp2_with fail
  go_ret
  exact ⟨rfl, rfl⟩
end Go.Proofs.YtdaeibbjoefofaaDoor
