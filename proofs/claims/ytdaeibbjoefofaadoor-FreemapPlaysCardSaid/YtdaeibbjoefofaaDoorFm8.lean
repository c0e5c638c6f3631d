/- A map as bytes. -/
import Derived.Test.YtdaeibbjoefofaaDoorFm7
import Derived.Deep.OwnRows
namespace Go.Proofs.YtdaeibbjoefofaaDoor
open Go.RowKit
set_option linter.unusedVariables false
set_option linter.unusedSimpArgs false

theorem bT_ex : ∃ f : (Nat → Bool) → Nat → Nat, ∀ T i, f T i = mkW (fun j => T (8 * i + j)) 8 := ⟨_, fun _ _ => rfl⟩
/-- The i-th byte of a map. -/
noncomputable def bT : (Nat → Bool) → Nat → Nat := Classical.choose bT_ex
theorem bT_eq (T : Nat → Bool) (i : Nat) : bT T i = mkW (fun j => T (8 * i + j)) 8 := Classical.choose_spec bT_ex T i
theorem bT_lt (T : Nat → Bool) (i : Nat) : bT T i < 256 := by rw [bT_eq]; exact mkW_lt 8 _
noncomputable def putL (T : Nat → Bool) (n : Nat) : List UInt8 := (List.range ((n + 7) / 8)).map fun i => UInt8.ofNat (bT T i)
noncomputable def putS (T : Nat → Bool) (n : Nat) : ByteArray := ⟨(putL T n).toArray⟩
theorem byte_of (T : Nat → Bool) (k : Nat) (hk : k < 128) : IntKind.u8.wrap (((wT T (k * 8 / 64) : Nat) : Int) / (2 : Int) ^ (k * 8 % 64)) = ((bT T k : Nat) : Int) := by
  have e : ((wT T (k * 8 / 64) : Nat) : Int) / (2 : Int) ^ (k * 8 % 64) = ((wT T (k * 8 / 64) / 2 ^ (k * 8 % 64) : Nat) : Int) := by simp
  rw [e, IntKind.wrap_u8]
  generalize hX : wT T (k * 8 / 64) / 2 ^ (k * 8 % 64) = X
  have e2 : (X : Int) % 256 = ((X % 256 : Nat) : Int) := by omega
  rw [e2]
  refine congrArg Nat.cast (Nat.eq_of_testBit_eq ?_)
  intro i
  rw [bT_eq, mkW_test, show (256 : Nat) = 2 ^ 8 from rfl, Nat.testBit_mod_two_pow, ← hX, wT_eq, Nat.testBit_div_two_pow, mkW_test]
  by_cases hi : i < 8
  · have h1 : decide (i + k * 8 % 64 < 64) = true := by simp; omega
    have h2 : 64 * (k * 8 / 64) + (i + k * 8 % 64) = 8 * k + i := by omega
    simp only [hi, h2, decide_true, Bool.true_and]
    rw [h1, Bool.true_and]
  · simp [hi]
theorem putL_len (T : Nat → Bool) (n : Nat) : (putL T n).length = (n + 7) / 8 := by simp [putL]
theorem info_u8 : (Tryd.prog.info? 5).map (fun i => (i.zero, i.size, i.bytes)) = some (some (.int .u8 0), 1, 1) := by kernel_rfl
theorem put_str {W : World} {g n : Nat} {T : Nat → Bool} (h : W.rowIs g 5 ((n + 7) / 8) (fun j => if j < (n + 7) / 8 then .int .u8 (bT T j : Nat) else .int .u8 0)) : (convert 67 9 (.slice (some ⟨g, 0, none⟩) ((n + 7) / 8) ((n + 7) / 8))).run Tryd.prog W = .ok (.string (putS T n)) W := by
  have hr : RdB W (.slice (some ⟨g, 0, none⟩) ((n + 7) / 8) ((n + 7) / 8)) (putL T n) := by
    refine ⟨some (g, 0), (n + 7) / 8, by rw [putL_len]; rfl, by rw [putL_len]; exact Nat.le_refl _, (fun h => by cases h), fun p hp j u hu => ?_⟩
    obtain rfl : (g, 0) = p := by simpa using hp
    have hj : j < (n + 7) / 8 := by
      have := (List.getElem?_eq_some_iff.1 hu).1
      rw [bv_length, putL_len] at this
      exact this
    show W.cell? ⟨g, 0 + j, none⟩ = some u
    rw [Nat.zero_add, h.cell hj, ← hu]
    have hb := bT_lt T j
    simp [bv, putL, hj]
    omega
  exact hr.str _ _ _ Tryd.underlying67 Tryd.underlying5 Tryd.underlying9
set_option maxRecDepth 100000 in
set_option maxHeartbeats 1000000 in
theorem put_any (b n : Nat) (T : Nat → Bool) (w : World) (hM : MapAt w b T n) (hF : FMOk T n) : Calls Tryd.prog 26 #[.pointer (some ⟨b, 0, none⟩)] w fun e w' => e = .returned (.string (putS T n)) ∧ Below w.heap.size w w' := by
  have hn := hF.hi
  have hb := hM.lt
  have hmk : ∀ w : World, (Instr.makeSlice 67 (.int .i64 (((n : Int) + 7) / 8)) (.int .i64 (((n : Int) + 7) / 8))).run Tryd.prog w = .ok (.slice (some ⟨w.heap.size, 0, none⟩) ((n + 7) / 8) ((n + 7) / 8)) (w.alloc (.cells (madeCells #[.int .u8 0] ((n + 7) / 8)) 5)) := by
    intro w
    rw [show ((n : Int) + 7) / 8 = (((n + 7) / 8 : Nat) : Int) by omega]
    exact run_make_row' (P := Tryd.prog) 67 5 (.int .u8 0) 1 Tryd.underlying67 info_u8 rfl .i64 .i64 ((n + 7) / 8) (by omega) (by omega) w
  go_enter Tryd.func26, Tryd.ntmps26
  go_wp2_with (go_at_call 27; refine (len_any b n T _ hM).mono ?_; rintro e w' ⟨rfl, rfl⟩)
  have hR0 := World.rowIs_made w (.int .u8 0) ((n + 7) / 8) 5
  obtain ⟨N, hNe⟩ : ∃ N, (n + 7) / 8 = N := ⟨_, rfl⟩
  have hps := fun W => @put_str W w.heap.size n T
  rw [hNe] at hR0 hps ⊢
  rw [show ((n : Int) + 7) / 8 = (N : Int) by omega]
  have HPS := Lib.hid hps
  have HNE := Lib.hid hNe
  have hNb : N ≤ 128 := by omega
  clear hps hNe hmk
  go_loopw [4, 12] (fun _ i wr => ∃ k : Nat, k ≤ N ∧ i = .int .i64 k ∧ wr.rowIs w.heap.size 5 N (fun j => if j < k then .int .u8 (bT T j : Nat) else .int .u8 0) ∧ Below w.heap.size w wr) (fun _ i _ => N - (intOf i).toNat)
  case atStart => exact ⟨0, by omega, rfl, hR0.congr (fun i hi => by simp), (Below.refl _ _).alloc (Nat.le_refl _) _⟩
  case round =>
    obtain ⟨k, hk, rfl, HR, HB⟩ := hrel
    by_cases hlt : k < N
    · have hMr := hM.below HB
      have hw := hMr.wd (k * 8 / 64) (by omega)
      have hc := HR.cell hlt
      have hf := HR.frozen k
      have HBY := Lib.hid (byte_of T k (by omega))
      clear hM hMr
      go_wp2_with fail
      go_roundw
      case rel =>
        refine ⟨k + 1, by omega, by go_num, (HR.set k _).congr (fun i hi => ?_), HB.setCell (Nat.le_refl _) _⟩
        by_cases e : i = k
        · subst e
          simp only [if_true]
          have hby := HBY.out
          rw [IntKind.wrap_u8] at hby
          rw [if_pos (by omega), hby]
        · simp only [if_neg e]
          by_cases e2 : i < k
          · rw [if_pos e2, if_pos (by omega)]
          · rw [if_neg e2, if_neg (by omega)]
      case measure => simp [intOf]; omega
    · obtain rfl : k = N := by omega
      have hst := HPS.out wr (HR.congr (fun i hi => rfl))
      go_wp2_with fail
      go_ret
      exact ⟨rfl, HB⟩
end Go.Proofs.YtdaeibbjoefofaaDoor
