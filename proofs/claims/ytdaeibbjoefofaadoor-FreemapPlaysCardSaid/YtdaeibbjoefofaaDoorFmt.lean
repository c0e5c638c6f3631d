/- FreemapReads: the walk. -/
import Derived.Test.YtdaeibbjoefofaaDoorFms
import Derived.Test.YtdaeibbjoefofaaDoorFme
namespace Go.Proofs.YtdaeibbjoefofaaDoor
open Go.RowKit
set_option linter.unusedVariables false
set_option linter.unusedSimpArgs false

/-- Whether the reader takes the string. -/
def YesR (n : Int) (s : ByteArray) : Prop := sizeB n = true ∧ s.size = (n.toNat + 7) / 8 ∧ Clean s.data.toList n.toNat
/-- The code of a string that it does not take. -/
noncomputable def noC (n : Int) : Int := if sizeB n = true then 5 else 2
theorem size_nat {n : Int} (h : sizeB n = true) : ∃ k : Nat, n = (k : Int) ∧ 1 ≤ k ∧ k ≤ 1024 := by
  unfold sizeB at h
  simp only [Bool.and_eq_true, decide_eq_true_eq] at h
  exact ⟨n.toNat, by omega, by omega, by omega⟩
theorem read_all (n : Int) (s : ByteArray) (w : World) : Calls Tryd.prog 24 #[.int .i64 n, .string s] w fun e w' =>
    ((YesR n s ∧ e = .returned (.tuple #[.pointer (some ⟨w.heap.size, 0, none⟩), .int .i64 0]) ∧ MapAt w' w.heap.size (partT s.data.toList n.toNat) n.toNat) ∨ (¬ YesR n s ∧ e = .returned (.tuple #[.pointer none, .int .i64 (noC n)]))) ∧ Below w.heap.size w w' := by
  by_cases hz : sizeB n = true
  · obtain ⟨k, rfl, h1, h2⟩ := size_nat hz
    have en : noC (k : Int) = 5 := by unfold noC; rw [if_pos hz]
    by_cases hl : s.size = (k + 7) / 8
    · refine (read_any k s w h1 h2 hl).mono ?_
      rintro e w' ⟨h, hB⟩
      refine ⟨?_, hB⟩
      rw [en]
      rcases h with ⟨q1, q2, q3⟩ | ⟨q1, q2⟩
      · exact .inl ⟨⟨hz, hl, q1⟩, q2, q3⟩
      · exact .inr ⟨fun h => q1 h.2.2, q2⟩
    · refine (read_len k s w h1 h2 hl).mono ?_
      rintro e w' ⟨h, hB⟩
      rw [en]
      exact ⟨.inr ⟨fun h => hl h.2.1, h⟩, hB⟩
  · have en : noC n = 2 := by unfold noC; rw [if_neg hz]
    refine (read_size n s w (by simpa using hz)).mono ?_
    rintro e w' ⟨h, rfl⟩
    rw [en]
    exact ⟨.inr ⟨fun h => hz h.1, h⟩, Below.refl _ _⟩
set_option maxRecDepth 100000 in
set_option maxHeartbeats 1000000 in
theorem rread_size (n : Int) (s : ByteArray) (w : World) (h : sizeB n = false) : Calls Tryd.prog 25 #[.int .i64 n, .string s] w fun e w' =>
    e = .returned (.tuple #[.pointer none, .int .i64 2]) ∧ w = w' := by
  go_enter Tryd.func25, Tryd.ntmps25
  go_wp2_with fail
  refine (rnew_no n w h).mono ?_
  rintro e w1 ⟨rfl, rfl⟩
  go_wp2_with fail
  go_ret2
  exact ⟨rfl, rfl⟩
theorem rread_all (n : Int) (s : ByteArray) (w : World) (hs : s.size ≤ 100000) : Calls Tryd.prog 25 #[.int .i64 n, .string s] w fun e w' =>
    ((YesR n s ∧ e = .returned (.tuple #[.pointer (some ⟨w.heap.size + 1, 0, none⟩), .int .i64 0]) ∧ RefAt w' (w.heap.size + 1) w.heap.size n.toNat (partT s.data.toList n.toNat)) ∨ (¬ YesR n s ∧ e = .returned (.tuple #[.pointer none, .int .i64 (noC n)]))) ∧ Below w.heap.size w w' := by
  by_cases hz : sizeB n = true
  · obtain ⟨k, rfl, h1, h2⟩ := size_nat hz
    have en : noC (k : Int) = 5 := by unfold noC; rw [if_pos hz]
    refine (rread_any k s w h1 h2 hs).mono ?_
    rintro e w' ⟨h, hB⟩
    refine ⟨?_, hB⟩
    rw [en]
    rcases h with ⟨q0, q1, q2, q3⟩ | ⟨q1, q2⟩
    · exact .inl ⟨⟨hz, q0, q1⟩, q2, q3⟩
    · exact .inr ⟨fun h => q1 ⟨h.2.1, h.2.2⟩, q2⟩
  · have en : noC n = 2 := by unfold noC; rw [if_neg hz]
    refine (rread_size n s w (by simpa using hz)).mono ?_
    rintro e w' ⟨h, rfl⟩
    rw [en]
    exact ⟨.inr ⟨fun h => hz h.1, h⟩, Below.refl _ _⟩
/-- The three of an array. -/
def three (a b c : Int) (k : Nat) : Int := [a, b, c].getD k 0
theorem idx3 (a b c : Int) (k : Nat) (hk : k < 3) (W : World) : (Instr.index 46 (.agg #[.int .i64 a, .int .i64 b, .int .i64 c]) (.int .i64 (k : Int))).run Tryd.prog W = .ok (.int .i64 (three a b c k)) W := by
  have hk' : k = 0 ∨ k = 1 ∨ k = 2 := by omega
  rcases hk' with rfl | rfl | rfl
  all_goals (refine Eq.symm ?_; kernel_rfl)
set_option maxRecDepth 100000 in
set_option maxHeartbeats 4000000 in
theorem reads_any (n : Int) (s : ByteArray) (w : World) (hT : TabD w) :
    Calls Tryd.prog 5 #[.int .i64 n, .string s] w fun e w' => e = .returned (.bool true) ∧ Below w.heap.size w w' := by
  have HT := Lib.hid hT
  clear hT
  have HB0 : Hid (Below w.heap.size w w) := Below.refl _ _
  go_enter Tryd.func5, Tryd.ntmps5
  go_wp2_with fail
  case' inl =>
    have hu : (s.extract 0 200).size ≤ 200 := by rw [ByteArray.size_extract]; omega
    generalize s.extract 0 200 = u at hu ⊢
    generalize hz : min 200 s.size = z
    clear hz
  case' inr =>
    have hu : s.size ≤ 200 := by omega
    obtain ⟨z, hz⟩ : ∃ z, z = s.size := ⟨_, rfl⟩
    rw [← hz]
    clear hz
    obtain ⟨u, hus⟩ : ∃ u, u = s := ⟨_, rfl⟩
    rw [← hus] at hu ⊢
    clear hus
  all_goals
    generalize 8 * (z : Int) = m3
    generalize n.tmod 40 = m2
    go_loopw [23] (fun i wr => ∃ k : Nat, k ≤ 3 ∧ i = .int .i64 k ∧ Hid (Below w.heap.size w wr)) (fun i _ => 3 - (intOf i).toNat)
    case atStart => exact ⟨0, by omega, rfl, HB0⟩
    case round =>
      clear HB0
      obtain ⟨k, hk, rfl, HB⟩ := hrel
      by_cases hlt : k < 3
      · have hI := idx3 n m2 m3 k hlt
        generalize three n m2 m3 k = x at hI
        go_wp2_with fail
        refine (read_all x u _).mono ?_
        rintro e w1 ⟨(⟨hy, rfl, hM⟩ | ⟨hy, rfl⟩), hB⟩
        · have HB1 := Lib.hid (HB.out.trans (hB.mono HB.out.size))
          have HM := Lib.hid hM
          have HY := Lib.hid hy
          have hs1 := hB.size
          clear hB hM
          go_wp2_with fail
          refine (rread_all x u w1 (by omega)).mono ?_
          rintro e w2 ⟨(⟨-, rfl, hR⟩ | ⟨h, rfl⟩), hB⟩
          case inr => exact absurd HY.out h
          have HB2 := Lib.hid (HB1.out.trans (hB.mono HB1.out.size))
          have HM2 := Lib.hid (HM.out.below hB)
          have HR2 := Lib.hid hR
          clear hB hR HB1 HM
          obtain ⟨j, hj, hj1, hj2⟩ := size_nat HY.out.1
          have HF : Hid (FMOk (partT u.data.toList x.toNat) x.toNat) := part_ok (by omega) (by omega) (Nat.le_refl _)
          clear hj hj1 hj2 hy
          go_wp2_with fail
          refine (alike_any _ _ _ _ _ _ HM2.out HR2.out HF.out).mono ?_
          rintro e w3 ⟨rfl, hB⟩
          have HB3 := Lib.hid (HB2.out.trans (hB.mono HB2.out.size))
          clear hB HB2 HM2 HR2
          go_wp2_with fail
          go_roundw
          case rel => exact ⟨k + 1, by omega, by go_num, HB3⟩
          case measure => simp [intOf]; omega
        · have HB1 := Lib.hid (HB.out.trans (hB.mono HB.out.size))
          have HY := Lib.hid hy
          clear hB hy
          go_wp2_with fail
          generalize hc : noC x = c
          refine (rread_all x u w1 (by omega)).mono ?_
          rintro e w2 ⟨(⟨h, -, -⟩ | ⟨-, rfl⟩), hB⟩
          case inl => exact absurd h HY.out
          rw [hc]
          have HB2 := Lib.hid (HB1.out.trans (hB.mono HB1.out.size))
          clear hB HB1 hc
          go_wp2_with fail
          go_roundw
          case rel => exact ⟨k + 1, by omega, by go_num, HB2⟩
          case measure => simp [intOf]; omega
      · go_wp2_with fail
        refine (works_any wr (HT.out.below HB.out)).mono ?_
        rintro e w2 ⟨rfl, hB⟩
        have HB2 := Lib.hid (HB.out.trans (hB.mono HB.out.size))
        clear hB
        go_wp2_with fail
        go_ret
        exact ⟨rfl, HB2.out⟩
end Go.Proofs.YtdaeibbjoefofaaDoor
