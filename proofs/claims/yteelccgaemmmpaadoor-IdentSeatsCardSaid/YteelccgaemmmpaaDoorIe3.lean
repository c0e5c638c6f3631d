/- IdentParts: the walk. -/
import Derived.Test.YteelccgaemmmpaaDoorIe1
import Derived.Deep.RegionHeld3
import Derived.IntWalk
namespace Go.Proofs.YteelccgaemmmpaaDoor
open Go.RowKit
set_option linter.unusedVariables false
set_option linter.unusedSimpArgs false

theorem event_person {l : List UInt8} (h : eventB l = true) : personB l = true := by
  unfold eventB at h
  unfold personB
  simp only [Bool.and_eq_true, decide_eq_true_eq] at h ⊢
  obtain ⟨⟨⟨h1, h2⟩, h3⟩, h4⟩ := h
  refine ⟨⟨h1, by omega⟩, ?_⟩
  rw [List.all_eq_true] at h3 ⊢
  intro x hx
  have := h3 x hx
  unfold evC at this
  unfold okP
  rw [decide_eq_true_eq] at this ⊢
  omega
theorem cut_min (s : ByteArray) (n : Nat) : ∃ (S : ByteArray) (m : Nat), S.size ≤ n ∧ S.size = m ∧ min (s.size : Int) (n : Int) = (m : Int) ∧ (if (n : Int) < (s.size : Int) then (n : Int) else (s.size : Int)) = (m : Int) ∧ m ≤ s.size ∧ ∀ (P : Program) (t : TypeId) (W : World), P.underlying t = some .string → (Instr.slice t (.string s) none (some (.int .i64 (m : Int))) none).run P W = .ok (.string S) W := by
  refine ⟨s.extract 0 (min s.size n), min s.size n, ?_, ?_, by omega, by split <;> omega, by omega, fun P t W ht => run_take t ht s _ (by omega) W⟩
  · rw [ByteArray.size_extract]; omega
  · rw [ByteArray.size_extract]; omega
set_option maxRecDepth 100000 in
set_option maxHeartbeats 2000000 in
theorem parts_any (a b : ByteArray) (at_ : Int) (w : World) (hG : GW w) (h0 : 0 ≤ at_) (h1 : at_ < 256) : Calls Tryd.prog 7 #[.string a, .string b, .int .u8 at_] w fun e w' => e = .returned (.bool true) ∧ Below w.heap.size w w' := by
  have HG := Lib.hid hG
  obtain ⟨A, ma, hA1, hA2, am1, am2, am3, hsA⟩ := cut_min a 20
  obtain ⟨B, mb, hB1, hB2, bm1, bm2, bm3, hsB⟩ := cut_min b 20
  replace am1 : min (a.size : Int) 20 = (ma : Int) := am1
  replace bm1 : min (b.size : Int) 20 = (mb : Int) := bm1
  replace am2 : (if (20 : Int) < (a.size : Int) then (20 : Int) else (a.size : Int)) = (ma : Int) := am2
  replace bm2 : (if (20 : Int) < (b.size : Int) then (20 : Int) else (b.size : Int)) = (mb : Int) := bm2
  have hsA' := fun W => hsA Tryd.prog 9 W Tryd.underlying9
  have hsB' := fun W => hsB Tryd.prog 9 W Tryd.underlying9
  have pa : (0 : Int) ≤ (ma : Int) := by omega
  have pa2 : (ma : Int) ≤ (a.size : Int) := by omega
  have pb : (0 : Int) ≤ (mb : Int) := by omega
  have pb2 : (mb : Int) ≤ (b.size : Int) := by omega
  have HA := Lib.hid hA2
  have HB := Lib.hid hB2
  clear hA2 hB2 hG hsA hsB
  go_enter Tryd.func7, Tryd.ntmps7
  go_wp2_with fail
  refine (works_any _ HG.out).mono ?_
  rintro e w0 ⟨rfl, hBw⟩
  have HB0 := Lib.hid hBw
  clear hBw
  go_wp2_with fail
  go_quiet (fail)
  go_wp2_with fail
  have HBw := Lib.hid (below_drewN HB0.out nq)
  generalize w0.drewN nq = wz at *
  clear HB0
  have QA := Lib.hid (fun W hE hM => event_any A W (by omega) hE hM)
  have QB := Lib.hid (fun W hE hM => event_any B W (by omega) hE hM)
  refine (QA.out _ (HG.out.below HBw.out).e (HG.out.below HBw.out).m).mono ?_
  rintro e w1 ⟨rfl, hB1⟩
  have HB1 := Lib.hid (bstep HBw.out hB1)
  clear hB1 HBw
  cases hA : eventB A.data.toList with
  | false =>
    rw [hA] at QA
    clear QB
    go_wp2_with fail
    refine (QA.out _ (HG.out.below HB1.out).e (HG.out.below HB1.out).m).mono ?_
    rintro e w2 ⟨rfl, hB2⟩
    go_wp2_with fail
    go_ret
    exact ⟨rfl, bstep HB1.out hB2⟩
  | true =>
    rw [hA] at QA
    have hAn : 1 ≤ A.size := by
      have h := hA
      unfold eventB at h
      simp only [Bool.and_eq_true, Bool.not_eq_true', List.isEmpty_eq_false_iff] at h
      have := List.length_pos_iff.2 h.1.1.1
      rw [size_toList] at this
      exact this
    have hAd : ∀ W, (Op.stringOp .add A ⟨#[45]⟩).run Tryd.prog W = .ok (.string (A ++ ⟨#[45]⟩)) W := fun W => run_string_add_sum W _ _ (by show A.size + 1 ≤ _; omega)
    have hAd2 : ∀ W, (Op.stringOp .add ⟨#[45]⟩ A).run Tryd.prog W = .ok (.string (⟨#[45]⟩ ++ A)) W := fun W => run_string_add_sum W _ _ (by show 1 + A.size ≤ _; omega)
    obtain ⟨A1, hA1'⟩ : ∃ A1 : ByteArray, A1 = A ++ ⟨#[45]⟩ := ⟨_, rfl⟩
    obtain ⟨A2, hA2'⟩ : ∃ A2 : ByteArray, A2 = ⟨#[45]⟩ ++ A := ⟨_, rfl⟩
    rw [← hA1'] at hAd
    rw [← hA2'] at hAd2
    have z1 : A1.size = A.size + 1 := by rw [hA1', ByteArray.size_append]; rfl
    have z2 : A2.size = 1 + A.size := by rw [hA2', ByteArray.size_append]; rfl
    obtain ⟨C, hC⟩ : ∃ C : ByteArray, C = A1 ++ B := ⟨_, rfl⟩
    have hAd3 : ∀ W, (Op.stringOp .add A1 B).run Tryd.prog W = .ok (.string C) W := fun W => by rw [hC]; exact run_string_add_sum W _ _ (by omega)
    have z3 : C.size = A1.size + B.size := by rw [hC, ByteArray.size_append]
    have l1 : A1.data.toList = A.data.toList ++ [45] := by rw [hA1', app_list]
    have l2 : A2.data.toList = 45 :: A.data.toList := by rw [hA2', app_list]; simp
    have l3 : C.data.toList = A.data.toList ++ 45 :: B.data.toList := by rw [hC, app_list, l1]; simp
    have Q1 := Lib.hid (fun W hE hM => event_any A1 W (by omega) hE hM)
    have Q2 := Lib.hid (fun W hE hM => event_any A2 W (by omega) hE hM)
    have QC := Lib.hid (fun W hE hM => event_any C W (by omega) hE hM)
    obtain ⟨f1, f2⟩ := event_first hA
    rw [l1, f2] at Q1
    rw [l2, f1] at Q2
    have QP := Lib.hid (fun W hP => person_any A W (by omega) hP)
    rw [event_person hA] at QP
    have sl : (A.size : Int) + (B.size : Int) ≤ 40 := by omega
    have QCt : eventB B.data.toList = true → eventB C.data.toList = decide ((A.size : Int) + (B.size : Int) < 16) := fun hb => by
      rw [l3, event_split _ _ hA hb, size_toList, size_toList, decide_eq_decide]
      omega
    have HAe := Lib.hid hA
    have HQCt := Lib.hid QCt
    clear hA1' hA2' hC l1 l2 l3 f1 f2 QCt hA
    have key : ∃ w2, Below w.heap.size w w2 := ⟨w1, HB1.out⟩
    clear key
    go_wp2_with fail
    refine (QB.out _ (HG.out.below HB1.out).e (HG.out.below HB1.out).m).mono ?_
    rintro e w2 ⟨rfl, hB2⟩
    have HB2 := Lib.hid (bstep HB1.out hB2)
    clear hB2 HB1
    have hcase : (eventB B.data.toList = false) ∨ eventB B.data.toList = true := by cases eventB B.data.toList <;> simp
    rcases hcase with hb | hb
    all_goals
      rw [hb]
      first
        | (rw [HQCt.out hb] at QC; clear HQCt hb; go_wp2_with fail; refine (QC.out _ (HG.out.below HB2.out).e (HG.out.below HB2.out).m).mono ?_; rintro e wc ⟨rfl, hBc⟩; have HB3 := Lib.hid (bstep HB2.out hBc); clear hBc HB2; go_wp2_with fail)
        | (clear HQCt hb; have HB3 := HB2; clear HB2; go_wp2_with fail)
      clear QC QB
      refine (QA.out _ (HG.out.below HB3.out).e (HG.out.below HB3.out).m).mono ?_
      rintro e w4 ⟨rfl, hB4⟩
      have HB4 := Lib.hid (bstep HB3.out hB4)
      clear hB4 HB3 QA
      obtain ⟨d, hd⟩ : ∃ d : Nat, d = (at_ % (A.size : Int)).toNat := ⟨_, rfl⟩
      have hp : (0 : Int) < (A.size : Int) := by omega
      have hd0 := Int.emod_nonneg at_ (Int.ne_of_gt hp)
      have hd1 := Int.emod_lt_of_pos at_ hp
      have hrem : at_ % (A.size : Int) = (d : Int) := by omega
      have hdl : d < A.size := by omega
      clear hd hd0 hd1 hsA' hsB' hA1 hB1 am1 am2 am3 bm1 bm2 bm3 pa pa2 pb pb2
      by_cases hz : d = 0
      · subst hz
        rw [show ((0 : Nat) : Int) = (0 : Int) from rfl] at hrem
        clear hAn
        go_wp2_with fail
        have q := fun W hE hM => event_any ⟨#[]⟩ W (by decide) hE hM
        rw [show eventB (⟨#[]⟩ : ByteArray).data.toList = false from rfl] at q
        refine (q _ (HG.out.below HB4.out).e (HG.out.below HB4.out).m).mono ?_
        rintro e w5 ⟨rfl, hB5⟩
        have HB5 := Lib.hid (bstep HB4.out hB5)
        clear hB5 HB4 q
        go_wp2_with fail
        refine (Q2.out _ (HG.out.below HB5.out).e (HG.out.below HB5.out).m).mono ?_
        rintro e w6 ⟨rfl, hB6⟩
        have HB6 := Lib.hid (bstep HB5.out hB6)
        clear hB6 HB5
        go_wp2_with fail
        refine (Q1.out _ (HG.out.below HB6.out).e (HG.out.below HB6.out).m).mono ?_
        rintro e w7 ⟨rfl, hB7⟩
        have HB7 := Lib.hid (bstep HB6.out hB7)
        clear hB7 HB6
        go_wp2_with fail
        go_ret
        exact ⟨rfl, HB7.out⟩
      · obtain ⟨j, rfl⟩ : ∃ j, d = j + 1 := ⟨d - 1, by omega⟩
        rw [show ((j + 1 : Nat) : Int) = (j : Int) + 1 from rfl] at hrem
        have hj : j < A.size := by omega
        obtain ⟨p1, p2⟩ := event_parts A.data.toList (j + 1) (by omega) (by rw [size_toList]; exact hdl) HAe.out
        rw [Nat.add_sub_cancel, getD_at A j hj] at p1
        rw [getD_at A (j + 1) hdl] at p2
        have hs1 := fun W => run_take (P := Tryd.prog) 9 Tryd.underlying9 A (j + 1) (by omega) W
        have hs2 := fun W => run_slice_string_l W 9 A Tryd.underlying9 .i64 ((j : Int) + 1) (by omega) (by omega)
        obtain ⟨K1, hK1⟩ : ∃ K1 : ByteArray, K1 = A.extract 0 (j + 1) := ⟨_, rfl⟩
        obtain ⟨K2, hK2⟩ : ∃ K2 : ByteArray, K2 = A.extract (j + 1) A.size := ⟨_, rfl⟩
        rw [← hK1] at hs1
        rw [show ((j : Int) + 1).toNat = j + 1 by omega, ← hK2] at hs2
        have k1 : K1.data.toList = A.data.toList.take (j + 1) := by rw [hK1, Lib.extract_data]; simp
        have k2 : K2.data.toList = A.data.toList.drop (j + 1) := by rw [hK2, Lib.extract_data, List.take_of_length_le (by rw [List.length_drop, size_toList]; exact Nat.le_refl _)]
        have s1 : K1.size ≤ 140737488351232 := by rw [hK1, ByteArray.size_extract]; omega
        have s2 : K2.size ≤ 140737488351232 := by rw [hK2, ByteArray.size_extract]; omega
        rw [← k1] at p1
        rw [← k2] at p2
        have E1 := Lib.hid (fun W hE hM => event_any K1 W s1 hE hM)
        have E2 := Lib.hid (fun W hE hM => event_any K2 W s2 hE hM)
        have HK : Hid (K1.size ≤ K2.size ∨ True) := .inr trivial
        replace hs1 : ∀ W, (Instr.slice 9 (.string A) none (some (.int .i64 ((j : Int) + 1))) none).run Tryd.prog W = .ok (.string K1) W := hs1
        have i0 : (0 : Int) ≤ (j : Int) := by omega
        have i1 : (j : Int) < (A.size : Int) := by omega
        have i2 : (j : Int) + 1 < (A.size : Int) := by omega
        have w1' : IntKind.i64.wrap ((j : Int) + 1 - 1) = (j : Int) := by rw [IntWalk.i64_in _ (by omega)]; omega
        have w2' : IntKind.i64.wrap (j : Int) = (j : Int) := IntWalk.i64_in _ (by omega)
        have w3' : ((j : Int) + 1 - 1).toNat = j := by omega
        clear hK1 hK2 k1 k2 s1 s2 HK hz hAn Q1 Q2 hAd hAd2 hAd3 z1 z2 z3 hp
        have u1 := (u8_ne (c := A[j]) (n := 45) (by decide))
        have u2 := (u8_ne (c := A[j + 1]) (n := 45) (by decide))
        replace u1 : A[j] = 45 ↔ A[j].toNat = 45 := u1
        replace u2 : A[j + 1] = 45 ↔ A[j + 1].toNat = 45 := u2
        obtain ⟨x1, hx1⟩ : ∃ x1 : Bool, x1 = decide (A[j] ≠ 45) := ⟨_, rfl⟩
        obtain ⟨x2, hx2⟩ : ∃ x2 : Bool, x2 = decide (A[j + 1] ≠ 45) := ⟨_, rfl⟩
        rw [← hx1] at p1
        rw [← hx2] at p2
        have n1 : ((A[j].toNat : Int) != 45) = x1 := by
          rw [hx1, Bool.eq_iff_iff]
          simp only [bne_iff_ne, ne_eq, decide_eq_true_eq]
          rw [u1]
          omega
        have n2 : ((A[j + 1].toNat : Int) != 45) = x2 := by
          rw [hx2, Bool.eq_iff_iff]
          simp only [bne_iff_ne, ne_eq, decide_eq_true_eq]
          rw [u2]
          omega
        rw [p1] at E1
        rw [p2] at E2
        have xx1 : (x1 == x1) = true := beq_self_eq_true _
        have xx2 : (x2 == x2) = true := beq_self_eq_true _
        clear u1 u2 hx1 hx2 p1 p2
        go_wp2_with fail
        go_region_held3 (fun W => Below w.heap.size w W) (first | assumption | (exact HB4.out) | (exact HB4.out.drew) | (exact bstep ‹Below w.heap.size w _› hBs)) (first | (go_at_call 9; first | (have _z := E1; refine (E1.out _ (HG.out.below ‹Below w.heap.size w _›).e (HG.out.below ‹Below w.heap.size w _›).m).mono ?_; clear E1; rintro e w5 ⟨rfl, hBs⟩) | (have _z := E2; refine (E2.out _ (HG.out.below ‹Below w.heap.size w _›).e (HG.out.below ‹Below w.heap.size w _›).m).mono ?_; clear E2; rintro e w5 ⟨rfl, hBs⟩)) | (go_at_call 11; refine (QP.out _ (HG.out.below ‹Below w.heap.size w _›).p).mono ?_; rintro e w5 ⟨rfl, hBs⟩))
        all_goals
          go_wp2_with fail
          go_ret
          exact ⟨rfl, by first | assumption | exact bstep (by assumption) hBs⟩
end Go.Proofs.YteelccgaemmmpaaDoor
