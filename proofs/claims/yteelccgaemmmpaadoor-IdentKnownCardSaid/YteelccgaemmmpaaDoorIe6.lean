/- IdentKnown: the walk. Printed by gen/ie6.py -/
import Derived.Test.YteelccgaemmmpaaDoorIe5
import Derived.Test.YteelccgaemmmpaaDoorSr
namespace Go.Proofs.YteelccgaemmmpaaDoor
open Go.RowKit
set_option linter.unusedVariables false
set_option linter.unusedSimpArgs false

def tabE : List ByteArray := [⟨#[97]⟩, ⟨#[48]⟩, ⟨#[111, 112, 101, 114, 97, 45, 55]⟩, ⟨#[97, 45, 98, 45, 99, 45, 100, 45, 101, 45, 102, 45, 103, 45, 104, 57]⟩, ⟨#[48, 49, 50, 51, 52, 53, 54, 55, 56, 57, 97, 98, 99, 100, 101, 102]⟩, ⟨#[]⟩, ⟨#[45]⟩, ⟨#[45, 120]⟩, ⟨#[120, 45]⟩, ⟨#[97, 45, 45, 98]⟩, ⟨#[79, 112, 101, 114, 97]⟩, ⟨#[97, 95, 98]⟩, ⟨#[97, 32, 98]⟩, ⟨#[48, 49, 50, 51, 52, 53, 54, 55, 56, 57, 97, 98, 99, 100, 101, 102, 103]⟩, ⟨#[195, 164]⟩]
def tabS : List ByteArray := [⟨#[50, 70]⟩, ⟨#[48, 65]⟩, ⟨#[57, 65]⟩, ⟨#[49, 73]⟩, ⟨#[49, 97]⟩, ⟨#[49, 65, 49]⟩, ⟨#[]⟩, ⟨#[49]⟩, ⟨#[65, 49]⟩]
def tabL : List ByteArray := [⟨#[]⟩, ⟨#[49, 65, 32, 56, 72]⟩, ⟨#[49, 65, 32, 49, 65]⟩, ⟨#[50, 66, 32, 49, 65]⟩, ⟨#[49, 65, 32, 32, 50, 66]⟩, ⟨#[32, 49, 65]⟩, ⟨#[49, 65, 32]⟩, ⟨#[49, 65, 44, 50, 66]⟩, ⟨#[49, 65, 32, 50]⟩, ⟨#[49, 65, 50, 66]⟩]
theorem tabE_ok : ∀ k, k < 15 → (tabE[k]?).map (fun X => eventB X.data.toList) = some (decide (k < 5)) := by decide +kernel
theorem tabS_ok : ∀ k, k < 9 → (tabS[k]?).map (fun X => seatB X.data.toList) = some (decide (k = 0)) := by decide +kernel
theorem tabL_ok : ∀ k, k < 10 → (tabL[k]?).map (fun X => (seatsO X.data.toList).isSome) = some (decide (k < 2)) := by decide +kernel
theorem tabE_z : ∀ X ∈ tabE, X.size ≤ 20 := by decide +kernel
theorem tabL_z : ∀ X ∈ tabL, X.size ≤ 20 := by decide +kernel
theorem by_P : ∀ c, c < 256 → personB [97, UInt8.ofNat c, 98] = decide (33 ≤ c ∧ c ≤ 126) := by decide +kernel
theorem by_E : ∀ c, c < 256 → eventB [97, UInt8.ofNat c, 98] = decide (97 ≤ c ∧ c ≤ 122 ∨ 48 ≤ c ∧ c ≤ 57 ∨ c = 45) := by decide +kernel
theorem aB_add (W : World) (c : Nat) : (Op.stringOp .add ⟨#[97]⟩ ⟨#[UInt8.ofNat c]⟩).run Tryd.prog W = .ok (.string ⟨#[97, UInt8.ofNat c]⟩) W := by
  rw [run_string_add_sum W _ _ (by show 1 + 1 ≤ _; decide)]
  rfl
theorem aB_add2 (W : World) (c : Nat) : (Op.stringOp .add ⟨#[97, UInt8.ofNat c]⟩ ⟨#[98]⟩).run Tryd.prog W = .ok (.string ⟨#[97, UInt8.ofNat c, 98]⟩) W := by
  rw [run_string_add_sum W _ _ (by show 2 + 1 ≤ _; decide)]
  rfl
set_option maxRecDepth 100000 in
set_option maxHeartbeats 8000000 in
theorem known_any (w : World) (hG : GW w) : Calls Tryd.prog 8 #[] w fun e w' => e = .returned (.bool true) ∧ Below w.heap.size w w' := by
  have HG := Lib.hid hG
  have HRT := Lib.hid (RdT.lit w 9 tabE)
  have HB0 := Lib.hid (below_alloc1 w (.cells (tabE.map Value.string).toArray 9))
  rw [show (tabE.map Value.string).toArray = #[Value.string ⟨#[97]⟩, .string ⟨#[48]⟩, .string ⟨#[111, 112, 101, 114, 97, 45, 55]⟩, .string ⟨#[97, 45, 98, 45, 99, 45, 100, 45, 101, 45, 102, 45, 103, 45, 104, 57]⟩, .string ⟨#[48, 49, 50, 51, 52, 53, 54, 55, 56, 57, 97, 98, 99, 100, 101, 102]⟩, .string ⟨#[]⟩, .string ⟨#[45]⟩, .string ⟨#[45, 120]⟩, .string ⟨#[120, 45]⟩, .string ⟨#[97, 45, 45, 98]⟩, .string ⟨#[79, 112, 101, 114, 97]⟩, .string ⟨#[97, 95, 98]⟩, .string ⟨#[97, 32, 98]⟩, .string ⟨#[48, 49, 50, 51, 52, 53, 54, 55, 56, 57, 97, 98, 99, 100, 101, 102, 103]⟩, .string ⟨#[195, 164]⟩] from rfl] at HRT HB0
  clear hG
  go_enter Tryd.func8, Tryd.ntmps8
  go_wp2_with fail
  generalize w.alloc (.cells #[Value.string ⟨#[97]⟩, .string ⟨#[48]⟩, .string ⟨#[111, 112, 101, 114, 97, 45, 55]⟩, .string ⟨#[97, 45, 98, 45, 99, 45, 100, 45, 101, 45, 102, 45, 103, 45, 104, 57]⟩, .string ⟨#[48, 49, 50, 51, 52, 53, 54, 55, 56, 57, 97, 98, 99, 100, 101, 102]⟩, .string ⟨#[]⟩, .string ⟨#[45]⟩, .string ⟨#[45, 120]⟩, .string ⟨#[120, 45]⟩, .string ⟨#[97, 45, 45, 98]⟩, .string ⟨#[79, 112, 101, 114, 97]⟩, .string ⟨#[97, 95, 98]⟩, .string ⟨#[97, 32, 98]⟩, .string ⟨#[48, 49, 50, 51, 52, 53, 54, 55, 56, 57, 97, 98, 99, 100, 101, 102, 103]⟩, .string ⟨#[195, 164]⟩] 9) = wn at *
  generalize hg1 : w.heap.size = g1 at HRT ⊢
  go_loopw [15] (fun i wr => ∃ k : Nat, k ≤ 15 ∧ i = .int .i64 k ∧ Hid (RdT wr g1 tabE) ∧ Hid (Below w.heap.size w wr)) (fun i _ => 15 - (intOf i).toNat)
  case atStart => exact ⟨0, Nat.zero_le _, rfl, HRT.out, HB0.out⟩
  case round =>
    clear HRT HB0
    obtain ⟨k, hk, rfl, HR, HB⟩ := hrel
    by_cases hlt : k < 15
    · have ht := tabE_ok k hlt
      obtain ⟨X, hX⟩ : ∃ X, tabE[k]? = some X := ⟨_, List.getElem?_eq_getElem (show k < tabE.length from hlt)⟩
      rw [hX, Option.map_some, Option.some.injEq] at ht
      have hz := tabE_z X (List.mem_of_getElem? hX)
      have z1 := HR.out k X hX
      have i0 : (0 : Int) ≤ (k : Int) := by omega
      have i1 : (k : Int) < 15 := by omega
      have Q := Lib.hid (fun W hE hM => event_any X W (by omega) hE hM)
      clear hX hz
      by_cases h5 : k < 5
      · have j5 : (k : Int) < 5 := by omega
        rw [ht, decide_eq_true h5] at Q
        clear ht h5
        go_wp2_with fail
        refine (Q.out _ (HG.out.below HB.out).e (HG.out.below HB.out).m).mono ?_
        rintro e w1 ⟨rfl, hB1⟩
        have HR1 := Lib.hid (HR.out.below hB1)
        have HB1 := Lib.hid (bstep HB.out hB1)
        clear hB1 HB HR Q
        go_wp2_with fail
        go_roundw
        case rel => exact ⟨k + 1, by omega, by go_num, HR1.out, HB1.out⟩
        case measure => simp [intOf]; omega
      · have j5 : (5 : Int) ≤ (k : Int) := by omega
        rw [ht, decide_eq_false h5] at Q
        clear ht h5
        go_wp2_with fail
        refine (Q.out _ (HG.out.below HB.out).e (HG.out.below HB.out).m).mono ?_
        rintro e w1 ⟨rfl, hB1⟩
        have HR1 := Lib.hid (HR.out.below hB1)
        have HB1 := Lib.hid (bstep HB.out hB1)
        clear hB1 HB HR Q
        go_wp2_with fail
        go_roundw
        case rel => exact ⟨k + 1, by omega, by go_num, HR1.out, HB1.out⟩
        case measure => simp [intOf]; omega
    · obtain rfl : k = 15 := by omega
      rw [show ((15 : Nat) : Int) = (15 : Int) from rfl]
      clear HR
      go_wp2_with fail
      go_loopw [3] (fun i wr => ∃ k : Nat, k ≤ 256 ∧ i = .int .i64 k ∧ Hid (Below w.heap.size w wr)) (fun i _ => 256 - (intOf i).toNat)
      case atStart => exact ⟨0, Nat.zero_le _, rfl, HB.out⟩
      case round =>
        clear HB
        obtain ⟨k, hk, rfl, HB⟩ := hrel
        by_cases hlt : k < 256
        · have hp := by_P k hlt
          have he := by_E k hlt
          have hcv := one_str wr (k : Int) (by omega)
          rw [show ((k : Int)).toNat = k by omega] at hcv
          have ha1 := fun W => aB_add W k
          have ha2 := fun W => aB_add2 W k
          have i0 : (0 : Int) ≤ (k : Int) := by omega
          have i1 : (k : Int) ≤ 255 := by omega
          obtain ⟨X, hX⟩ : ∃ X : ByteArray, X = ⟨#[97, UInt8.ofNat k, 98]⟩ := ⟨_, rfl⟩
          rw [← hX] at ha2
          have hz : X.size ≤ 140737488351232 := by rw [hX]; exact (by decide : 3 ≤ 140737488351232)
          have hXl : X.data.toList = [97, UInt8.ofNat k, 98] := by rw [hX]
          rw [← hXl] at hp he
          have QP := Lib.hid (fun W hP => person_any X W hz hP)
          have QE := Lib.hid (fun W hE hM => event_any X W hz hE hM)
          rw [hp] at QP
          rw [he] at QE
          clear hX hXl hz hp he
          rcases (show k ≤ 32 ∨ (33 ≤ k ∧ k ≤ 44) ∨ k = 45 ∨ (46 ≤ k ∧ k ≤ 47) ∨ (48 ≤ k ∧ k ≤ 57) ∨ (58 ≤ k ∧ k ≤ 96) ∨ (97 ≤ k ∧ k ≤ 122) ∨ (123 ≤ k ∧ k ≤ 126) ∨ 127 ≤ k by omega) with h | h | h | h | h | h | h | h | h
          · rw [decide_eq_false (by omega)] at QP
            rw [decide_eq_false (by omega)] at QE
            have b2 : (k : Int) ≤ 32 := by omega
            have b3 : ((k : Int) == 45) = false := by rw [beq_eq_false_iff_ne]; omega
            clear h
            go_wp2_with fail
            refine (QP.out _ (HG.out.below (bstep HB.out (below_alloc1 wr _))).p).mono ?_
            rintro e w1 ⟨rfl, hB1⟩
            have HB1 := Lib.hid (bstep HB.out (bstep (below_alloc1 _ _) hB1))
            clear hB1 HB QP
            go_wp2_with fail
            refine (QE.out _ (HG.out.below HB1.out).e (HG.out.below HB1.out).m).mono ?_
            rintro e w2 ⟨rfl, hB2⟩
            have HB2 := Lib.hid (bstep HB1.out hB2)
            clear hB2 HB1 QE
            go_wp2_with fail
            go_roundw
            case rel => exact ⟨k + 1, by omega, by go_num, HB2.out⟩
            case measure => simp [intOf]; omega
          · rw [decide_eq_true (by omega)] at QP
            rw [decide_eq_false (by omega)] at QE
            have b1 : (33 : Int) ≤ (k : Int) := by omega
            have b2 : (k : Int) ≤ 44 := by omega
            have b3 : ((k : Int) == 45) = false := by rw [beq_eq_false_iff_ne]; omega
            clear h
            go_wp2_with fail
            refine (QP.out _ (HG.out.below (bstep HB.out (below_alloc1 wr _))).p).mono ?_
            rintro e w1 ⟨rfl, hB1⟩
            have HB1 := Lib.hid (bstep HB.out (bstep (below_alloc1 _ _) hB1))
            clear hB1 HB QP
            go_wp2_with fail
            refine (QE.out _ (HG.out.below HB1.out).e (HG.out.below HB1.out).m).mono ?_
            rintro e w2 ⟨rfl, hB2⟩
            have HB2 := Lib.hid (bstep HB1.out hB2)
            clear hB2 HB1 QE
            go_wp2_with fail
            go_roundw
            case rel => exact ⟨k + 1, by omega, by go_num, HB2.out⟩
            case measure => simp [intOf]; omega
          · rw [decide_eq_true (by omega)] at QP
            rw [decide_eq_true (by omega)] at QE
            have b1 : (45 : Int) ≤ (k : Int) := by omega
            have b2 : (k : Int) ≤ 45 := by omega
            have b3 : ((k : Int) == 45) = true := by rw [beq_iff_eq]; omega
            clear h
            go_wp2_with fail
            refine (QP.out _ (HG.out.below (bstep HB.out (below_alloc1 wr _))).p).mono ?_
            rintro e w1 ⟨rfl, hB1⟩
            have HB1 := Lib.hid (bstep HB.out (bstep (below_alloc1 _ _) hB1))
            clear hB1 HB QP
            go_wp2_with fail
            refine (QE.out _ (HG.out.below HB1.out).e (HG.out.below HB1.out).m).mono ?_
            rintro e w2 ⟨rfl, hB2⟩
            have HB2 := Lib.hid (bstep HB1.out hB2)
            clear hB2 HB1 QE
            go_wp2_with fail
            go_roundw
            case rel => exact ⟨k + 1, by omega, by go_num, HB2.out⟩
            case measure => simp [intOf]; omega
          · rw [decide_eq_true (by omega)] at QP
            rw [decide_eq_false (by omega)] at QE
            have b1 : (46 : Int) ≤ (k : Int) := by omega
            have b2 : (k : Int) ≤ 47 := by omega
            have b3 : ((k : Int) == 45) = false := by rw [beq_eq_false_iff_ne]; omega
            clear h
            go_wp2_with fail
            refine (QP.out _ (HG.out.below (bstep HB.out (below_alloc1 wr _))).p).mono ?_
            rintro e w1 ⟨rfl, hB1⟩
            have HB1 := Lib.hid (bstep HB.out (bstep (below_alloc1 _ _) hB1))
            clear hB1 HB QP
            go_wp2_with fail
            refine (QE.out _ (HG.out.below HB1.out).e (HG.out.below HB1.out).m).mono ?_
            rintro e w2 ⟨rfl, hB2⟩
            have HB2 := Lib.hid (bstep HB1.out hB2)
            clear hB2 HB1 QE
            go_wp2_with fail
            go_roundw
            case rel => exact ⟨k + 1, by omega, by go_num, HB2.out⟩
            case measure => simp [intOf]; omega
          · rw [decide_eq_true (by omega)] at QP
            rw [decide_eq_true (by omega)] at QE
            have b1 : (48 : Int) ≤ (k : Int) := by omega
            have b2 : (k : Int) ≤ 57 := by omega
            have b3 : ((k : Int) == 45) = false := by rw [beq_eq_false_iff_ne]; omega
            clear h
            go_wp2_with fail
            refine (QP.out _ (HG.out.below (bstep HB.out (below_alloc1 wr _))).p).mono ?_
            rintro e w1 ⟨rfl, hB1⟩
            have HB1 := Lib.hid (bstep HB.out (bstep (below_alloc1 _ _) hB1))
            clear hB1 HB QP
            go_wp2_with fail
            refine (QE.out _ (HG.out.below HB1.out).e (HG.out.below HB1.out).m).mono ?_
            rintro e w2 ⟨rfl, hB2⟩
            have HB2 := Lib.hid (bstep HB1.out hB2)
            clear hB2 HB1 QE
            go_wp2_with fail
            go_roundw
            case rel => exact ⟨k + 1, by omega, by go_num, HB2.out⟩
            case measure => simp [intOf]; omega
          · rw [decide_eq_true (by omega)] at QP
            rw [decide_eq_false (by omega)] at QE
            have b1 : (58 : Int) ≤ (k : Int) := by omega
            have b2 : (k : Int) ≤ 96 := by omega
            have b3 : ((k : Int) == 45) = false := by rw [beq_eq_false_iff_ne]; omega
            clear h
            go_wp2_with fail
            refine (QP.out _ (HG.out.below (bstep HB.out (below_alloc1 wr _))).p).mono ?_
            rintro e w1 ⟨rfl, hB1⟩
            have HB1 := Lib.hid (bstep HB.out (bstep (below_alloc1 _ _) hB1))
            clear hB1 HB QP
            go_wp2_with fail
            refine (QE.out _ (HG.out.below HB1.out).e (HG.out.below HB1.out).m).mono ?_
            rintro e w2 ⟨rfl, hB2⟩
            have HB2 := Lib.hid (bstep HB1.out hB2)
            clear hB2 HB1 QE
            go_wp2_with fail
            go_roundw
            case rel => exact ⟨k + 1, by omega, by go_num, HB2.out⟩
            case measure => simp [intOf]; omega
          · rw [decide_eq_true (by omega)] at QP
            rw [decide_eq_true (by omega)] at QE
            have b1 : (97 : Int) ≤ (k : Int) := by omega
            have b2 : (k : Int) ≤ 122 := by omega
            have b3 : ((k : Int) == 45) = false := by rw [beq_eq_false_iff_ne]; omega
            clear h
            go_wp2_with fail
            refine (QP.out _ (HG.out.below (bstep HB.out (below_alloc1 wr _))).p).mono ?_
            rintro e w1 ⟨rfl, hB1⟩
            have HB1 := Lib.hid (bstep HB.out (bstep (below_alloc1 _ _) hB1))
            clear hB1 HB QP
            go_wp2_with fail
            refine (QE.out _ (HG.out.below HB1.out).e (HG.out.below HB1.out).m).mono ?_
            rintro e w2 ⟨rfl, hB2⟩
            have HB2 := Lib.hid (bstep HB1.out hB2)
            clear hB2 HB1 QE
            go_wp2_with fail
            go_roundw
            case rel => exact ⟨k + 1, by omega, by go_num, HB2.out⟩
            case measure => simp [intOf]; omega
          · rw [decide_eq_true (by omega)] at QP
            rw [decide_eq_false (by omega)] at QE
            have b1 : (123 : Int) ≤ (k : Int) := by omega
            have b2 : (k : Int) ≤ 126 := by omega
            have b3 : ((k : Int) == 45) = false := by rw [beq_eq_false_iff_ne]; omega
            clear h
            go_wp2_with fail
            refine (QP.out _ (HG.out.below (bstep HB.out (below_alloc1 wr _))).p).mono ?_
            rintro e w1 ⟨rfl, hB1⟩
            have HB1 := Lib.hid (bstep HB.out (bstep (below_alloc1 _ _) hB1))
            clear hB1 HB QP
            go_wp2_with fail
            refine (QE.out _ (HG.out.below HB1.out).e (HG.out.below HB1.out).m).mono ?_
            rintro e w2 ⟨rfl, hB2⟩
            have HB2 := Lib.hid (bstep HB1.out hB2)
            clear hB2 HB1 QE
            go_wp2_with fail
            go_roundw
            case rel => exact ⟨k + 1, by omega, by go_num, HB2.out⟩
            case measure => simp [intOf]; omega
          · rw [decide_eq_false (by omega)] at QP
            rw [decide_eq_false (by omega)] at QE
            have b1 : (127 : Int) ≤ (k : Int) := by omega
            have b3 : ((k : Int) == 45) = false := by rw [beq_eq_false_iff_ne]; omega
            clear h
            go_wp2_with fail
            refine (QP.out _ (HG.out.below (bstep HB.out (below_alloc1 wr _))).p).mono ?_
            rintro e w1 ⟨rfl, hB1⟩
            have HB1 := Lib.hid (bstep HB.out (bstep (below_alloc1 _ _) hB1))
            clear hB1 HB QP
            go_wp2_with fail
            refine (QE.out _ (HG.out.below HB1.out).e (HG.out.below HB1.out).m).mono ?_
            rintro e w2 ⟨rfl, hB2⟩
            have HB2 := Lib.hid (bstep HB1.out hB2)
            clear hB2 HB1 QE
            go_wp2_with fail
            go_roundw
            case rel => exact ⟨k + 1, by omega, by go_num, HB2.out⟩
            case measure => simp [intOf]; omega
        · obtain rfl : k = 256 := by omega
          rw [show ((256 : Nat) : Int) = (256 : Int) from rfl]
          obtain ⟨wo, rfl⟩ : ∃ wo : World, wo = wr := ⟨_, rfl⟩
          have HRT := Lib.hid (RdT.lit wo 9 tabS)
          have HB0 := Lib.hid (bstep HB.out (below_alloc1 wo (.cells (tabS.map Value.string).toArray 9)))
          rw [show (tabS.map Value.string).toArray = #[Value.string ⟨#[50, 70]⟩, .string ⟨#[48, 65]⟩, .string ⟨#[57, 65]⟩, .string ⟨#[49, 73]⟩, .string ⟨#[49, 97]⟩, .string ⟨#[49, 65, 49]⟩, .string ⟨#[]⟩, .string ⟨#[49]⟩, .string ⟨#[65, 49]⟩] from rfl] at HRT HB0
          go_wp2_with fail
          generalize wo.alloc (.cells #[Value.string ⟨#[50, 70]⟩, .string ⟨#[48, 65]⟩, .string ⟨#[57, 65]⟩, .string ⟨#[49, 73]⟩, .string ⟨#[49, 97]⟩, .string ⟨#[49, 65, 49]⟩, .string ⟨#[]⟩, .string ⟨#[49]⟩, .string ⟨#[65, 49]⟩] 9) = wn at *
          generalize wo.heap.size = g3 at HRT ⊢
          go_loopw [70] (fun i wr => ∃ k : Nat, k ≤ 9 ∧ i = .int .i64 k ∧ Hid (RdT wr g3 tabS) ∧ Hid (Below w.heap.size w wr)) (fun i _ => 9 - (intOf i).toNat)
          case atStart => exact ⟨0, Nat.zero_le _, rfl, HRT.out, HB0.out⟩
          case round =>
            clear HRT HB0 HB
            obtain ⟨k, hk, rfl, HR, HB⟩ := hrel
            by_cases hlt : k < 9
            · have ht := tabS_ok k hlt
              obtain ⟨X, hX⟩ : ∃ X, tabS[k]? = some X := ⟨_, List.getElem?_eq_getElem (show k < tabS.length from hlt)⟩
              rw [hX, Option.map_some, Option.some.injEq] at ht
              have z1 := HR.out k X hX
              have i0 : (0 : Int) ≤ (k : Int) := by omega
              have i1 : (k : Int) < 9 := by omega
              have Q := Lib.hid (fun W => seat_any X W)
              obtain ⟨sv, hsv⟩ : ∃ sv, sv = seatV X.data.toList := ⟨_, rfl⟩
              rw [← hsv] at Q
              clear hX hsv
              by_cases h5 : k = 0
              · rw [ht, decide_eq_true h5] at Q
                clear ht
                subst h5
                rw [show ((0 : Nat) : Int) = (0 : Int) from rfl]
                go_wp2_with fail
                refine (Q.out _).mono ?_
                rintro e w1 ⟨rfl, hB1⟩
                have HR1 := Lib.hid (HR.out.below hB1)
                have HB1 := Lib.hid (bstep HB.out hB1)
                clear hB1 HB HR Q
                go_wp2_with fail
                go_roundw
                case rel => exact ⟨1, by omega, rfl, HR1.out, HB1.out⟩
                case measure => simp [intOf]
              · have j5 : ((k : Int) == 0) = false := by rw [beq_eq_false_iff_ne]; omega
                rw [ht, decide_eq_false h5] at Q
                clear ht h5
                go_wp2_with fail
                refine (Q.out _).mono ?_
                rintro e w1 ⟨rfl, hB1⟩
                have HR1 := Lib.hid (HR.out.below hB1)
                have HB1 := Lib.hid (bstep HB.out hB1)
                clear hB1 HB HR Q
                go_wp2_with fail
                go_roundw
                case rel => exact ⟨k + 1, by omega, by go_num, HR1.out, HB1.out⟩
                case measure => simp [intOf]; omega
            · obtain rfl : k = 9 := by omega
              rw [show ((9 : Nat) : Int) = (9 : Int) from rfl]
              obtain ⟨wo, rfl⟩ : ∃ wo : World, wo = wr := ⟨_, rfl⟩
              have HRT := Lib.hid (RdT.lit wo 9 tabL)
              have HB0 := Lib.hid (bstep HB.out (below_alloc1 wo (.cells (tabL.map Value.string).toArray 9)))
              rw [show (tabL.map Value.string).toArray = #[Value.string ⟨#[]⟩, .string ⟨#[49, 65, 32, 56, 72]⟩, .string ⟨#[49, 65, 32, 49, 65]⟩, .string ⟨#[50, 66, 32, 49, 65]⟩, .string ⟨#[49, 65, 32, 32, 50, 66]⟩, .string ⟨#[32, 49, 65]⟩, .string ⟨#[49, 65, 32]⟩, .string ⟨#[49, 65, 44, 50, 66]⟩, .string ⟨#[49, 65, 32, 50]⟩, .string ⟨#[49, 65, 50, 66]⟩] from rfl] at HRT HB0
              clear HR
              go_wp2_with fail
              generalize wo.alloc (.cells #[Value.string ⟨#[]⟩, .string ⟨#[49, 65, 32, 56, 72]⟩, .string ⟨#[49, 65, 32, 49, 65]⟩, .string ⟨#[50, 66, 32, 49, 65]⟩, .string ⟨#[49, 65, 32, 32, 50, 66]⟩, .string ⟨#[32, 49, 65]⟩, .string ⟨#[49, 65, 32]⟩, .string ⟨#[49, 65, 44, 50, 66]⟩, .string ⟨#[49, 65, 32, 50]⟩, .string ⟨#[49, 65, 50, 66]⟩] 9) = wn at *
              generalize wo.heap.size = g4 at HRT ⊢
              go_loopw [87] (fun i wr => ∃ k : Nat, k ≤ 10 ∧ i = .int .i64 k ∧ Hid (RdT wr g4 tabL) ∧ Hid (Below w.heap.size w wr)) (fun i _ => 10 - (intOf i).toNat)
              case atStart => exact ⟨0, Nat.zero_le _, rfl, HRT.out, HB0.out⟩
              case round =>
                clear HRT HB0 HB
                obtain ⟨k, hk, rfl, HR, HB⟩ := hrel
                by_cases hlt : k < 10
                · have ht := tabL_ok k hlt
                  obtain ⟨X, hX⟩ : ∃ X, tabL[k]? = some X := ⟨_, List.getElem?_eq_getElem (show k < tabL.length from hlt)⟩
                  rw [hX, Option.map_some, Option.some.injEq] at ht
                  have z1 := HR.out k X hX
                  have hz := tabL_z X (List.mem_of_getElem? hX)
                  have i0 : (0 : Int) ≤ (k : Int) := by omega
                  have i1 : (k : Int) < 10 := by omega
                  have Q := Lib.hid (fun W hM => seats_any X W (by omega) hM)
                  obtain ⟨sv, hsv⟩ : ∃ sv, sv = (seatsO X.data.toList).getD [] := ⟨_, rfl⟩
                  rw [← hsv, ht] at Q
                  clear hX hsv hz ht
                  by_cases h5 : k < 2
                  · have j5 : (k : Int) < 2 := by omega
                    rw [decide_eq_true h5] at Q
                    clear h5
                    go_wp2_with fail
                    refine (Q.out _ (HG.out.below HB.out).m).mono ?_
                    rintro e w1 ⟨va, rfl, _, hB1⟩
                    have HR1 := Lib.hid (HR.out.below hB1)
                    have HB1 := Lib.hid (bstep HB.out hB1)
                    clear hB1 HB HR Q
                    go_wp2_with fail
                    go_roundw
                    case rel => exact ⟨k + 1, by omega, by go_num, HR1.out, HB1.out⟩
                    case measure => simp [intOf]; omega
                  · have j5 : (2 : Int) ≤ (k : Int) := by omega
                    rw [decide_eq_false h5] at Q
                    clear h5
                    go_wp2_with fail
                    refine (Q.out _ (HG.out.below HB.out).m).mono ?_
                    rintro e w1 ⟨va, rfl, _, hB1⟩
                    have HR1 := Lib.hid (HR.out.below hB1)
                    have HB1 := Lib.hid (bstep HB.out hB1)
                    clear hB1 HB HR Q
                    go_wp2_with fail
                    go_roundw
                    case rel => exact ⟨k + 1, by omega, by go_num, HR1.out, HB1.out⟩
                    case measure => simp [intOf]; omega
                · obtain rfl : k = 10 := by omega
                  rw [show ((10 : Nat) : Int) = (10 : Int) from rfl]
                  clear HR
                  obtain ⟨a24, h24⟩ : ∃ X : ByteArray, X = ⟨(Lib.repeatL (⟨#[97]⟩ : ByteArray).data.toList 24).toArray⟩ := ⟨_, rfl⟩
                  obtain ⟨a25, h25⟩ : ∃ X : ByteArray, X = ⟨(Lib.repeatL (⟨#[97]⟩ : ByteArray).data.toList 25).toArray⟩ := ⟨_, rfl⟩
                  have p24 : Hid (personB a24.data.toList = true ∧ a24.size ≤ 140737488351232) := by rw [h24]; exact ⟨by decide +kernel, by decide +kernel⟩
                  have p25 : Hid (personB a25.data.toList = false ∧ a25.size ≤ 140737488351232) := by rw [h25]; exact ⟨by decide +kernel, by decide +kernel⟩
                  have H24 := Lib.hid h24
                  have H25 := Lib.hid h25
                  clear h24 h25
                  go_wp2_with fail
                  have q := fun W => Tryd.strings_Repeat ⟨#[97]⟩ 24 W (by decide) (by decide)
                  rw [← H24.out] at q
                  refine (q _).mono ?_
                  rintro e w20 ⟨rfl, hB20⟩
                  have HB20 := Lib.hid (bstep HB.out hB20)
                  clear hB20 HB q
                  go_wp2_with fail
                  have q := fun W hP => person_any a24 W p24.out.2 hP
                  rw [p24.out.1] at q
                  refine (q _ (HG.out.below HB20.out).p).mono ?_
                  rintro e w21 ⟨rfl, hB21⟩
                  have HB21 := Lib.hid (bstep HB20.out hB21)
                  clear hB21 HB20 q
                  go_wp2_with fail
                  have q := fun W => Tryd.strings_Repeat ⟨#[97]⟩ 25 W (by decide) (by decide)
                  rw [← H25.out] at q
                  refine (q _).mono ?_
                  rintro e w22 ⟨rfl, hB22⟩
                  have HB22 := Lib.hid (bstep HB21.out hB22)
                  clear hB22 HB21 q
                  go_wp2_with fail
                  have q := fun W hP => person_any a25 W p25.out.2 hP
                  rw [p25.out.1] at q
                  refine (q _ (HG.out.below HB22.out).p).mono ?_
                  rintro e w23 ⟨rfl, hB23⟩
                  have HB23 := Lib.hid (bstep HB22.out hB23)
                  clear hB23 HB22 q
                  go_wp2_with fail
                  have q := fun W hP => person_any ⟨#[]⟩ W (by decide) hP
                  rw [show personB (⟨#[]⟩ : ByteArray).data.toList = false by decide] at q
                  refine (q _ (HG.out.below HB23.out).p).mono ?_
                  rintro e w24 ⟨rfl, hB24⟩
                  have HB24 := Lib.hid (bstep HB23.out hB24)
                  clear hB24 HB23 q
                  go_wp2_with fail
                  have q := fun W => label_any (0) W
                  rw [show (⟨(labL (0)).toArray⟩ : ByteArray) = ⟨#[49, 65]⟩ by decide] at q
                  refine (q _).mono ?_
                  rintro e w25 ⟨rfl, hB25⟩
                  have HB25 := Lib.hid (bstep HB24.out hB25)
                  clear hB25 HB24 q
                  go_wp2_with fail
                  have q := fun W => label_any (63) W
                  rw [show (⟨(labL (63)).toArray⟩ : ByteArray) = ⟨#[56, 72]⟩ by decide] at q
                  refine (q _).mono ?_
                  rintro e w26 ⟨rfl, hB26⟩
                  have HB26 := Lib.hid (bstep HB25.out hB26)
                  clear hB26 HB25 q
                  go_wp2_with fail
                  have q := fun W => label_any (64) W
                  rw [show (⟨(labL (64)).toArray⟩ : ByteArray) = ⟨#[]⟩ by decide] at q
                  refine (q _).mono ?_
                  rintro e w27 ⟨rfl, hB27⟩
                  have HB27 := Lib.hid (bstep HB26.out hB27)
                  clear hB27 HB26 q
                  go_wp2_with fail
                  have q := fun W => label_any (-1) W
                  rw [show (⟨(labL (-1)).toArray⟩ : ByteArray) = ⟨#[]⟩ by decide] at q
                  refine (q _).mono ?_
                  rintro e w28 ⟨rfl, hB28⟩
                  have HB28 := Lib.hid (bstep HB27.out hB28)
                  clear hB28 HB27 q
                  go_wp2_with fail
                  have q := fun W => labels_any [] _ W (RdS.nil W) (by decide)
                  rw [show (⟨(labsL []).toArray⟩ : ByteArray) = ⟨#[]⟩ by decide] at q
                  refine (q _).mono ?_
                  rintro e w29 ⟨rfl, hB29⟩
                  have HB29 := Lib.hid (bstep HB28.out hB29)
                  clear hB29 HB28 q
                  go_wp2_with fail
                  have q := fun W => labels_any [64, -5] _ _ (RdS.lit W [64, -5] 3) (by decide)
                  rw [show (⟨(labsL [64, -5]).toArray⟩ : ByteArray) = ⟨#[]⟩ by decide] at q
                  refine (q _).mono ?_
                  rintro e w30 ⟨rfl, hB30⟩
                  have HB30 := Lib.hid (bstep HB29.out (bstep (below_alloc1 _ _) hB30))
                  clear hB30 HB29 q
                  go_wp2_with fail
                  have q := fun W => labels_any [9, 0] _ _ (RdS.lit W [9, 0] 3) (by decide)
                  rw [show (⟨(labsL [9, 0]).toArray⟩ : ByteArray) = ⟨#[50, 66, 32, 49, 65]⟩ by decide] at q
                  refine (q _).mono ?_
                  rintro e w31 ⟨rfl, hB31⟩
                  have HB31 := Lib.hid (bstep HB30.out (bstep (below_alloc1 _ _) hB31))
                  clear hB31 HB30 q
                  go_wp2_with fail
                  have q := fun W hG => works_any W hG
                  refine (q _ (HG.out.below HB31.out)).mono ?_
                  rintro e w32 ⟨rfl, hB32⟩
                  have HB32 := Lib.hid (bstep HB31.out hB32)
                  clear hB32 HB31 q
                  go_wp2_with fail
                  go_ret
                  exact ⟨rfl, HB32.out⟩
end Go.Proofs.YteelccgaemmmpaaDoor
