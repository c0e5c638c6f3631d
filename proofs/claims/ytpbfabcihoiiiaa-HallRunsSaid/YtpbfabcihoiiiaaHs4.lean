/- HallRuns: the walk. -/
import Derived.Test.YtpbfabcihoiiiaaHs6
import Derived.Test.YtpbfabcihoiiiaaHlC
import Derived.Test.YtpbfabcihoiiiaaHlB
namespace Go.Proofs.Ytpbfabcihoiiiaa
open Go.RowKit
set_option linter.unusedVariables false
set_option linter.unusedSimpArgs false

theorem ofR_len (l : List (Int × Int)) : (ofR l).length ≤ 8 := by
  unfold ofR
  rw [List.length_map, List.length_take]
  omega
set_option maxRecDepth 100000 in
set_option maxHeartbeats 8000000 in
theorem runs_holds (l : List (Int × Int)) (v : Value) (c : Int) (m : Nat) (w : World) (hv : RdU w v l) (hl : l.length ≤ maxLen) (hc : 0 ≤ c ∧ c < 256) (hm : m < 18446744073709551616) :
    Calls Try.prog 4 #[v, .int .u8 c, .int .u64 (m : Nat)] w fun e w' => e = .returned (.bool true) ∧ Below w.heap.size w w' := by
  have HV := Lib.hid hv
  clear hv
  obtain ⟨d, hd, hd0, hd3⟩ : ∃ d : Int, c.tmod 3 = d ∧ 0 ≤ d ∧ d < 3 := ⟨c.tmod 3, rfl, by rw [Int.tmod_eq_emod_of_nonneg hc.1]; omega, by rw [Int.tmod_eq_emod_of_nonneg hc.1]; omega⟩
  go_enter Try.func4, Try.ntmps4
  go_wp2_with fail
  refine (works_any _).mono ?_
  rintro e w1 ⟨rfl, hB1⟩
  have HB1 := Lib.hid hB1
  have HV1 := Lib.hid (HV.out.below hB1)
  clear hB1 HV
  go_wp2_with fail
  refine (of_any l v _ HV1.out hl).mono ?_
  rintro e w2 ⟨v1, rfl, hR, hB2⟩
  have HB2 := Lib.hid (trans' HB1.out hB2)
  have HB2s : Hid (w.heap.size ≤ w2.heap.size) := HB2.out.size
  have HR := Lib.hid hR
  obtain ⟨a, cp, rfl⟩ : ∃ a c, v1 = .slice a (ofR l).length c := by
    obtain ⟨a, c, h, _⟩ := hR
    exact ⟨a, c, h⟩
  clear hB2 HB1 HV1 hR
  go_wp2_with fail
  have hBA : Below w2.heap.size w2 (w2.alloc (.cells #[.slice a (ofR l).length cp] 26)) := (Below.refl _ _).alloc (Nat.le_refl _) _
  have hb7 : (w2.alloc (.cells #[.slice a (ofR l).length cp] 26)).cell? ⟨w2.heap.size, 0, none⟩ = some (.slice a (ofR l).length cp) := by go_cell
  refine (taken_any m _ hm).mono ?_
  rintro e w3 ⟨rfl, hB3⟩
  have hb7 := keepC hB3 hb7
  have HB3 := Lib.hid (trans' HB2.out (trans' hBA hB3))
  have HD3 := Lib.hid (trans' hBA hB3)
  have HRo := HR
  have HR3 := Lib.hid (HR.out.below (trans' hBA hB3))
  have hz : tkA (fun _ => false) = #[.bool false, .bool false, .bool false, .bool false, .bool false, .bool false, .bool false, .bool false, .bool false, .bool false, .bool false, .bool false, .bool false, .bool false, .bool false, .bool false, .bool false, .bool false, .bool false, .bool false, .bool false, .bool false, .bool false, .bool false, .bool false, .bool false, .bool false, .bool false, .bool false, .bool false, .bool false, .bool false, .bool false, .bool false, .bool false, .bool false, .bool false, .bool false, .bool false, .bool false, .bool false, .bool false, .bool false, .bool false, .bool false, .bool false, .bool false, .bool false, .bool false, .bool false, .bool false, .bool false, .bool false, .bool false, .bool false, .bool false, .bool false, .bool false, .bool false, .bool false, .bool false, .bool false, .bool false, .bool false] := rfl
  have hl7 : w2.heap.size < w3.heap.size := World.block_lt_of_cell? _ _ hb7
  clear hBA hB3 HB2 HR
  have hF4 : ∃ w4, w4 = (w3.alloc (.cells (tkA (fun _ => false)) 41)).setRow w3.heap.size (tkA (fun j => m.testBit j)) ∧ Below w3.heap.size w3 w4 ∧ w4.heap[w3.heap.size]? = some (.cells (tkA (fun j => m.testBit j)) 41 (0, 0)) :=
    ⟨_, rfl, below_setRow ((Below.refl _ _).alloc (Nat.le_refl _) _) (Nat.le_refl _) _, setRow_heap _ _ _ _ _ _ (heap_alloc_new _ _)⟩
  rw [hz] at hF4
  obtain ⟨w4, hw4, hB4, hr4⟩ := hF4
  have hb7 := keepC hB4 hb7
  have HR4 := Lib.hid (HR3.out.below hB4)
  have HB4 := Lib.hid (trans' HB3.out hB4)
  have HD4 := Lib.hid (trans' HD3.out hB4)
  have hl4 : w3.heap.size < w4.heap.size := World.block_lt_of_cell? _ _ (cell_of_row _ _ 0 _ _ _ hr4 |>.trans (tkA_at _ 0 (by decide)))
  have hrow : Hid (w4.heap[w3.heap.size]? = some (.cells (tkA (fun j => m.testBit j)) 41 (0, 0))) := hr4
  have hb7' := hb7
  rw [hw4] at hb7'
  have hrow' := hrow
  rw [hw4] at hrow'
  clear hB4 hr4 HR3 HB3
  go_wp2_with (first | (refine wpList_store_row rfl 41 (.tmp 9) (.tmp 31) rfl w3.heap.size (tkA (fun j => m.testBit j)) rfl rfl 41 (tkA (fun _ => false)) (heap_alloc_new _ _) (tk_info _) rfl (tkA_one _) ?_) | (refine wpList_load_row rfl 41 (.tmp 9) rfl w3.heap.size rfl 41 (tkA (fun j => m.testBit j)) (0, 0) _ hrow'.out Try.underlying41 rfl (tk_info _) ?_))
  rw [← hw4]
  refine (open_any (.slice a (ofR l).length cp) (ofR l) d (fun j => m.testBit j) _ HR4.out (ofR_len l)).mono ?_
  rintro e w5 ⟨rfl, hB5⟩
  have HLaw := Lib.hid (runs_law (ofR l) d (fun j => m.testBit j) 64)
  obtain ⟨F, hF⟩ : ∃ F, F = opA (ofR l) d (fun j => m.testBit j) := ⟨_, rfl⟩
  rw [← hF] at HLaw ⊢
  have HF := Lib.hid hF
  clear hF
  clear hb7' hrow' hw4
  have hb7 := keepC hB5 hb7
  have HR5 := Lib.hid (HR4.out.below hB5)
  have HB5 := Lib.hid (trans' HB4.out hB5)
  have HD5 := Lib.hid (trans' HD4.out hB5)
  have hr9 : w5.heap[w3.heap.size]? = some (.cells (tkA (fun j => m.testBit j)) 41 (0, 0)) := (hB5.block _ (by omega)).trans hrow.out
  have hl5 : w4.heap.size ≤ w5.heap.size := hB5.size
  clear hB5 HR4 HB4 hrow
  have hF6 : ∃ w6, w6 = ((w5.alloc (.cells (tkA (fun _ => false)) 41)).setRow w5.heap.size (tkA F)).alloc (.cells (tkA (fun _ => false)) 41) ∧ Below w5.heap.size w5 w6 ∧ w6.heap[w5.heap.size]? = some (.cells (tkA F) 41 (0, 0)) ∧ w6.heap[w5.heap.size + 1]? = some (.cells (tkA (fun _ => false)) 41 (0, 0)) := by
    have s1 : w5.heap.size ≤ ((w5.alloc (.cells (tkA (fun _ => false)) 41)).setRow w5.heap.size (tkA F)).heap.size := (below_setRow ((Below.refl w5.heap.size w5).alloc (Nat.le_refl _) (.cells (tkA (fun _ => false)) 41)) (Nat.le_refl _) (tkA F)).size
    refine ⟨_, rfl, (below_setRow ((Below.refl _ _).alloc (Nat.le_refl _) _) (Nat.le_refl _) _).alloc s1 _, row_kept (setRow_heap _ _ _ _ _ _ (heap_alloc_new _ _)) (World.grownBy_alloc _ _ none) (by simp), ?_⟩
    have e : ((w5.alloc (.cells (tkA (fun _ => false)) 41)).setRow w5.heap.size (tkA F)).heap.size = w5.heap.size + 1 := by simp [World.setRow]
    rw [← e]
    exact heap_alloc_new _ _
  rw [hz] at hF6
  obtain ⟨w6, hw6, hB6, hf6, hi6⟩ := hF6
  have hb7' := keepC hB6 hb7
  rw [hw6] at hb7'
  have hr9' : w6.heap[w3.heap.size]? = some (.cells (tkA (fun j => m.testBit j)) 41 (0, 0)) := (hB6.block _ (by omega)).trans hr9
  have hrow' := hr9'
  rw [hw6] at hrow'
  go_wp2_with (first | (refine wpList_store_row rfl 41 (.tmp 10) (.tmp 35) rfl w5.heap.size (tkA F) rfl rfl 41 (tkA (fun _ => false)) (heap_alloc_new _ _) (tk_info _) rfl (tkA_one _) ?_) | (refine wpList_load_row rfl 41 (.tmp 9) rfl w3.heap.size rfl 41 (tkA (fun j => m.testBit j)) (0, 0) _ hrow' Try.underlying41 rfl (tk_info _) ?_))
  rw [← hw6]
  have HR6 := HR5.out.below hB6
  have qr := runs_any (.slice a (ofR l).length cp) (ofR l) d (fun j => m.testBit j) w6 HR6 (by have := ofR_len l; omega)
  rw [sts_all (ofR_len l)] at qr
  refine qr.mono ?_
  clear qr
  rintro e w7 ⟨vr, rfl, hown, hB7⟩
  obtain ⟨Ar, cr, rfl⟩ := own_opn' hown
  have hRC := runs_cells hown
  obtain ⟨st, hst⟩ : ∃ st, st = rnF d (fun j => m.testBit j) (stN (ofR l) 64) := ⟨_, rfl⟩
  have hsl : st.1.length ≤ 64 := by rw [hst]; exact rnF_64 _ _ _
  rw [← hst] at HLaw hRC ⊢
  have HRC := Lib.hid hRC
  have bs := hB7.size
  have bs6 := hB6.size
  have lt6 : w5.heap.size + 1 < w6.heap.size := World.block_lt_of_cell? _ _ ((cell_of_row _ _ 0 _ _ _ hi6).trans (tkA_at (fun _ => false) 0 (by decide)))
  have f7 : w7.heap[w5.heap.size]? = some (.cells (tkA F) 41 (0, 0)) := (hB7.block _ (by omega)).trans hf6
  have i7 : w7.heap[w5.heap.size + 1]? = some (.cells (tkA (covB (st.1.take 0))) 41 (0, 0)) := (hB7.block _ (by omega)).trans hi6
  have h7 := keepC hB7 (keepC hB6 hb7)
  have HR7 := Lib.hid (HR6.below hB7)
  have HB7 := Lib.hid (trans' HB5.out (trans' hB6 hB7))
  have HD7 := Lib.hid (trans' HD5.out (trans' hB6 hB7))
  have HI7 := Lib.hid i7
  have HF7 := Lib.hid f7
  have H7 := Lib.hid h7
  have HL7 := Lib.hid hl7
  have HL5 := Lib.hid hl5
  clear hst hRC hown hB7 hB6 HR6 HR5 HB5 hr9 hr9' hrow' hb7' hw6 hf6 hi6 hb7 i7 f7 h7 hz
  go_wp2_with fail
  go_loopw [13, 14, 15, 16, 17] (fun la iv _ _ _ wr => ∃ k : Nat, k ≤ st.1.length ∧ iv = .int .i64 k ∧ la = .int .i64 (lastR (st.1.take k)) ∧ Hid (wr.heap[w5.heap.size + 1]? = some (Obj.cells (tkA (covB (st.1.take k))) 41 (0, 0))) ∧ Hid (w7.grownBy wr (some (w5.heap.size + 1)))) (fun _ iv _ _ _ _ => st.1.length - (intOf iv).toNat)
  case atStart => exact ⟨0, by omega, rfl, rfl, HI7.out, ⟨rfl, rfl, rfl, Nat.le_refl _, fun _ _ _ => rfl⟩⟩
  case round =>
    obtain ⟨k, hk, rfl, rfl, HI, HG⟩ := hrel
    by_cases hlt : k < st.1.length
    · obtain ⟨⟨x1, x2⟩, hx⟩ : ∃ x, st.1[k]? = some x := ⟨_, List.getElem?_eq_getElem hlt⟩
      obtain ⟨rb, rfl, hrb, p0, p1⟩ := HRC.out k _ hx
      obtain ⟨e0, e1, e2, e3⟩ := HLaw.out.each _ (List.mem_of_getElem? hx)
      have hle := HLaw.out.left _ (List.mem_of_getElem? hx)
      have hri := HLaw.out.right _ (List.mem_of_getElem? hx)
      have hup := HLaw.out.rise hx
      dsimp only at p0 p1 e0 e1 e2 e3 hle hri hup
      have p0 := grownP_cell HG.out p0 (by omega)
      have p1 := grownP_cell HG.out p1 (by omega)
      have HX := Lib.hid hx
      clear hx
      generalize lastR (st.1.take k) = la at hup
      have hcl : 0 < x1 % 8 → wr.cell? ⟨w5.heap.size, x1.toNat - 1, none⟩ = some (.bool false) := fun h => by
        rw [← hle h, show (x1 - 1).toNat = x1.toNat - 1 by omega]
        exact (cell_of_row _ _ _ _ _ _ (grownP_row HG.out (by omega) HF7.out (by omega))).trans (tkA_at _ _ (by omega))
      have hcr : 0 < (x1 + x2) % 8 → wr.cell? ⟨w5.heap.size, (x1 + x2).toNat, none⟩ = some (.bool false) := fun h => by
        rw [← hri h (by omega)]
        exact (cell_of_row _ _ _ _ _ _ (grownP_row HG.out (by omega) HF7.out (by omega))).trans (tkA_at _ _ (by omega))
      clear hle hri
      have a1 : ¬ (x1 ≤ la) := by omega
      have a2 : ¬ (x2 < 1) := by omega
      have a3 : ¬ (64 < x1 + x2) := by omega
      obtain ⟨x8, h8⟩ : ∃ x8, x1 % 8 = x8 := ⟨_, rfl⟩
      obtain ⟨y8, h9⟩ : ∃ y8, (x1 + x2) % 8 = y8 := ⟨_, rfl⟩
      rw [h8] at hcl
      rw [h9] at hcr
      have hL : (0 < x8 ∧ wr.cell? ⟨w5.heap.size, x1.toNat - 1, none⟩ = some (.bool false)) ∨ ¬ 0 < x8 := by
        by_cases c : 0 < x8
        · exact .inl ⟨c, hcl c⟩
        · exact .inr c
      have hR : (0 < y8 ∧ wr.cell? ⟨w5.heap.size, (x1 + x2).toNat, none⟩ = some (.bool false)) ∨ ¬ 0 < y8 := by
        by_cases c : 0 < y8
        · exact .inl ⟨c, hcr c⟩
        · exact .inr c
      clear hcl hcr
      have hIz : Hid (∀ n, (wr.drewN n).heap[w5.heap.size + 1]? = some (Obj.cells (tkA (covJ (st.1.take k) (x1, x2) x1)) 41 (0, 0))) := fun n => by
        have h := HI.out
        rw [covJ_zero _ (x1, x2)] at h
        exact h
      have hGz : Hid (∀ n, w7.grownBy (wr.drewN n) (some (w5.heap.size + 1))) := fun n => ⟨HG.out.os, HG.out.tape, HG.out.output, HG.out.size, HG.out.block⟩
      clear HI HG
      rcases hL with ⟨c8, q0⟩ | c8 <;> rcases hR with ⟨c9, q1⟩ | c9
      all_goals
        go_wp2_with fail
        go_quiet (fail)
        go_wp2_with fail
        go_loopw [17] (fun jv wi => ∃ j : Int, x1 ≤ j ∧ j ≤ x1 + x2 ∧ jv = .int .i64 j ∧ Hid (wi.heap[w5.heap.size + 1]? = some (Obj.cells (tkA (covJ (st.1.take k) (x1, x2) j)) 41 (0, 0))) ∧ Hid (w7.grownBy wi (some (w5.heap.size + 1)))) (fun jv _ => (x1 + x2 - intOf jv).toNat)
        case atStart => exact ⟨x1, by omega, by omega, rfl, hIz.out _, hGz.out _⟩
        case round =>
          obtain ⟨j, hj1, hj2, rfl, HI, HG⟩ := hrel
          by_cases hjl : j < x1 + x2
          · have hc : wr.cell? ⟨w5.heap.size + 1, j.toNat, none⟩ = some (.bool (covJ (st.1.take k) (x1, x2) j j.toNat)) := (cell_of_row _ _ _ _ _ _ HI.out).trans (tkA_at _ _ (by omega))
            have hf := frozen_of_row wr (w5.heap.size + 1) j.toNat _ _ HI.out
            generalize covJ (st.1.take k) (x1, x2) j j.toNat = old at hc
            go_wp2_with fail
            go_roundw
            case rel => exact ⟨j + 1, by omega, by omega, by go_num, Lib.hid (by
                rw [heap_setCell_same wr _ _ _ _ _ HI.out]
                exact congrArg (fun z => some (Obj.cells z 41 (0, 0))) (covJ_step _ _ _ (by dsimp only; omega) (by dsimp only; omega) (by omega))), grown_trans HG.out (grown_set _ _ _)⟩
            case measure => simp [intOf]; omega
          · obtain rfl : j = x1 + x2 := by omega
            go_wp2_with fail
            go_roundw
            case rel => exact ⟨k + 1, by omega, by go_num, by rw [take_snoc HX.out, lastR_snoc], Lib.hid (by
                rw [take_snoc HX.out, ← covJ_end]
                exact HI.out), HG⟩
            case measure => simp [intOf]; omega
    · obtain rfl : k = st.1.length := by omega
      have hI : wr.heap[w5.heap.size + 1]? = some (Obj.cells (tkA F) 41 (0, 0)) := by
        have h := HI.out
        rw [List.take_length, covB_all HLaw.out] at h
        exact h
      have hF := grownP_row HG.out (by omega) HF7.out (by omega)
      have hc7 := grownP_cell HG.out H7.out (by omega)
      have hB28 : Below w2.heap.size w2 wr := below_grown HD7.out HG.out (by omega) (by omega)
      have hB8 : Below w.heap.size w wr := below_grown HB7.out HG.out (by have := HB2s.out; omega) (by omega)
      have HR8 := Lib.hid (HRo.out.below hB28)
      have HB8 := Lib.hid hB8
      have HD8 := Lib.hid hB28
      have hne := flags_same F
      clear HI HG hB28 hB8
      go_wp2_with (first | (refine wpList_load_row rfl 41 (.tmp 11) rfl (w5.heap.size + 1) rfl 41 (tkA F) (0, 0) _ hI Try.underlying41 rfl (tk_info _) ?_) | (refine wpList_load_row rfl 41 (.tmp 10) rfl w5.heap.size rfl 41 (tkA F) (0, 0) _ hF Try.underlying41 rfl (tk_info _) ?_))
      refine (seatsl_any _ _ _ HR8.out (by have := ofR_len l; omega)).mono ?_
      rintro e w8 ⟨v8, rfl, hown, hB⟩
      have hSL := fun k x hx => seat_cells hown k x hx
      obtain ⟨As, cs, rfl⟩ := own_opn' hown
      have HSL := Lib.hid hSL
      have hc8 := keepC hB hc7
      have HR9 := Lib.hid (HR8.out.below hB)
      have HB9 := Lib.hid (trans' HB8.out hB)
      have HD9 := Lib.hid (trans' HD8.out hB)
      have hs9 := hB.size
      have hs64 := sts_len (ofR l)
      clear hSL hown hB HR8 HB8 hI hF hc7 hne
      go_wp2_with fail
      obtain ⟨w9, hw9⟩ : ∃ w9, w9 = w8.alloc (.cells (tkA (fun _ => false)) 41) := ⟨_, rfl⟩
      have hB9 : Below w8.heap.size w8 w9 := by rw [hw9]; exact (Below.refl _ _).alloc (Nat.le_refl _) _
      have hh9 : w9.heap[w8.heap.size]? = some (.cells (tkA (hasT ((sts (ofR l)).take 0))) 41 (0, 0)) := by rw [hw9]; exact heap_alloc_new _ _
      have hs10 : w9.heap.size = w8.heap.size + 1 := by rw [hw9]; simp
      have hz : tkA (fun _ => false) = #[.bool false, .bool false, .bool false, .bool false, .bool false, .bool false, .bool false, .bool false, .bool false, .bool false, .bool false, .bool false, .bool false, .bool false, .bool false, .bool false, .bool false, .bool false, .bool false, .bool false, .bool false, .bool false, .bool false, .bool false, .bool false, .bool false, .bool false, .bool false, .bool false, .bool false, .bool false, .bool false, .bool false, .bool false, .bool false, .bool false, .bool false, .bool false, .bool false, .bool false, .bool false, .bool false, .bool false, .bool false, .bool false, .bool false, .bool false, .bool false, .bool false, .bool false, .bool false, .bool false, .bool false, .bool false, .bool false, .bool false, .bool false, .bool false, .bool false, .bool false, .bool false, .bool false, .bool false, .bool false] := rfl
      rw [hz] at hw9
      rw [← hw9]
      clear hw9 hz
      have hc9 := Lib.hid (keepC hB9 hc8)
      have HRA := Lib.hid (HR9.out.below hB9)
      have HBA := Lib.hid (trans' HB9.out hB9)
      have HDA := Lib.hid (trans' HD9.out hB9)
      have HSA : Hid (∀ k x, (sts (ofR l))[k]? = some x → ∃ b, As = some ⟨b, 0, none⟩ ∧ b < w8.heap.size ∧ w9.cell? ⟨b, k, none⟩ = some (.int .i64 x.1)) := fun k x hx => by
        obtain ⟨b, ⟨_, e⟩, h⟩ := HSL.out k x hx
        injection e with e
        exact ⟨b, e, World.block_lt_of_cell? _ _ h, keepC hB9 h⟩
      have HHA := Lib.hid hh9
      have hc8l : w2.heap.size < w8.heap.size := World.block_lt_of_cell? _ _ hc8
      clear hB9 hc8 HR9 HB9 HSL hh9
      go_loopw [20] (fun iv wr => ∃ k : Nat, k ≤ (sts (ofR l)).length ∧ iv = .int .i64 k ∧ Hid (wr.heap[w8.heap.size]? = some (Obj.cells (tkA (hasT ((sts (ofR l)).take k))) 41 (0, 0))) ∧ Hid (w9.grownBy wr (some w8.heap.size))) (fun iv _ => (sts (ofR l)).length - (intOf iv).toNat)
      case atStart => exact ⟨0, by omega, rfl, HHA.out, ⟨rfl, rfl, rfl, Nat.le_refl _, fun _ _ _ => rfl⟩⟩
      case round =>
        clear HHA
        obtain ⟨k, hk, rfl, HI, HG⟩ := hrel
        by_cases hlt : k < (sts (ofR l)).length
        · obtain ⟨⟨x1, x2⟩, hx⟩ : ∃ x, (sts (ofR l))[k]? = some x := ⟨_, List.getElem?_eq_getElem hlt⟩
          obtain ⟨rb, rfl, hrb, p0⟩ := HSA.out k _ hx
          obtain ⟨e0, e1, _⟩ := sts_in (List.mem_of_getElem? hx)
          have p0 := grownP_cell HG.out p0 (by omega)
          dsimp only at e0 e1 p0
          have HX := Lib.hid hx
          have hup := fun y => sts_up (y := y) hx
          clear hx
          have hP : (0 < k ∧ ∃ (j : Nat) (y1 : Int), j + 1 = k ∧ y1 < x1 ∧ wr.cell? ⟨rb, j, none⟩ = some (.int .i64 y1)) ∨ ¬ 0 < k := by
            by_cases c : 0 < k
            · obtain ⟨⟨y1, y2⟩, hy⟩ : ∃ x, (sts (ofR l))[k - 1]? = some x := ⟨_, List.getElem?_eq_getElem (by omega)⟩
              obtain ⟨rb', h, _, q0⟩ := HSA.out _ _ hy
              injection h with h
              injection h with h
              subst h
              exact .inl ⟨c, k - 1, y1, by omega, hup _ c hy, grownP_cell HG.out q0 (by omega)⟩
            · exact .inr c
          clear hup
          have hf := frozen_of_row wr w8.heap.size x1.toNat _ _ HI.out
          have hc : wr.cell? ⟨w8.heap.size, x1.toNat, none⟩ = some (.bool (hasT ((sts (ofR l)).take k) x1.toNat)) := (cell_of_row _ _ _ _ _ _ HI.out).trans (tkA_at _ _ (by omega))
          generalize hasT ((sts (ofR l)).take k) x1.toNat = old at hc
          have a1 : ¬ (x1 < 0) := by omega
          have a2 : ¬ (63 < x1) := by omega
          have hIz : Hid (∀ n, (wr.drewN n).heap[w8.heap.size]? = some (Obj.cells (tkA (hasT ((sts (ofR l)).take k))) 41 (0, 0))) := fun n => HI.out
          have hGz : Hid (∀ n, w9.grownBy (wr.drewN n) (some w8.heap.size)) := fun n => ⟨HG.out.os, HG.out.tape, HG.out.output, HG.out.size, HG.out.block⟩
          clear HI HG
          have d1 : decide (x1 < 0) = false := decide_eq_false (by omega)
          have d2 : decide (63 < x1) = false := decide_eq_false (by omega)
          rcases hP with ⟨hk0, j, y1, hj, hy1, p1⟩ | hk0
          · have hw1 : IntKind.i64.wrap ((k : Int) - 1) = (j : Int) := by
              rw [IntWalk.i64_in _ (by omega)]
              omega
            have hjl : j < (sts (ofR l)).length := by omega
            have d3 : decide (x1 ≤ y1) = false := decide_eq_false (by omega)
            go_wp2_with fail
            go_quiet (fail)
            go_wp2_with fail
            go_roundw
            case rel => exact ⟨k + 1, by omega, by go_num, Lib.hid (by
                rw [heap_setCell_same _ _ _ _ _ _ (hIz.out _), take_snoc HX.out]
                exact congrArg (fun z => some (Obj.cells z 41 (0, 0))) (hasT_step _ (x1, x2) e0 e1)), grown_trans (hGz.out _) (grown_set _ _ _)⟩
            case measure => simp [intOf]; omega
          · go_wp2_with fail
            go_quiet (fail)
            go_wp2_with fail
            go_roundw
            case rel => exact ⟨k + 1, by omega, by go_num, Lib.hid (by
                rw [heap_setCell_same _ _ _ _ _ _ (hIz.out _), take_snoc HX.out]
                exact congrArg (fun z => some (Obj.cells z 41 (0, 0))) (hasT_step _ (x1, x2) e0 e1)), grown_trans (hGz.out _) (grown_set _ _ _)⟩
            case measure => simp [intOf]; omega
        · obtain rfl : k = (sts (ofR l)).length := by omega
          have hB10 : Below w8.heap.size w9 wr := (Below.refl _ _).grown HG.out (by omega) (fun q hq => by injection hq with hq; omega)
          have hI : wr.heap[w8.heap.size]? = some (Obj.cells (tkA (hasT (sts (ofR l)))) 41 (0, 0)) := by
            have h := HI.out
            rw [List.take_length] at h
            exact h
          have HIa := Lib.hid hI
          have hl10 : w8.heap.size < wr.heap.size := World.block_lt_of_cell? _ _ ((cell_of_row _ _ 0 _ _ _ hI).trans (tkA_at _ 0 (by decide)))
          have hca := Lib.hid (grownP_cell HG.out hc9.out (by omega))
          have HBB := Lib.hid (below_grown HBA.out HG.out (by have := HB2s.out; omega) (by omega))
          have HRB : Hid (RdH wr (.slice a (ofR l).length cp) (ofR l)) := HRo.out.below (below_grown HDA.out HG.out (by omega) (by omega))
          clear HI HG hI hB10
          go_wp2_with fail
          obtain ⟨wk, hwk⟩ : ∃ wk, wk = wr := ⟨_, rfl⟩
          rw [← hwk] at HIa hl10 hca HBB HRB ⊢
          clear hwk
          go_loopw [21, 22] (fun iv _ wr => ∃ i : Int, -1 ≤ i ∧ i ≤ 65 ∧ iv = .int .i64 i ∧ Hid (Below wk.heap.size wk wr)) (fun iv _ _ => (65 - intOf iv).toNat)
          case atStart => exact ⟨-1, by omega, by omega, rfl, Below.refl _ _⟩
          case round =>
            obtain ⟨i, hi0, hi1, rfl, HB⟩ := hrel
            by_cases hlt : i ≤ 64
            · have hch : wr.cell? ⟨w2.heap.size, 0, none⟩ = some (.slice a (ofR l).length cp) := keepC HB.out hca.out
              have HRr := Lib.hid (HRB.out.below HB.out)
              have hof := ofR_len l
              have hI3 : wr.heap[w8.heap.size]? = some (Obj.cells (tkA (hasT (sts (ofR l)))) 41 (0, 0)) := (HB.out.block _ hl10).trans HIa.out
              by_cases hin : 0 ≤ i ∧ i < 64
              · have hcI : wr.cell? ⟨w8.heap.size, i.toNat, none⟩ = some (.bool (hasS (ofR l) i)) := by
                  rw [← hasT_all _ _ hin.1]
                  exact (cell_of_row _ _ _ _ _ _ hI3).trans (tkA_at _ _ (by omega))
                obtain ⟨hin0, hin1⟩ := hin
                cases hb : hasS (ofR l) i with
                | true =>
                  rw [hb] at hcI
                  obtain ⟨⟨r1, r2⟩, hr, hcl⟩ := hasS_row hb
                  obtain ⟨b, o, e, q0⟩ := rdH_at HRr.out _ _ hr
                  obtain ⟨q, hq⟩ : ∃ q : Nat, q = i.toNat / 8 := ⟨_, rfl⟩
                  rw [← hq] at hr q0
                  have hql : q < (ofR l).length := (List.getElem?_eq_some_iff.1 hr).1
                  have hq1 : i / 8 = (q : Int) := by omega
                  have hq2 : i.tdiv 8 = (q : Int) := by rw [Int.tdiv_eq_ediv_of_nonneg hin0]; exact hq1
                  have hq4 : (0 : Int) ≤ (q : Int) := by omega
                  have hq5 : (q : Int) < ((ofR l).length : Int) := by omega
                  have hq3 : IntKind.i64.wrap (i.tdiv 8) = (q : Int) := by rw [hq2, IntWalk.i64_in _ (by omega)]
                  subst e
                  have HHS := Lib.hid hb
                  have HCL := Lib.hid hcl
                  clear hb hcl hr hq hq1 hq2
                  dsimp only at q0
                  have Q0 := Lib.hid q0
                  have HCI := Lib.hid hcI
                  clear hI3 q0
                  go_wp2_with fail
                  have hof8 : (ofR l).length ≤ 140737488355328 := by omega
                  refine wp_region_held_drew (S := fun w' => (w'.cell? ⟨w2.heap.size, 0, none⟩ = some (.slice (some ⟨b, o, none⟩) (ofR l).length cp) ∧ w'.cell? ⟨b, o + q * 2, none⟩ = some (.int .i64 r1)) ∧ Below wk.heap.size wk w') (by kernel_rfl) ?hSsa (fun hHeld => ?restSa)
                  case hSsa => exact ⟨⟨hch, Q0.out⟩, HB.out.drew⟩
                  refine wpAnyH_take (i := 0) (v := ?v0a) rfl (by kernel_rfl) (by kernel_rfl) (by kernel_rfl) (fun _ _ _ h => h) (Or.inl ⟨by rfl, ?hy0a⟩) (by assumption) ?rest0a
                  case hy0a =>
                    intro w hSw
                    (try dsimp only at hSw)
                    go_simp
                    all_goals with_reducible rfl
                  try simp only [Act.put, List.getElem_toArray, List.getElem_cons_succ, List.getElem_cons_zero, List.setIfInBounds_toArray, List.set_cons_zero, List.set_cons_succ]
                  refine wpAnyH_take (i := 1) (v := ?v1a) rfl (by kernel_rfl) (by kernel_rfl) (by kernel_rfl) (fun _ _ _ h => h) (Or.inl ⟨by rfl, ?hy1a⟩) (by assumption) ?rest1a
                  case hy1a =>
                    intro w hSw
                    (try dsimp only at hSw)
                    go_simp
                    all_goals with_reducible rfl
                  try simp only [Act.put, List.getElem_toArray, List.getElem_cons_succ, List.getElem_cons_zero, List.setIfInBounds_toArray, List.set_cons_zero, List.set_cons_succ]
                  refine wpAnyH_take (i := 3) (v := ?v3a) rfl (by kernel_rfl) (by kernel_rfl) (by kernel_rfl) (fun _ _ _ h => h) (Or.inl ⟨by rfl, ?hy3a⟩) (by assumption) ?rest3a
                  case hy3a =>
                    intro w hSw
                    (try dsimp only at hSw)
                    go_simp
                    all_goals with_reducible rfl
                  try simp only [Act.put, List.getElem_toArray, List.getElem_cons_succ, List.getElem_cons_zero, List.setIfInBounds_toArray, List.set_cons_zero, List.set_cons_succ]
                  refine wpAnyH_ready (rs := [2]) (by kernel_rfl) (by simp) ?_
                  refine AllReadyH.cons rfl (fun K hK => ?_) AllReadyH.nil
                  try go_simp
                  go_at_call 15
                  refine (has_val _ (ofR l) i true _ (HRB.out.below hHeld.2) hof8 HHS.out).mono ?_
                  rintro e w5 ⟨rfl, hBs⟩
                  refine hK.out _ _ ?hSc2a (fun hHeld => ?restc2a)
                  case hSc2a => exact ⟨⟨keepC hBs hHeld.1.1, keepC hBs hHeld.1.2⟩, trans' hHeld.2 hBs⟩
                  clear hK K
                  try simp only [Act.put, List.getElem_toArray, List.getElem_cons_succ, List.getElem_cons_zero, List.setIfInBounds_toArray, List.set_cons_zero, List.set_cons_succ]
                  refine wpAnyH_take (i := 4) (v := ?v4a) rfl (by kernel_rfl) (by kernel_rfl) (by kernel_rfl) (fun _ _ _ h => h) (Or.inl ⟨by rfl, ?hy4a⟩) (by assumption) ?rest4a
                  case hy4a =>
                    intro w hSw
                    (try dsimp only at hSw)
                    go_simp
                    all_goals with_reducible rfl
                  try simp only [Act.put, List.getElem_toArray, List.getElem_cons_succ, List.getElem_cons_zero, List.setIfInBounds_toArray, List.set_cons_zero, List.set_cons_succ]
                  refine wpAnyH_take (i := 5) (v := ?v5a) rfl (by kernel_rfl) (by kernel_rfl) (by kernel_rfl) (fun _ _ _ h => h) (Or.inl ⟨by rfl, ?hy5a⟩) (by assumption) ?rest5a
                  case hy5a =>
                    intro w hSw
                    (try dsimp only at hSw)
                    go_simp
                    all_goals with_reducible rfl
                  try simp only [Act.put, List.getElem_toArray, List.getElem_cons_succ, List.getElem_cons_zero, List.setIfInBounds_toArray, List.set_cons_zero, List.set_cons_succ]
                  refine wpAnyH_take (i := 6) (v := ?v6a) rfl (by kernel_rfl) (by kernel_rfl) (by kernel_rfl) (fun _ _ _ h => h) (Or.inl ⟨by rfl, ?hy6a⟩) (by assumption) ?rest6a
                  case hy6a =>
                    intro w hSw
                    (try dsimp only at hSw)
                    go_simp
                    all_goals with_reducible rfl
                  try simp only [Act.put, List.getElem_toArray, List.getElem_cons_succ, List.getElem_cons_zero, List.setIfInBounds_toArray, List.set_cons_zero, List.set_cons_succ]
                  refine wpAnyH_take (i := 7) (v := ?v7a) rfl (by kernel_rfl) (by kernel_rfl) (by kernel_rfl) (fun _ _ _ h => h) (Or.inl ⟨by rfl, ?hy7a⟩) (by assumption) ?rest7a
                  case hy7a =>
                    intro w hSw
                    (try dsimp only at hSw)
                    go_simp
                    all_goals with_reducible rfl
                  try simp only [Act.put, List.getElem_toArray, List.getElem_cons_succ, List.getElem_cons_zero, List.setIfInBounds_toArray, List.set_cons_zero, List.set_cons_succ]
                  refine wpAnyH_take (i := 8) (v := ?v8a) rfl (by kernel_rfl) (by kernel_rfl) (by kernel_rfl) (fun _ _ _ h => h) (Or.inl ⟨by rfl, ?hy8a⟩) (by assumption) ?rest8a
                  case hy8a =>
                    intro w hSw
                    (try dsimp only at hSw)
                    go_simp
                    all_goals with_reducible rfl
                  try simp only [Act.put, List.getElem_toArray, List.getElem_cons_succ, List.getElem_cons_zero, List.setIfInBounds_toArray, List.set_cons_zero, List.set_cons_succ]
                  refine wpAnyH_take (i := 9) (v := ?v9a) rfl (by kernel_rfl) (by kernel_rfl) (by kernel_rfl) (fun _ _ _ h => h) (Or.inl ⟨by rfl, ?hy9a⟩) (by assumption) ?rest9a
                  case hy9a =>
                    intro w hSw
                    (try dsimp only at hSw)
                    go_simp
                    all_goals with_reducible rfl
                  try simp only [Act.put, List.getElem_toArray, List.getElem_cons_succ, List.getElem_cons_zero, List.setIfInBounds_toArray, List.set_cons_zero, List.set_cons_succ]
                  refine wpAnyH_take (i := 11) (v := ?v11a) rfl (by kernel_rfl) (by kernel_rfl) (by kernel_rfl) (fun _ _ _ h => h) (Or.inl ⟨by rfl, ?hy11a⟩) (by assumption) ?rest11a
                  case hy11a =>
                    intro w hSw
                    (try dsimp only at hSw)
                    go_simp
                    all_goals with_reducible rfl
                  try simp only [Act.put, List.getElem_toArray, List.getElem_cons_succ, List.getElem_cons_zero, List.setIfInBounds_toArray, List.set_cons_zero, List.set_cons_succ]
                  refine wpAnyH_take (i := 12) (v := ?v12a) rfl (by kernel_rfl) (by kernel_rfl) (by kernel_rfl) (fun _ _ _ h => h) (Or.inl ⟨by rfl, ?hy12a⟩) (by assumption) ?rest12a
                  case hy12a =>
                    intro w hSw
                    (try dsimp only at hSw)
                    go_simp
                    all_goals with_reducible rfl
                  try simp only [Act.put, List.getElem_toArray, List.getElem_cons_succ, List.getElem_cons_zero, List.setIfInBounds_toArray, List.set_cons_zero, List.set_cons_succ]
                  refine wpAnyH_take (i := 13) (v := ?v13a) rfl (by kernel_rfl) (by kernel_rfl) (by kernel_rfl) (fun _ _ _ h => h) (Or.inl ⟨by rfl, ?hy13a⟩) (by assumption) ?rest13a
                  case hy13a =>
                    intro w hSw
                    (try dsimp only at hSw)
                    go_simp
                    all_goals with_reducible rfl
                  try simp only [Act.put, List.getElem_toArray, List.getElem_cons_succ, List.getElem_cons_zero, List.setIfInBounds_toArray, List.set_cons_zero, List.set_cons_succ]
                  refine wpAnyH_take (i := 14) (v := ?v14a) rfl (by kernel_rfl) (by kernel_rfl) (by kernel_rfl) (fun _ _ _ h => h) (Or.inl ⟨by rfl, ?hy14a⟩) (by assumption) ?rest14a
                  case hy14a =>
                    intro w hSw
                    (try dsimp only at hSw)
                    go_simp
                    all_goals with_reducible rfl
                  try simp only [Act.put, List.getElem_toArray, List.getElem_cons_succ, List.getElem_cons_zero, List.setIfInBounds_toArray, List.set_cons_zero, List.set_cons_succ]
                  refine wpAnyH_take (i := 15) (v := ?v15a) rfl (by kernel_rfl) (by kernel_rfl) (by kernel_rfl) (fun _ _ _ h => h) (Or.inl ⟨by rfl, ?hy15a⟩) (by assumption) ?rest15a
                  case hy15a =>
                    intro w hSw
                    (try dsimp only at hSw)
                    go_simp
                    all_goals with_reducible rfl
                  try simp only [Act.put, List.getElem_toArray, List.getElem_cons_succ, List.getElem_cons_zero, List.setIfInBounds_toArray, List.set_cons_zero, List.set_cons_succ]
                  refine wpAnyH_take (i := 16) (v := ?v16a) rfl (by kernel_rfl) (by kernel_rfl) (by kernel_rfl) (fun _ _ _ h => h) (Or.inl ⟨by rfl, ?hy16a⟩) (by assumption) ?rest16a
                  case hy16a =>
                    intro w hSw
                    (try dsimp only at hSw)
                    go_simp
                    all_goals with_reducible rfl
                  try simp only [Act.put, List.getElem_toArray, List.getElem_cons_succ, List.getElem_cons_zero, List.setIfInBounds_toArray, List.set_cons_zero, List.set_cons_succ]
                  refine wpAnyH_take (i := 17) (v := ?v17a) rfl (by kernel_rfl) (by kernel_rfl) (by kernel_rfl) (fun _ _ _ h => h) (Or.inl ⟨by rfl, ?hy17a⟩) (by assumption) ?rest17a
                  case hy17a =>
                    intro w hSw
                    (try dsimp only at hSw)
                    go_simp
                    all_goals with_reducible rfl
                  try simp only [Act.put, List.getElem_toArray, List.getElem_cons_succ, List.getElem_cons_zero, List.setIfInBounds_toArray, List.set_cons_zero, List.set_cons_succ]
                  refine wpAnyH_ready (rs := [10]) (by kernel_rfl) (by simp) ?_
                  refine AllReadyH.cons rfl (fun K hK => ?_) AllReadyH.nil
                  try go_simp
                  go_at_call 16
                  refine (class_val _ (ofR l) i r1 _ (HRB.out.below hHeld.2) hof8 HCL.out).mono ?_
                  rintro e w5 ⟨rfl, hBs⟩
                  refine hK.out _ _ ?hSc10a (fun hHeld => ?restc10a)
                  case hSc10a => exact ⟨⟨keepC hBs hHeld.1.1, keepC hBs hHeld.1.2⟩, trans' hHeld.2 hBs⟩
                  clear hK K
                  try simp only [Act.put, List.getElem_toArray, List.getElem_cons_succ, List.getElem_cons_zero, List.setIfInBounds_toArray, List.set_cons_zero, List.set_cons_succ]
                  refine wpAnyH_take (i := 18) (v := ?v18a) rfl (by kernel_rfl) (by kernel_rfl) (by kernel_rfl) (fun _ _ _ h => h) (Or.inl ⟨by rfl, ?hy18a⟩) (by assumption) ?rest18a
                  case hy18a =>
                    intro w hSw
                    (try dsimp only at hSw)
                    go_simp
                    all_goals with_reducible rfl
                  try simp only [Act.put, List.getElem_toArray, List.getElem_cons_succ, List.getElem_cons_zero, List.setIfInBounds_toArray, List.set_cons_zero, List.set_cons_succ]
                  refine wpAnyH_take (i := 19) (v := ?v19a) rfl (by kernel_rfl) (by kernel_rfl) (by kernel_rfl) (fun _ _ _ h => h) (Or.inl ⟨by rfl, ?hy19a⟩) (by assumption) ?rest19a
                  case hy19a =>
                    intro w hSw
                    (try dsimp only at hSw)
                    go_simp
                    all_goals with_reducible rfl
                  try simp only [Act.put, List.getElem_toArray, List.getElem_cons_succ, List.getElem_cons_zero, List.setIfInBounds_toArray, List.set_cons_zero, List.set_cons_succ]
                  refine wpAnyH_take (i := 20) (v := ?v20a) rfl (by kernel_rfl) (by kernel_rfl) (by kernel_rfl) (fun _ _ _ h => h) (Or.inl ⟨by rfl, ?hy20a⟩) (by assumption) ?rest20a
                  case hy20a =>
                    intro w hSw
                    (try dsimp only at hSw)
                    go_simp
                    all_goals with_reducible rfl
                  try simp only [Act.put, List.getElem_toArray, List.getElem_cons_succ, List.getElem_cons_zero, List.setIfInBounds_toArray, List.set_cons_zero, List.set_cons_succ]
                  refine wpAnyH_take (i := 21) (v := ?v21a) rfl (by kernel_rfl) (by kernel_rfl) (by kernel_rfl) (fun _ _ _ h => h) (Or.inl ⟨by rfl, ?hy21a⟩) (by assumption) ?rest21a
                  case hy21a =>
                    intro w hSw
                    (try dsimp only at hSw)
                    go_simp
                    all_goals with_reducible rfl
                  try simp only [Act.put, List.getElem_toArray, List.getElem_cons_succ, List.getElem_cons_zero, List.setIfInBounds_toArray, List.set_cons_zero, List.set_cons_succ]
                  refine wpAnyH_take (i := 22) (v := ?v22a) rfl (by kernel_rfl) (by kernel_rfl) (by kernel_rfl) (fun _ _ _ h => h) (Or.inl ⟨by rfl, ?hy22a⟩) (by assumption) ?rest22a
                  case hy22a =>
                    intro w hSw
                    (try dsimp only at hSw)
                    go_simp
                    all_goals with_reducible rfl
                  try simp only [Act.put, List.getElem_toArray, List.getElem_cons_succ, List.getElem_cons_zero, List.setIfInBounds_toArray, List.set_cons_zero, List.set_cons_succ]
                  refine wpAnyH_take (i := 23) (v := ?v23a) rfl (by kernel_rfl) (by kernel_rfl) (by kernel_rfl) (fun _ _ _ h => h) (Or.inl ⟨by rfl, ?hy23a⟩) (by assumption) ?rest23a
                  case hy23a =>
                    intro w hSw
                    (try dsimp only at hSw)
                    go_simp
                    all_goals with_reducible rfl
                  try simp only [Act.put, List.getElem_toArray, List.getElem_cons_succ, List.getElem_cons_zero, List.setIfInBounds_toArray, List.set_cons_zero, List.set_cons_succ]
                  refine wpAnyH_take (i := 24) (v := ?v24a) rfl (by kernel_rfl) (by kernel_rfl) (by kernel_rfl) (fun _ _ _ h => h) (Or.inl ⟨by rfl, ?hy24a⟩) (by assumption) ?rest24a
                  case hy24a =>
                    intro w hSw
                    (try dsimp only at hSw)
                    go_simp
                    all_goals with_reducible rfl
                  try simp only [Act.put, List.getElem_toArray, List.getElem_cons_succ, List.getElem_cons_zero, List.setIfInBounds_toArray, List.set_cons_zero, List.set_cons_succ]
                  refine wpAnyH_take (i := 25) (v := undef) rfl (by kernel_rfl) (by kernel_rfl) (by kernel_rfl) (fun _ _ _ h => h) (Or.inr ⟨by rfl, rfl⟩) (by assumption) ?_
                  try simp only [Act.put, List.getElem_toArray, List.getElem_cons_succ, List.getElem_cons_zero, List.setIfInBounds_toArray, List.set_cons_zero, List.set_cons_succ]
                  refine wpAnyH_take (i := 26) (v := undef) rfl (by kernel_rfl) (by kernel_rfl) (by kernel_rfl) (fun _ _ _ h => h) (Or.inr ⟨by rfl, rfl⟩) (by assumption) ?_
                  try simp only [Act.put, List.getElem_toArray, List.getElem_cons_succ, List.getElem_cons_zero, List.setIfInBounds_toArray, List.set_cons_zero, List.set_cons_succ]
                  refine wpAnyH_take (i := 27) (v := undef) rfl (by kernel_rfl) (by kernel_rfl) (by kernel_rfl) (fun _ _ _ h => h) (Or.inr ⟨by rfl, rfl⟩) (by assumption) ?_
                  try simp only [Act.put, List.getElem_toArray, List.getElem_cons_succ, List.getElem_cons_zero, List.setIfInBounds_toArray, List.set_cons_zero, List.set_cons_succ]
                  refine wpAnyH_take (i := 28) (v := undef) rfl (by kernel_rfl) (by kernel_rfl) (by kernel_rfl) (fun _ _ _ h => h) (Or.inr ⟨by rfl, rfl⟩) (by assumption) ?_
                  try simp only [Act.put, List.getElem_toArray, List.getElem_cons_succ, List.getElem_cons_zero, List.setIfInBounds_toArray, List.set_cons_zero, List.set_cons_succ]
                  refine wpAnyH_take (i := 29) (v := ?v29a) rfl (by kernel_rfl) (by kernel_rfl) (by kernel_rfl) (fun _ _ _ h => h) (Or.inl ⟨by rfl, ?hy29a⟩) (by assumption) ?rest29a
                  case hy29a =>
                    intro w hSw
                    (try dsimp only at hSw)
                    go_simp
                    all_goals with_reducible rfl
                  try simp only [Act.put, List.getElem_toArray, List.getElem_cons_succ, List.getElem_cons_zero, List.setIfInBounds_toArray, List.set_cons_zero, List.set_cons_succ]
                  refine wpAnyH_take (i := 30) (v := ?v30a) rfl (by kernel_rfl) (by kernel_rfl) (by kernel_rfl) (fun _ _ _ h => h) (Or.inl ⟨by rfl, ?hy30a⟩) (by assumption) ?rest30a
                  case hy30a =>
                    intro w hSw
                    (try dsimp only at hSw)
                    go_simp
                    all_goals with_reducible rfl
                  try simp only [Act.put, List.getElem_toArray, List.getElem_cons_succ, List.getElem_cons_zero, List.setIfInBounds_toArray, List.set_cons_zero, List.set_cons_succ]
                  refine wpAnyH_done (by kernel_rfl) ?_ _
                  go_wp2_with fail
                  go_roundw
                  case rel => exact ⟨i + 1, by omega, by omega, by go_num, hHeld.2⟩
                  case measure => simp [intOf]; omega
                | false =>
                  rw [hb] at hcI
                  have HHS := Lib.hid hb
                  have HCL := Lib.hid (cls_none hb)
                  have hcJ := Lib.hid hcI
                  clear hb hI3
                  clear hcJ
                  go_wp2_with fail
                  have hof8 : (ofR l).length ≤ 140737488355328 := by omega
                  refine wp_region_held_drew (S := fun w' => (w'.cell? ⟨w2.heap.size, 0, none⟩ = some (.slice a (ofR l).length cp)) ∧ Below wk.heap.size wk w') (by kernel_rfl) ?hSsb (fun hHeld => ?restSb)
                  case hSsb => exact ⟨hch, HB.out.drew⟩
                  refine wpAnyH_take (i := 0) (v := ?v0b) rfl (by kernel_rfl) (by kernel_rfl) (by kernel_rfl) (fun _ _ _ h => h) (Or.inl ⟨by rfl, ?hy0b⟩) (by assumption) ?rest0b
                  case hy0b =>
                    intro w hSw
                    (try dsimp only at hSw)
                    go_simp
                    all_goals with_reducible rfl
                  try simp only [Act.put, List.getElem_toArray, List.getElem_cons_succ, List.getElem_cons_zero, List.setIfInBounds_toArray, List.set_cons_zero, List.set_cons_succ]
                  refine wpAnyH_take (i := 1) (v := ?v1b) rfl (by kernel_rfl) (by kernel_rfl) (by kernel_rfl) (fun _ _ _ h => h) (Or.inl ⟨by rfl, ?hy1b⟩) (by assumption) ?rest1b
                  case hy1b =>
                    intro w hSw
                    (try dsimp only at hSw)
                    go_simp
                    all_goals with_reducible rfl
                  try simp only [Act.put, List.getElem_toArray, List.getElem_cons_succ, List.getElem_cons_zero, List.setIfInBounds_toArray, List.set_cons_zero, List.set_cons_succ]
                  refine wpAnyH_take (i := 3) (v := ?v3b) rfl (by kernel_rfl) (by kernel_rfl) (by kernel_rfl) (fun _ _ _ h => h) (Or.inl ⟨by rfl, ?hy3b⟩) (by assumption) ?rest3b
                  case hy3b =>
                    intro w hSw
                    (try dsimp only at hSw)
                    go_simp
                    all_goals with_reducible rfl
                  try simp only [Act.put, List.getElem_toArray, List.getElem_cons_succ, List.getElem_cons_zero, List.setIfInBounds_toArray, List.set_cons_zero, List.set_cons_succ]
                  refine wpAnyH_ready (rs := [2]) (by kernel_rfl) (by simp) ?_
                  refine AllReadyH.cons rfl (fun K hK => ?_) AllReadyH.nil
                  try go_simp
                  go_at_call 15
                  refine (has_val _ (ofR l) i false _ (HRB.out.below hHeld.2) hof8 HHS.out).mono ?_
                  rintro e w5 ⟨rfl, hBs⟩
                  refine hK.out _ _ ?hSc2b (fun hHeld => ?restc2b)
                  case hSc2b => exact ⟨keepC hBs hHeld.1, trans' hHeld.2 hBs⟩
                  clear hK K
                  try simp only [Act.put, List.getElem_toArray, List.getElem_cons_succ, List.getElem_cons_zero, List.setIfInBounds_toArray, List.set_cons_zero, List.set_cons_succ]
                  refine wpAnyH_take (i := 4) (v := ?v4b) rfl (by kernel_rfl) (by kernel_rfl) (by kernel_rfl) (fun _ _ _ h => h) (Or.inl ⟨by rfl, ?hy4b⟩) (by assumption) ?rest4b
                  case hy4b =>
                    intro w hSw
                    (try dsimp only at hSw)
                    go_simp
                    all_goals with_reducible rfl
                  try simp only [Act.put, List.getElem_toArray, List.getElem_cons_succ, List.getElem_cons_zero, List.setIfInBounds_toArray, List.set_cons_zero, List.set_cons_succ]
                  refine wpAnyH_take (i := 5) (v := ?v5b) rfl (by kernel_rfl) (by kernel_rfl) (by kernel_rfl) (fun _ _ _ h => h) (Or.inl ⟨by rfl, ?hy5b⟩) (by assumption) ?rest5b
                  case hy5b =>
                    intro w hSw
                    (try dsimp only at hSw)
                    go_simp
                    all_goals with_reducible rfl
                  try simp only [Act.put, List.getElem_toArray, List.getElem_cons_succ, List.getElem_cons_zero, List.setIfInBounds_toArray, List.set_cons_zero, List.set_cons_succ]
                  refine wpAnyH_take (i := 6) (v := ?v6b) rfl (by kernel_rfl) (by kernel_rfl) (by kernel_rfl) (fun _ _ _ h => h) (Or.inl ⟨by rfl, ?hy6b⟩) (by assumption) ?rest6b
                  case hy6b =>
                    intro w hSw
                    (try dsimp only at hSw)
                    go_simp
                    all_goals with_reducible rfl
                  try simp only [Act.put, List.getElem_toArray, List.getElem_cons_succ, List.getElem_cons_zero, List.setIfInBounds_toArray, List.set_cons_zero, List.set_cons_succ]
                  refine wpAnyH_take (i := 7) (v := ?v7b) rfl (by kernel_rfl) (by kernel_rfl) (by kernel_rfl) (fun _ _ _ h => h) (Or.inl ⟨by rfl, ?hy7b⟩) (by assumption) ?rest7b
                  case hy7b =>
                    intro w hSw
                    (try dsimp only at hSw)
                    go_simp
                    all_goals with_reducible rfl
                  try simp only [Act.put, List.getElem_toArray, List.getElem_cons_succ, List.getElem_cons_zero, List.setIfInBounds_toArray, List.set_cons_zero, List.set_cons_succ]
                  refine wpAnyH_take (i := 8) (v := undef) rfl (by kernel_rfl) (by kernel_rfl) (by kernel_rfl) (fun _ _ _ h => h) (Or.inr ⟨by rfl, rfl⟩) (by assumption) ?_
                  try simp only [Act.put, List.getElem_toArray, List.getElem_cons_succ, List.getElem_cons_zero, List.setIfInBounds_toArray, List.set_cons_zero, List.set_cons_succ]
                  refine wpAnyH_take (i := 9) (v := undef) rfl (by kernel_rfl) (by kernel_rfl) (by kernel_rfl) (fun _ _ _ h => h) (Or.inr ⟨by rfl, rfl⟩) (by assumption) ?_
                  try simp only [Act.put, List.getElem_toArray, List.getElem_cons_succ, List.getElem_cons_zero, List.setIfInBounds_toArray, List.set_cons_zero, List.set_cons_succ]
                  refine wpAnyH_take (i := 11) (v := undef) rfl (by kernel_rfl) (by kernel_rfl) (by kernel_rfl) (fun _ _ _ h => h) (Or.inr ⟨by rfl, rfl⟩) (by assumption) ?_
                  try simp only [Act.put, List.getElem_toArray, List.getElem_cons_succ, List.getElem_cons_zero, List.setIfInBounds_toArray, List.set_cons_zero, List.set_cons_succ]
                  refine wpAnyH_take (i := 12) (v := undef) rfl (by kernel_rfl) (by kernel_rfl) (by kernel_rfl) (fun _ _ _ h => h) (Or.inr ⟨by rfl, rfl⟩) (by assumption) ?_
                  try simp only [Act.put, List.getElem_toArray, List.getElem_cons_succ, List.getElem_cons_zero, List.setIfInBounds_toArray, List.set_cons_zero, List.set_cons_succ]
                  refine wpAnyH_take (i := 13) (v := undef) rfl (by kernel_rfl) (by kernel_rfl) (by kernel_rfl) (fun _ _ _ h => h) (Or.inr ⟨by rfl, rfl⟩) (by assumption) ?_
                  try simp only [Act.put, List.getElem_toArray, List.getElem_cons_succ, List.getElem_cons_zero, List.setIfInBounds_toArray, List.set_cons_zero, List.set_cons_succ]
                  refine wpAnyH_take (i := 14) (v := undef) rfl (by kernel_rfl) (by kernel_rfl) (by kernel_rfl) (fun _ _ _ h => h) (Or.inr ⟨by rfl, rfl⟩) (by assumption) ?_
                  try simp only [Act.put, List.getElem_toArray, List.getElem_cons_succ, List.getElem_cons_zero, List.setIfInBounds_toArray, List.set_cons_zero, List.set_cons_succ]
                  refine wpAnyH_take (i := 15) (v := undef) rfl (by kernel_rfl) (by kernel_rfl) (by kernel_rfl) (fun _ _ _ h => h) (Or.inr ⟨by rfl, rfl⟩) (by assumption) ?_
                  try simp only [Act.put, List.getElem_toArray, List.getElem_cons_succ, List.getElem_cons_zero, List.setIfInBounds_toArray, List.set_cons_zero, List.set_cons_succ]
                  refine wpAnyH_take (i := 16) (v := undef) rfl (by kernel_rfl) (by kernel_rfl) (by kernel_rfl) (fun _ _ _ h => h) (Or.inr ⟨by rfl, rfl⟩) (by assumption) ?_
                  try simp only [Act.put, List.getElem_toArray, List.getElem_cons_succ, List.getElem_cons_zero, List.setIfInBounds_toArray, List.set_cons_zero, List.set_cons_succ]
                  refine wpAnyH_take (i := 17) (v := undef) rfl (by kernel_rfl) (by kernel_rfl) (by kernel_rfl) (fun _ _ _ h => h) (Or.inr ⟨by rfl, rfl⟩) (by assumption) ?_
                  try simp only [Act.put, List.getElem_toArray, List.getElem_cons_succ, List.getElem_cons_zero, List.setIfInBounds_toArray, List.set_cons_zero, List.set_cons_succ]
                  refine wpAnyH_take (i := 10) (v := undef) rfl (by kernel_rfl) (by kernel_rfl) (by kernel_rfl) (fun _ _ _ h => h) (Or.inr ⟨by rfl, rfl⟩) (by assumption) ?_
                  try simp only [Act.put, List.getElem_toArray, List.getElem_cons_succ, List.getElem_cons_zero, List.setIfInBounds_toArray, List.set_cons_zero, List.set_cons_succ]
                  refine wpAnyH_take (i := 18) (v := undef) rfl (by kernel_rfl) (by kernel_rfl) (by kernel_rfl) (fun _ _ _ h => h) (Or.inr ⟨by rfl, rfl⟩) (by assumption) ?_
                  try simp only [Act.put, List.getElem_toArray, List.getElem_cons_succ, List.getElem_cons_zero, List.setIfInBounds_toArray, List.set_cons_zero, List.set_cons_succ]
                  refine wpAnyH_take (i := 19) (v := ?v19b) rfl (by kernel_rfl) (by kernel_rfl) (by kernel_rfl) (fun _ _ _ h => h) (Or.inl ⟨by rfl, ?hy19b⟩) (by assumption) ?rest19b
                  case hy19b =>
                    intro w hSw
                    (try dsimp only at hSw)
                    go_simp
                    all_goals with_reducible rfl
                  try simp only [Act.put, List.getElem_toArray, List.getElem_cons_succ, List.getElem_cons_zero, List.setIfInBounds_toArray, List.set_cons_zero, List.set_cons_succ]
                  refine wpAnyH_take (i := 20) (v := ?v20b) rfl (by kernel_rfl) (by kernel_rfl) (by kernel_rfl) (fun _ _ _ h => h) (Or.inl ⟨by rfl, ?hy20b⟩) (by assumption) ?rest20b
                  case hy20b =>
                    intro w hSw
                    (try dsimp only at hSw)
                    go_simp
                    all_goals with_reducible rfl
                  try simp only [Act.put, List.getElem_toArray, List.getElem_cons_succ, List.getElem_cons_zero, List.setIfInBounds_toArray, List.set_cons_zero, List.set_cons_succ]
                  refine wpAnyH_take (i := 21) (v := ?v21b) rfl (by kernel_rfl) (by kernel_rfl) (by kernel_rfl) (fun _ _ _ h => h) (Or.inl ⟨by rfl, ?hy21b⟩) (by assumption) ?rest21b
                  case hy21b =>
                    intro w hSw
                    (try dsimp only at hSw)
                    go_simp
                    all_goals with_reducible rfl
                  try simp only [Act.put, List.getElem_toArray, List.getElem_cons_succ, List.getElem_cons_zero, List.setIfInBounds_toArray, List.set_cons_zero, List.set_cons_succ]
                  refine wpAnyH_take (i := 22) (v := ?v22b) rfl (by kernel_rfl) (by kernel_rfl) (by kernel_rfl) (fun _ _ _ h => h) (Or.inl ⟨by rfl, ?hy22b⟩) (by assumption) ?rest22b
                  case hy22b =>
                    intro w hSw
                    (try dsimp only at hSw)
                    go_simp
                    all_goals with_reducible rfl
                  try simp only [Act.put, List.getElem_toArray, List.getElem_cons_succ, List.getElem_cons_zero, List.setIfInBounds_toArray, List.set_cons_zero, List.set_cons_succ]
                  refine wpAnyH_take (i := 23) (v := ?v23b) rfl (by kernel_rfl) (by kernel_rfl) (by kernel_rfl) (fun _ _ _ h => h) (Or.inl ⟨by rfl, ?hy23b⟩) (by assumption) ?rest23b
                  case hy23b =>
                    intro w hSw
                    (try dsimp only at hSw)
                    go_simp
                    all_goals with_reducible rfl
                  try simp only [Act.put, List.getElem_toArray, List.getElem_cons_succ, List.getElem_cons_zero, List.setIfInBounds_toArray, List.set_cons_zero, List.set_cons_succ]
                  refine wpAnyH_take (i := 24) (v := ?v24b) rfl (by kernel_rfl) (by kernel_rfl) (by kernel_rfl) (fun _ _ _ h => h) (Or.inl ⟨by rfl, ?hy24b⟩) (by assumption) ?rest24b
                  case hy24b =>
                    intro w hSw
                    (try dsimp only at hSw)
                    go_simp
                    all_goals with_reducible rfl
                  try simp only [Act.put, List.getElem_toArray, List.getElem_cons_succ, List.getElem_cons_zero, List.setIfInBounds_toArray, List.set_cons_zero, List.set_cons_succ]
                  refine wpAnyH_take (i := 25) (v := ?v25b) rfl (by kernel_rfl) (by kernel_rfl) (by kernel_rfl) (fun _ _ _ h => h) (Or.inl ⟨by rfl, ?hy25b⟩) (by assumption) ?rest25b
                  case hy25b =>
                    intro w hSw
                    (try dsimp only at hSw)
                    go_simp
                    all_goals with_reducible rfl
                  try simp only [Act.put, List.getElem_toArray, List.getElem_cons_succ, List.getElem_cons_zero, List.setIfInBounds_toArray, List.set_cons_zero, List.set_cons_succ]
                  refine wpAnyH_take (i := 26) (v := ?v26b) rfl (by kernel_rfl) (by kernel_rfl) (by kernel_rfl) (fun _ _ _ h => h) (Or.inl ⟨by rfl, ?hy26b⟩) (by assumption) ?rest26b
                  case hy26b =>
                    intro w hSw
                    (try dsimp only at hSw)
                    go_simp
                    all_goals with_reducible rfl
                  try simp only [Act.put, List.getElem_toArray, List.getElem_cons_succ, List.getElem_cons_zero, List.setIfInBounds_toArray, List.set_cons_zero, List.set_cons_succ]
                  refine wpAnyH_ready (rs := [27]) (by kernel_rfl) (by simp) ?_
                  refine AllReadyH.cons rfl (fun K hK => ?_) AllReadyH.nil
                  try go_simp
                  go_at_call 16
                  refine (class_val _ (ofR l) i (-1) _ (HRB.out.below hHeld.2) hof8 HCL.out).mono ?_
                  rintro e w5 ⟨rfl, hBs⟩
                  refine hK.out _ _ ?hSc27b (fun hHeld => ?restc27b)
                  case hSc27b => exact ⟨keepC hBs hHeld.1, trans' hHeld.2 hBs⟩
                  clear hK K
                  try simp only [Act.put, List.getElem_toArray, List.getElem_cons_succ, List.getElem_cons_zero, List.setIfInBounds_toArray, List.set_cons_zero, List.set_cons_succ]
                  refine wpAnyH_take (i := 28) (v := ?v28b) rfl (by kernel_rfl) (by kernel_rfl) (by kernel_rfl) (fun _ _ _ h => h) (Or.inl ⟨by rfl, ?hy28b⟩) (by assumption) ?rest28b
                  case hy28b =>
                    intro w hSw
                    (try dsimp only at hSw)
                    go_simp
                    all_goals with_reducible rfl
                  try simp only [Act.put, List.getElem_toArray, List.getElem_cons_succ, List.getElem_cons_zero, List.setIfInBounds_toArray, List.set_cons_zero, List.set_cons_succ]
                  refine wpAnyH_take (i := 29) (v := ?v29b) rfl (by kernel_rfl) (by kernel_rfl) (by kernel_rfl) (fun _ _ _ h => h) (Or.inl ⟨by rfl, ?hy29b⟩) (by assumption) ?rest29b
                  case hy29b =>
                    intro w hSw
                    (try dsimp only at hSw)
                    go_simp
                    all_goals with_reducible rfl
                  try simp only [Act.put, List.getElem_toArray, List.getElem_cons_succ, List.getElem_cons_zero, List.setIfInBounds_toArray, List.set_cons_zero, List.set_cons_succ]
                  refine wpAnyH_take (i := 30) (v := ?v30b) rfl (by kernel_rfl) (by kernel_rfl) (by kernel_rfl) (fun _ _ _ h => h) (Or.inl ⟨by rfl, ?hy30b⟩) (by assumption) ?rest30b
                  case hy30b =>
                    intro w hSw
                    (try dsimp only at hSw)
                    go_simp
                    all_goals with_reducible rfl
                  try simp only [Act.put, List.getElem_toArray, List.getElem_cons_succ, List.getElem_cons_zero, List.setIfInBounds_toArray, List.set_cons_zero, List.set_cons_succ]
                  refine wpAnyH_done (by kernel_rfl) ?_ _
                  go_wp2_with fail
                  go_roundw
                  case rel => exact ⟨i + 1, by omega, by omega, by go_num, hHeld.2⟩
                  case measure => simp [intOf]; omega
              · have hb : hasS (ofR l) i = false := hasS_out (by omega)
                have HHS := Lib.hid hb
                have HCL := Lib.hid (cls_none hb)
                clear hb hI3
                have hi : (i < 0 ∧ decide (0 ≤ i) = false) ∨ (63 < i ∧ 0 ≤ i ∧ decide (0 ≤ i) = true ∧ decide (i < 64) = false) := by
                  rcases (show i < 0 ∨ 63 < i by omega) with h | h
                  · exact .inl ⟨h, decide_eq_false (by omega)⟩
                  · exact .inr ⟨h, by omega, decide_eq_true (by omega), decide_eq_false (by omega)⟩
                rcases hi with ⟨hi, hd0⟩ | ⟨hi, hi2, hd0, hd1⟩
                · go_wp2_with fail
                  have hof8 : (ofR l).length ≤ 140737488355328 := by omega
                  refine wp_region_held_drew (S := fun w' => (w'.cell? ⟨w2.heap.size, 0, none⟩ = some (.slice a (ofR l).length cp)) ∧ Below wk.heap.size wk w') (by kernel_rfl) ?hSsc (fun hHeld => ?restSc)
                  case hSsc => exact ⟨hch, HB.out.drew⟩
                  refine wpAnyH_take (i := 0) (v := ?v0c) rfl (by kernel_rfl) (by kernel_rfl) (by kernel_rfl) (fun _ _ _ h => h) (Or.inl ⟨by rfl, ?hy0c⟩) (by assumption) ?rest0c
                  case hy0c =>
                    intro w hSw
                    (try dsimp only at hSw)
                    go_simp
                    all_goals with_reducible rfl
                  try simp only [Act.put, List.getElem_toArray, List.getElem_cons_succ, List.getElem_cons_zero, List.setIfInBounds_toArray, List.set_cons_zero, List.set_cons_succ]
                  refine wpAnyH_take (i := 1) (v := ?v1c) rfl (by kernel_rfl) (by kernel_rfl) (by kernel_rfl) (fun _ _ _ h => h) (Or.inl ⟨by rfl, ?hy1c⟩) (by assumption) ?rest1c
                  case hy1c =>
                    intro w hSw
                    (try dsimp only at hSw)
                    go_simp
                    all_goals with_reducible rfl
                  try simp only [Act.put, List.getElem_toArray, List.getElem_cons_succ, List.getElem_cons_zero, List.setIfInBounds_toArray, List.set_cons_zero, List.set_cons_succ]
                  refine wpAnyH_take (i := 3) (v := ?v3c) rfl (by kernel_rfl) (by kernel_rfl) (by kernel_rfl) (fun _ _ _ h => h) (Or.inl ⟨by rfl, ?hy3c⟩) (by assumption) ?rest3c
                  case hy3c =>
                    intro w hSw
                    (try dsimp only at hSw)
                    go_simp
                    all_goals with_reducible rfl
                  try simp only [Act.put, List.getElem_toArray, List.getElem_cons_succ, List.getElem_cons_zero, List.setIfInBounds_toArray, List.set_cons_zero, List.set_cons_succ]
                  refine wpAnyH_ready (rs := [2]) (by kernel_rfl) (by simp) ?_
                  refine AllReadyH.cons rfl (fun K hK => ?_) AllReadyH.nil
                  try go_simp
                  go_at_call 15
                  refine (has_val _ (ofR l) i false _ (HRB.out.below hHeld.2) hof8 HHS.out).mono ?_
                  rintro e w5 ⟨rfl, hBs⟩
                  refine hK.out _ _ ?hSc2c (fun hHeld => ?restc2c)
                  case hSc2c => exact ⟨keepC hBs hHeld.1, trans' hHeld.2 hBs⟩
                  clear hK K
                  try simp only [Act.put, List.getElem_toArray, List.getElem_cons_succ, List.getElem_cons_zero, List.setIfInBounds_toArray, List.set_cons_zero, List.set_cons_succ]
                  refine wpAnyH_take (i := 4) (v := ?v4c) rfl (by kernel_rfl) (by kernel_rfl) (by kernel_rfl) (fun _ _ _ h => h) (Or.inl ⟨by rfl, ?hy4c⟩) (by assumption) ?rest4c
                  case hy4c =>
                    intro w hSw
                    (try dsimp only at hSw)
                    go_simp
                    all_goals with_reducible rfl
                  try simp only [Act.put, List.getElem_toArray, List.getElem_cons_succ, List.getElem_cons_zero, List.setIfInBounds_toArray, List.set_cons_zero, List.set_cons_succ]
                  refine wpAnyH_take (i := 5) (v := ?v5c) rfl (by kernel_rfl) (by kernel_rfl) (by kernel_rfl) (fun _ _ _ h => h) (Or.inl ⟨by rfl, ?hy5c⟩) (by assumption) ?rest5c
                  case hy5c =>
                    intro w hSw
                    (try dsimp only at hSw)
                    go_simp
                    all_goals with_reducible rfl
                  try simp only [Act.put, List.getElem_toArray, List.getElem_cons_succ, List.getElem_cons_zero, List.setIfInBounds_toArray, List.set_cons_zero, List.set_cons_succ]
                  refine wpAnyH_take (i := 6) (v := ?v6c) rfl (by kernel_rfl) (by kernel_rfl) (by kernel_rfl) (fun _ _ _ h => h) (Or.inl ⟨by rfl, ?hy6c⟩) (by assumption) ?rest6c
                  case hy6c =>
                    intro w hSw
                    (try dsimp only at hSw)
                    go_simp
                    all_goals with_reducible rfl
                  try simp only [Act.put, List.getElem_toArray, List.getElem_cons_succ, List.getElem_cons_zero, List.setIfInBounds_toArray, List.set_cons_zero, List.set_cons_succ]
                  refine wpAnyH_take (i := 7) (v := ?v7c) rfl (by kernel_rfl) (by kernel_rfl) (by kernel_rfl) (fun _ _ _ h => h) (Or.inl ⟨by rfl, ?hy7c⟩) (by assumption) ?rest7c
                  case hy7c =>
                    intro w hSw
                    (try dsimp only at hSw)
                    go_simp
                    all_goals with_reducible rfl
                  try simp only [Act.put, List.getElem_toArray, List.getElem_cons_succ, List.getElem_cons_zero, List.setIfInBounds_toArray, List.set_cons_zero, List.set_cons_succ]
                  refine wpAnyH_take (i := 8) (v := undef) rfl (by kernel_rfl) (by kernel_rfl) (by kernel_rfl) (fun _ _ _ h => h) (Or.inr ⟨by rfl, rfl⟩) (by assumption) ?_
                  try simp only [Act.put, List.getElem_toArray, List.getElem_cons_succ, List.getElem_cons_zero, List.setIfInBounds_toArray, List.set_cons_zero, List.set_cons_succ]
                  refine wpAnyH_take (i := 9) (v := undef) rfl (by kernel_rfl) (by kernel_rfl) (by kernel_rfl) (fun _ _ _ h => h) (Or.inr ⟨by rfl, rfl⟩) (by assumption) ?_
                  try simp only [Act.put, List.getElem_toArray, List.getElem_cons_succ, List.getElem_cons_zero, List.setIfInBounds_toArray, List.set_cons_zero, List.set_cons_succ]
                  refine wpAnyH_take (i := 11) (v := undef) rfl (by kernel_rfl) (by kernel_rfl) (by kernel_rfl) (fun _ _ _ h => h) (Or.inr ⟨by rfl, rfl⟩) (by assumption) ?_
                  try simp only [Act.put, List.getElem_toArray, List.getElem_cons_succ, List.getElem_cons_zero, List.setIfInBounds_toArray, List.set_cons_zero, List.set_cons_succ]
                  refine wpAnyH_take (i := 12) (v := undef) rfl (by kernel_rfl) (by kernel_rfl) (by kernel_rfl) (fun _ _ _ h => h) (Or.inr ⟨by rfl, rfl⟩) (by assumption) ?_
                  try simp only [Act.put, List.getElem_toArray, List.getElem_cons_succ, List.getElem_cons_zero, List.setIfInBounds_toArray, List.set_cons_zero, List.set_cons_succ]
                  refine wpAnyH_take (i := 13) (v := undef) rfl (by kernel_rfl) (by kernel_rfl) (by kernel_rfl) (fun _ _ _ h => h) (Or.inr ⟨by rfl, rfl⟩) (by assumption) ?_
                  try simp only [Act.put, List.getElem_toArray, List.getElem_cons_succ, List.getElem_cons_zero, List.setIfInBounds_toArray, List.set_cons_zero, List.set_cons_succ]
                  refine wpAnyH_take (i := 14) (v := undef) rfl (by kernel_rfl) (by kernel_rfl) (by kernel_rfl) (fun _ _ _ h => h) (Or.inr ⟨by rfl, rfl⟩) (by assumption) ?_
                  try simp only [Act.put, List.getElem_toArray, List.getElem_cons_succ, List.getElem_cons_zero, List.setIfInBounds_toArray, List.set_cons_zero, List.set_cons_succ]
                  refine wpAnyH_take (i := 15) (v := undef) rfl (by kernel_rfl) (by kernel_rfl) (by kernel_rfl) (fun _ _ _ h => h) (Or.inr ⟨by rfl, rfl⟩) (by assumption) ?_
                  try simp only [Act.put, List.getElem_toArray, List.getElem_cons_succ, List.getElem_cons_zero, List.setIfInBounds_toArray, List.set_cons_zero, List.set_cons_succ]
                  refine wpAnyH_take (i := 16) (v := undef) rfl (by kernel_rfl) (by kernel_rfl) (by kernel_rfl) (fun _ _ _ h => h) (Or.inr ⟨by rfl, rfl⟩) (by assumption) ?_
                  try simp only [Act.put, List.getElem_toArray, List.getElem_cons_succ, List.getElem_cons_zero, List.setIfInBounds_toArray, List.set_cons_zero, List.set_cons_succ]
                  refine wpAnyH_take (i := 17) (v := undef) rfl (by kernel_rfl) (by kernel_rfl) (by kernel_rfl) (fun _ _ _ h => h) (Or.inr ⟨by rfl, rfl⟩) (by assumption) ?_
                  try simp only [Act.put, List.getElem_toArray, List.getElem_cons_succ, List.getElem_cons_zero, List.setIfInBounds_toArray, List.set_cons_zero, List.set_cons_succ]
                  refine wpAnyH_take (i := 10) (v := undef) rfl (by kernel_rfl) (by kernel_rfl) (by kernel_rfl) (fun _ _ _ h => h) (Or.inr ⟨by rfl, rfl⟩) (by assumption) ?_
                  try simp only [Act.put, List.getElem_toArray, List.getElem_cons_succ, List.getElem_cons_zero, List.setIfInBounds_toArray, List.set_cons_zero, List.set_cons_succ]
                  refine wpAnyH_take (i := 18) (v := undef) rfl (by kernel_rfl) (by kernel_rfl) (by kernel_rfl) (fun _ _ _ h => h) (Or.inr ⟨by rfl, rfl⟩) (by assumption) ?_
                  try simp only [Act.put, List.getElem_toArray, List.getElem_cons_succ, List.getElem_cons_zero, List.setIfInBounds_toArray, List.set_cons_zero, List.set_cons_succ]
                  refine wpAnyH_take (i := 19) (v := ?v19c) rfl (by kernel_rfl) (by kernel_rfl) (by kernel_rfl) (fun _ _ _ h => h) (Or.inl ⟨by rfl, ?hy19c⟩) (by assumption) ?rest19c
                  case hy19c =>
                    intro w hSw
                    (try dsimp only at hSw)
                    go_simp
                    all_goals with_reducible rfl
                  try simp only [Act.put, List.getElem_toArray, List.getElem_cons_succ, List.getElem_cons_zero, List.setIfInBounds_toArray, List.set_cons_zero, List.set_cons_succ]
                  refine wpAnyH_take (i := 20) (v := ?v20c) rfl (by kernel_rfl) (by kernel_rfl) (by kernel_rfl) (fun _ _ _ h => h) (Or.inl ⟨by rfl, ?hy20c⟩) (by assumption) ?rest20c
                  case hy20c =>
                    intro w hSw
                    (try dsimp only at hSw)
                    go_simp
                    all_goals with_reducible rfl
                  try simp only [Act.put, List.getElem_toArray, List.getElem_cons_succ, List.getElem_cons_zero, List.setIfInBounds_toArray, List.set_cons_zero, List.set_cons_succ]
                  refine wpAnyH_take (i := 21) (v := ?v21c) rfl (by kernel_rfl) (by kernel_rfl) (by kernel_rfl) (fun _ _ _ h => h) (Or.inl ⟨by rfl, ?hy21c⟩) (by assumption) ?rest21c
                  case hy21c =>
                    intro w hSw
                    (try dsimp only at hSw)
                    go_simp
                    all_goals with_reducible rfl
                  try simp only [Act.put, List.getElem_toArray, List.getElem_cons_succ, List.getElem_cons_zero, List.setIfInBounds_toArray, List.set_cons_zero, List.set_cons_succ]
                  refine wpAnyH_take (i := 22) (v := ?v22c) rfl (by kernel_rfl) (by kernel_rfl) (by kernel_rfl) (fun _ _ _ h => h) (Or.inl ⟨by rfl, ?hy22c⟩) (by assumption) ?rest22c
                  case hy22c =>
                    intro w hSw
                    (try dsimp only at hSw)
                    go_simp
                    all_goals with_reducible rfl
                  try simp only [Act.put, List.getElem_toArray, List.getElem_cons_succ, List.getElem_cons_zero, List.setIfInBounds_toArray, List.set_cons_zero, List.set_cons_succ]
                  refine wpAnyH_take (i := 23) (v := ?v23c) rfl (by kernel_rfl) (by kernel_rfl) (by kernel_rfl) (fun _ _ _ h => h) (Or.inl ⟨by rfl, ?hy23c⟩) (by assumption) ?rest23c
                  case hy23c =>
                    intro w hSw
                    (try dsimp only at hSw)
                    go_simp
                    all_goals with_reducible rfl
                  try simp only [Act.put, List.getElem_toArray, List.getElem_cons_succ, List.getElem_cons_zero, List.setIfInBounds_toArray, List.set_cons_zero, List.set_cons_succ]
                  refine wpAnyH_take (i := 24) (v := ?v24c) rfl (by kernel_rfl) (by kernel_rfl) (by kernel_rfl) (fun _ _ _ h => h) (Or.inl ⟨by rfl, ?hy24c⟩) (by assumption) ?rest24c
                  case hy24c =>
                    intro w hSw
                    (try dsimp only at hSw)
                    go_simp
                    all_goals with_reducible rfl
                  try simp only [Act.put, List.getElem_toArray, List.getElem_cons_succ, List.getElem_cons_zero, List.setIfInBounds_toArray, List.set_cons_zero, List.set_cons_succ]
                  refine wpAnyH_take (i := 25) (v := ?v25c) rfl (by kernel_rfl) (by kernel_rfl) (by kernel_rfl) (fun _ _ _ h => h) (Or.inl ⟨by rfl, ?hy25c⟩) (by assumption) ?rest25c
                  case hy25c =>
                    intro w hSw
                    (try dsimp only at hSw)
                    go_simp
                    all_goals with_reducible rfl
                  try simp only [Act.put, List.getElem_toArray, List.getElem_cons_succ, List.getElem_cons_zero, List.setIfInBounds_toArray, List.set_cons_zero, List.set_cons_succ]
                  refine wpAnyH_take (i := 26) (v := ?v26c) rfl (by kernel_rfl) (by kernel_rfl) (by kernel_rfl) (fun _ _ _ h => h) (Or.inl ⟨by rfl, ?hy26c⟩) (by assumption) ?rest26c
                  case hy26c =>
                    intro w hSw
                    (try dsimp only at hSw)
                    go_simp
                    all_goals with_reducible rfl
                  try simp only [Act.put, List.getElem_toArray, List.getElem_cons_succ, List.getElem_cons_zero, List.setIfInBounds_toArray, List.set_cons_zero, List.set_cons_succ]
                  refine wpAnyH_ready (rs := [27]) (by kernel_rfl) (by simp) ?_
                  refine AllReadyH.cons rfl (fun K hK => ?_) AllReadyH.nil
                  try go_simp
                  go_at_call 16
                  refine (class_val _ (ofR l) i (-1) _ (HRB.out.below hHeld.2) hof8 HCL.out).mono ?_
                  rintro e w5 ⟨rfl, hBs⟩
                  refine hK.out _ _ ?hSc27c (fun hHeld => ?restc27c)
                  case hSc27c => exact ⟨keepC hBs hHeld.1, trans' hHeld.2 hBs⟩
                  clear hK K
                  try simp only [Act.put, List.getElem_toArray, List.getElem_cons_succ, List.getElem_cons_zero, List.setIfInBounds_toArray, List.set_cons_zero, List.set_cons_succ]
                  refine wpAnyH_take (i := 28) (v := ?v28c) rfl (by kernel_rfl) (by kernel_rfl) (by kernel_rfl) (fun _ _ _ h => h) (Or.inl ⟨by rfl, ?hy28c⟩) (by assumption) ?rest28c
                  case hy28c =>
                    intro w hSw
                    (try dsimp only at hSw)
                    go_simp
                    all_goals with_reducible rfl
                  try simp only [Act.put, List.getElem_toArray, List.getElem_cons_succ, List.getElem_cons_zero, List.setIfInBounds_toArray, List.set_cons_zero, List.set_cons_succ]
                  refine wpAnyH_take (i := 29) (v := ?v29c) rfl (by kernel_rfl) (by kernel_rfl) (by kernel_rfl) (fun _ _ _ h => h) (Or.inl ⟨by rfl, ?hy29c⟩) (by assumption) ?rest29c
                  case hy29c =>
                    intro w hSw
                    (try dsimp only at hSw)
                    go_simp
                    all_goals with_reducible rfl
                  try simp only [Act.put, List.getElem_toArray, List.getElem_cons_succ, List.getElem_cons_zero, List.setIfInBounds_toArray, List.set_cons_zero, List.set_cons_succ]
                  refine wpAnyH_take (i := 30) (v := ?v30c) rfl (by kernel_rfl) (by kernel_rfl) (by kernel_rfl) (fun _ _ _ h => h) (Or.inl ⟨by rfl, ?hy30c⟩) (by assumption) ?rest30c
                  case hy30c =>
                    intro w hSw
                    (try dsimp only at hSw)
                    go_simp
                    all_goals with_reducible rfl
                  try simp only [Act.put, List.getElem_toArray, List.getElem_cons_succ, List.getElem_cons_zero, List.setIfInBounds_toArray, List.set_cons_zero, List.set_cons_succ]
                  refine wpAnyH_done (by kernel_rfl) ?_ _
                  go_wp2_with fail
                  go_roundw
                  case rel => exact ⟨i + 1, by omega, by omega, by go_num, hHeld.2⟩
                  case measure => simp [intOf]; omega
                · go_wp2_with fail
                  have hof8 : (ofR l).length ≤ 140737488355328 := by omega
                  refine wp_region_held_drew (S := fun w' => (w'.cell? ⟨w2.heap.size, 0, none⟩ = some (.slice a (ofR l).length cp)) ∧ Below wk.heap.size wk w') (by kernel_rfl) ?hSsd (fun hHeld => ?restSd)
                  case hSsd => exact ⟨hch, HB.out.drew⟩
                  refine wpAnyH_take (i := 0) (v := ?v0d) rfl (by kernel_rfl) (by kernel_rfl) (by kernel_rfl) (fun _ _ _ h => h) (Or.inl ⟨by rfl, ?hy0d⟩) (by assumption) ?rest0d
                  case hy0d =>
                    intro w hSw
                    (try dsimp only at hSw)
                    go_simp
                    all_goals with_reducible rfl
                  try simp only [Act.put, List.getElem_toArray, List.getElem_cons_succ, List.getElem_cons_zero, List.setIfInBounds_toArray, List.set_cons_zero, List.set_cons_succ]
                  refine wpAnyH_take (i := 1) (v := ?v1d) rfl (by kernel_rfl) (by kernel_rfl) (by kernel_rfl) (fun _ _ _ h => h) (Or.inl ⟨by rfl, ?hy1d⟩) (by assumption) ?rest1d
                  case hy1d =>
                    intro w hSw
                    (try dsimp only at hSw)
                    go_simp
                    all_goals with_reducible rfl
                  try simp only [Act.put, List.getElem_toArray, List.getElem_cons_succ, List.getElem_cons_zero, List.setIfInBounds_toArray, List.set_cons_zero, List.set_cons_succ]
                  refine wpAnyH_take (i := 3) (v := ?v3d) rfl (by kernel_rfl) (by kernel_rfl) (by kernel_rfl) (fun _ _ _ h => h) (Or.inl ⟨by rfl, ?hy3d⟩) (by assumption) ?rest3d
                  case hy3d =>
                    intro w hSw
                    (try dsimp only at hSw)
                    go_simp
                    all_goals with_reducible rfl
                  try simp only [Act.put, List.getElem_toArray, List.getElem_cons_succ, List.getElem_cons_zero, List.setIfInBounds_toArray, List.set_cons_zero, List.set_cons_succ]
                  refine wpAnyH_ready (rs := [2]) (by kernel_rfl) (by simp) ?_
                  refine AllReadyH.cons rfl (fun K hK => ?_) AllReadyH.nil
                  try go_simp
                  go_at_call 15
                  refine (has_val _ (ofR l) i false _ (HRB.out.below hHeld.2) hof8 HHS.out).mono ?_
                  rintro e w5 ⟨rfl, hBs⟩
                  refine hK.out _ _ ?hSc2d (fun hHeld => ?restc2d)
                  case hSc2d => exact ⟨keepC hBs hHeld.1, trans' hHeld.2 hBs⟩
                  clear hK K
                  try simp only [Act.put, List.getElem_toArray, List.getElem_cons_succ, List.getElem_cons_zero, List.setIfInBounds_toArray, List.set_cons_zero, List.set_cons_succ]
                  refine wpAnyH_take (i := 4) (v := ?v4d) rfl (by kernel_rfl) (by kernel_rfl) (by kernel_rfl) (fun _ _ _ h => h) (Or.inl ⟨by rfl, ?hy4d⟩) (by assumption) ?rest4d
                  case hy4d =>
                    intro w hSw
                    (try dsimp only at hSw)
                    go_simp
                    all_goals with_reducible rfl
                  try simp only [Act.put, List.getElem_toArray, List.getElem_cons_succ, List.getElem_cons_zero, List.setIfInBounds_toArray, List.set_cons_zero, List.set_cons_succ]
                  refine wpAnyH_take (i := 5) (v := ?v5d) rfl (by kernel_rfl) (by kernel_rfl) (by kernel_rfl) (fun _ _ _ h => h) (Or.inl ⟨by rfl, ?hy5d⟩) (by assumption) ?rest5d
                  case hy5d =>
                    intro w hSw
                    (try dsimp only at hSw)
                    go_simp
                    all_goals with_reducible rfl
                  try simp only [Act.put, List.getElem_toArray, List.getElem_cons_succ, List.getElem_cons_zero, List.setIfInBounds_toArray, List.set_cons_zero, List.set_cons_succ]
                  refine wpAnyH_take (i := 6) (v := ?v6d) rfl (by kernel_rfl) (by kernel_rfl) (by kernel_rfl) (fun _ _ _ h => h) (Or.inl ⟨by rfl, ?hy6d⟩) (by assumption) ?rest6d
                  case hy6d =>
                    intro w hSw
                    (try dsimp only at hSw)
                    go_simp
                    all_goals with_reducible rfl
                  try simp only [Act.put, List.getElem_toArray, List.getElem_cons_succ, List.getElem_cons_zero, List.setIfInBounds_toArray, List.set_cons_zero, List.set_cons_succ]
                  refine wpAnyH_take (i := 7) (v := ?v7d) rfl (by kernel_rfl) (by kernel_rfl) (by kernel_rfl) (fun _ _ _ h => h) (Or.inl ⟨by rfl, ?hy7d⟩) (by assumption) ?rest7d
                  case hy7d =>
                    intro w hSw
                    (try dsimp only at hSw)
                    go_simp
                    all_goals with_reducible rfl
                  try simp only [Act.put, List.getElem_toArray, List.getElem_cons_succ, List.getElem_cons_zero, List.setIfInBounds_toArray, List.set_cons_zero, List.set_cons_succ]
                  refine wpAnyH_take (i := 8) (v := undef) rfl (by kernel_rfl) (by kernel_rfl) (by kernel_rfl) (fun _ _ _ h => h) (Or.inr ⟨by rfl, rfl⟩) (by assumption) ?_
                  try simp only [Act.put, List.getElem_toArray, List.getElem_cons_succ, List.getElem_cons_zero, List.setIfInBounds_toArray, List.set_cons_zero, List.set_cons_succ]
                  refine wpAnyH_take (i := 9) (v := undef) rfl (by kernel_rfl) (by kernel_rfl) (by kernel_rfl) (fun _ _ _ h => h) (Or.inr ⟨by rfl, rfl⟩) (by assumption) ?_
                  try simp only [Act.put, List.getElem_toArray, List.getElem_cons_succ, List.getElem_cons_zero, List.setIfInBounds_toArray, List.set_cons_zero, List.set_cons_succ]
                  refine wpAnyH_take (i := 11) (v := undef) rfl (by kernel_rfl) (by kernel_rfl) (by kernel_rfl) (fun _ _ _ h => h) (Or.inr ⟨by rfl, rfl⟩) (by assumption) ?_
                  try simp only [Act.put, List.getElem_toArray, List.getElem_cons_succ, List.getElem_cons_zero, List.setIfInBounds_toArray, List.set_cons_zero, List.set_cons_succ]
                  refine wpAnyH_take (i := 12) (v := undef) rfl (by kernel_rfl) (by kernel_rfl) (by kernel_rfl) (fun _ _ _ h => h) (Or.inr ⟨by rfl, rfl⟩) (by assumption) ?_
                  try simp only [Act.put, List.getElem_toArray, List.getElem_cons_succ, List.getElem_cons_zero, List.setIfInBounds_toArray, List.set_cons_zero, List.set_cons_succ]
                  refine wpAnyH_take (i := 13) (v := undef) rfl (by kernel_rfl) (by kernel_rfl) (by kernel_rfl) (fun _ _ _ h => h) (Or.inr ⟨by rfl, rfl⟩) (by assumption) ?_
                  try simp only [Act.put, List.getElem_toArray, List.getElem_cons_succ, List.getElem_cons_zero, List.setIfInBounds_toArray, List.set_cons_zero, List.set_cons_succ]
                  refine wpAnyH_take (i := 14) (v := undef) rfl (by kernel_rfl) (by kernel_rfl) (by kernel_rfl) (fun _ _ _ h => h) (Or.inr ⟨by rfl, rfl⟩) (by assumption) ?_
                  try simp only [Act.put, List.getElem_toArray, List.getElem_cons_succ, List.getElem_cons_zero, List.setIfInBounds_toArray, List.set_cons_zero, List.set_cons_succ]
                  refine wpAnyH_take (i := 15) (v := undef) rfl (by kernel_rfl) (by kernel_rfl) (by kernel_rfl) (fun _ _ _ h => h) (Or.inr ⟨by rfl, rfl⟩) (by assumption) ?_
                  try simp only [Act.put, List.getElem_toArray, List.getElem_cons_succ, List.getElem_cons_zero, List.setIfInBounds_toArray, List.set_cons_zero, List.set_cons_succ]
                  refine wpAnyH_take (i := 16) (v := undef) rfl (by kernel_rfl) (by kernel_rfl) (by kernel_rfl) (fun _ _ _ h => h) (Or.inr ⟨by rfl, rfl⟩) (by assumption) ?_
                  try simp only [Act.put, List.getElem_toArray, List.getElem_cons_succ, List.getElem_cons_zero, List.setIfInBounds_toArray, List.set_cons_zero, List.set_cons_succ]
                  refine wpAnyH_take (i := 17) (v := undef) rfl (by kernel_rfl) (by kernel_rfl) (by kernel_rfl) (fun _ _ _ h => h) (Or.inr ⟨by rfl, rfl⟩) (by assumption) ?_
                  try simp only [Act.put, List.getElem_toArray, List.getElem_cons_succ, List.getElem_cons_zero, List.setIfInBounds_toArray, List.set_cons_zero, List.set_cons_succ]
                  refine wpAnyH_take (i := 10) (v := undef) rfl (by kernel_rfl) (by kernel_rfl) (by kernel_rfl) (fun _ _ _ h => h) (Or.inr ⟨by rfl, rfl⟩) (by assumption) ?_
                  try simp only [Act.put, List.getElem_toArray, List.getElem_cons_succ, List.getElem_cons_zero, List.setIfInBounds_toArray, List.set_cons_zero, List.set_cons_succ]
                  refine wpAnyH_take (i := 18) (v := undef) rfl (by kernel_rfl) (by kernel_rfl) (by kernel_rfl) (fun _ _ _ h => h) (Or.inr ⟨by rfl, rfl⟩) (by assumption) ?_
                  try simp only [Act.put, List.getElem_toArray, List.getElem_cons_succ, List.getElem_cons_zero, List.setIfInBounds_toArray, List.set_cons_zero, List.set_cons_succ]
                  refine wpAnyH_take (i := 19) (v := ?v19d) rfl (by kernel_rfl) (by kernel_rfl) (by kernel_rfl) (fun _ _ _ h => h) (Or.inl ⟨by rfl, ?hy19d⟩) (by assumption) ?rest19d
                  case hy19d =>
                    intro w hSw
                    (try dsimp only at hSw)
                    go_simp
                    all_goals with_reducible rfl
                  try simp only [Act.put, List.getElem_toArray, List.getElem_cons_succ, List.getElem_cons_zero, List.setIfInBounds_toArray, List.set_cons_zero, List.set_cons_succ]
                  refine wpAnyH_take (i := 20) (v := ?v20d) rfl (by kernel_rfl) (by kernel_rfl) (by kernel_rfl) (fun _ _ _ h => h) (Or.inl ⟨by rfl, ?hy20d⟩) (by assumption) ?rest20d
                  case hy20d =>
                    intro w hSw
                    (try dsimp only at hSw)
                    go_simp
                    all_goals with_reducible rfl
                  try simp only [Act.put, List.getElem_toArray, List.getElem_cons_succ, List.getElem_cons_zero, List.setIfInBounds_toArray, List.set_cons_zero, List.set_cons_succ]
                  refine wpAnyH_take (i := 21) (v := ?v21d) rfl (by kernel_rfl) (by kernel_rfl) (by kernel_rfl) (fun _ _ _ h => h) (Or.inl ⟨by rfl, ?hy21d⟩) (by assumption) ?rest21d
                  case hy21d =>
                    intro w hSw
                    (try dsimp only at hSw)
                    go_simp
                    all_goals with_reducible rfl
                  try simp only [Act.put, List.getElem_toArray, List.getElem_cons_succ, List.getElem_cons_zero, List.setIfInBounds_toArray, List.set_cons_zero, List.set_cons_succ]
                  refine wpAnyH_take (i := 22) (v := ?v22d) rfl (by kernel_rfl) (by kernel_rfl) (by kernel_rfl) (fun _ _ _ h => h) (Or.inl ⟨by rfl, ?hy22d⟩) (by assumption) ?rest22d
                  case hy22d =>
                    intro w hSw
                    (try dsimp only at hSw)
                    go_simp
                    all_goals with_reducible rfl
                  try simp only [Act.put, List.getElem_toArray, List.getElem_cons_succ, List.getElem_cons_zero, List.setIfInBounds_toArray, List.set_cons_zero, List.set_cons_succ]
                  refine wpAnyH_take (i := 23) (v := ?v23d) rfl (by kernel_rfl) (by kernel_rfl) (by kernel_rfl) (fun _ _ _ h => h) (Or.inl ⟨by rfl, ?hy23d⟩) (by assumption) ?rest23d
                  case hy23d =>
                    intro w hSw
                    (try dsimp only at hSw)
                    go_simp
                    all_goals with_reducible rfl
                  try simp only [Act.put, List.getElem_toArray, List.getElem_cons_succ, List.getElem_cons_zero, List.setIfInBounds_toArray, List.set_cons_zero, List.set_cons_succ]
                  refine wpAnyH_take (i := 24) (v := ?v24d) rfl (by kernel_rfl) (by kernel_rfl) (by kernel_rfl) (fun _ _ _ h => h) (Or.inl ⟨by rfl, ?hy24d⟩) (by assumption) ?rest24d
                  case hy24d =>
                    intro w hSw
                    (try dsimp only at hSw)
                    go_simp
                    all_goals with_reducible rfl
                  try simp only [Act.put, List.getElem_toArray, List.getElem_cons_succ, List.getElem_cons_zero, List.setIfInBounds_toArray, List.set_cons_zero, List.set_cons_succ]
                  refine wpAnyH_take (i := 25) (v := ?v25d) rfl (by kernel_rfl) (by kernel_rfl) (by kernel_rfl) (fun _ _ _ h => h) (Or.inl ⟨by rfl, ?hy25d⟩) (by assumption) ?rest25d
                  case hy25d =>
                    intro w hSw
                    (try dsimp only at hSw)
                    go_simp
                    all_goals with_reducible rfl
                  try simp only [Act.put, List.getElem_toArray, List.getElem_cons_succ, List.getElem_cons_zero, List.setIfInBounds_toArray, List.set_cons_zero, List.set_cons_succ]
                  refine wpAnyH_take (i := 26) (v := ?v26d) rfl (by kernel_rfl) (by kernel_rfl) (by kernel_rfl) (fun _ _ _ h => h) (Or.inl ⟨by rfl, ?hy26d⟩) (by assumption) ?rest26d
                  case hy26d =>
                    intro w hSw
                    (try dsimp only at hSw)
                    go_simp
                    all_goals with_reducible rfl
                  try simp only [Act.put, List.getElem_toArray, List.getElem_cons_succ, List.getElem_cons_zero, List.setIfInBounds_toArray, List.set_cons_zero, List.set_cons_succ]
                  refine wpAnyH_ready (rs := [27]) (by kernel_rfl) (by simp) ?_
                  refine AllReadyH.cons rfl (fun K hK => ?_) AllReadyH.nil
                  try go_simp
                  go_at_call 16
                  refine (class_val _ (ofR l) i (-1) _ (HRB.out.below hHeld.2) hof8 HCL.out).mono ?_
                  rintro e w5 ⟨rfl, hBs⟩
                  refine hK.out _ _ ?hSc27d (fun hHeld => ?restc27d)
                  case hSc27d => exact ⟨keepC hBs hHeld.1, trans' hHeld.2 hBs⟩
                  clear hK K
                  try simp only [Act.put, List.getElem_toArray, List.getElem_cons_succ, List.getElem_cons_zero, List.setIfInBounds_toArray, List.set_cons_zero, List.set_cons_succ]
                  refine wpAnyH_take (i := 28) (v := ?v28d) rfl (by kernel_rfl) (by kernel_rfl) (by kernel_rfl) (fun _ _ _ h => h) (Or.inl ⟨by rfl, ?hy28d⟩) (by assumption) ?rest28d
                  case hy28d =>
                    intro w hSw
                    (try dsimp only at hSw)
                    go_simp
                    all_goals with_reducible rfl
                  try simp only [Act.put, List.getElem_toArray, List.getElem_cons_succ, List.getElem_cons_zero, List.setIfInBounds_toArray, List.set_cons_zero, List.set_cons_succ]
                  refine wpAnyH_take (i := 29) (v := ?v29d) rfl (by kernel_rfl) (by kernel_rfl) (by kernel_rfl) (fun _ _ _ h => h) (Or.inl ⟨by rfl, ?hy29d⟩) (by assumption) ?rest29d
                  case hy29d =>
                    intro w hSw
                    (try dsimp only at hSw)
                    go_simp
                    all_goals with_reducible rfl
                  try simp only [Act.put, List.getElem_toArray, List.getElem_cons_succ, List.getElem_cons_zero, List.setIfInBounds_toArray, List.set_cons_zero, List.set_cons_succ]
                  refine wpAnyH_take (i := 30) (v := ?v30d) rfl (by kernel_rfl) (by kernel_rfl) (by kernel_rfl) (fun _ _ _ h => h) (Or.inl ⟨by rfl, ?hy30d⟩) (by assumption) ?rest30d
                  case hy30d =>
                    intro w hSw
                    (try dsimp only at hSw)
                    go_simp
                    all_goals with_reducible rfl
                  try simp only [Act.put, List.getElem_toArray, List.getElem_cons_succ, List.getElem_cons_zero, List.setIfInBounds_toArray, List.set_cons_zero, List.set_cons_succ]
                  refine wpAnyH_done (by kernel_rfl) ?_ _
                  go_wp2_with fail
                  go_roundw
                  case rel => exact ⟨i + 1, by omega, by omega, by go_num, hHeld.2⟩
                  case measure => simp [intOf]; omega
            · obtain rfl : i = 65 := by omega
              go_wp2_with fail
              go_ret
              exact ⟨rfl, HBB.out.trans (HB.out.mono HBB.out.size)⟩
end Go.Proofs.Ytpbfabcihoiiiaa
