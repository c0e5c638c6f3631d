/- FixedKnown: the walk. -/
import Derived.Test.YtbnnemiiodhjbaaDoorFx7
import Derived.Test.YtbnnemiiodhjbaaDoorFx4
import Derived.Test.YtbnnemiiodhjbaaDoorBy
import Derived.Deep.RegionHeld3
import Derived.Deep.OwnRows
import Derived.Lib.SlBytesConst
namespace Go.Proofs.YtbnnemiiodhjbaaDoor
open Go.RowKit
set_option linter.unusedVariables false
set_option linter.unusedSimpArgs false

def lgB : ByteArray := mkB (List.replicate 255 0)
def s1B : ByteArray := mkB (255 :: List.replicate 255 0)
def s2B : ByteArray := mkB (255 :: (List.replicate 255 0 ++ [122]))
def s3B : ByteArray := mkB (List.replicate 255 0 ++ [120])
theorem cat1 (W : World) : (Op.stringOp .add ⟨#[255]⟩ lgB).run Tryd.prog W = .ok (.string s1B) W := by
  rw [run_string_add_sum W _ _ (by decide +kernel)]
  rfl
theorem cat2 (W : World) : (Op.stringOp .add s1B ⟨#[122]⟩).run Tryd.prog W = .ok (.string s2B) W := by
  rw [run_string_add_sum W _ _ (by decide +kernel)]
  rfl
theorem cat3 (W : World) : (Op.stringOp .add lgB ⟨#[120]⟩).run Tryd.prog W = .ok (.string s3B) W := by
  rw [run_string_add_sum W _ _ (by decide +kernel)]
  rfl
theorem s2_code : tCode 255 s2B = 0 := by decide +kernel
theorem s2_len : tLen s2B = 256 := by decide +kernel
theorem s2_text : tText s2B = lgB := by decide +kernel
theorem s2_left : enC (dropB s2B 256) = 4 := by decide +kernel
theorem s2_size : s2B.size ≤ 140737488355328 := by decide +kernel
theorem s3_text : textB s3B.data.toList = [] := by decide +kernel
theorem s3_size : s3B.size ≤ 140737488351232 := by decide +kernel
theorem make_255 (w : World) : (Instr.makeSlice 22 (.int .i64 255) (.int .i64 255)).run Tryd.prog w = .ok (.slice (some ⟨w.heap.size, 0, none⟩) 255 255) (w.alloc (.cells (madeCells #[.int .u8 0] 255) 5)) :=
  run_make_row' (P := Tryd.prog) 22 5 (.int .u8 0) 1 Tryd.underlying22 info_u8 rfl .i64 .i64 255 (by omega) (by omega) w
theorem make_8 (w : World) : (Instr.makeSlice 22 (.int .i64 1) (.int .i64 8)).run Tryd.prog w = .ok (.slice (some ⟨w.heap.size, 0, none⟩) 1 8) (w.alloc (.cells (madeCells #[.int .u8 0] 8) 5)) := by kernel_rfl
theorem made_at (n : Nat) (j : Nat) (h : j < n) : (madeCells #[Value.int .u8 0] n)[j]? = some (.int .u8 0) := by simp [madeCells, h, Nat.mod_one]
theorem made_rd (w : World) (n m : Nat) (hm : m ≤ n) : RdB (w.alloc (.cells (madeCells #[.int .u8 0] n) 5)) (.slice (some ⟨w.heap.size, 0, none⟩) m n) (List.replicate m 0) := by
  refine ⟨some (w.heap.size, 0), n, by simp, by simpa using hm, (fun h => by cases h), fun p hp j u hu => ?_⟩
  obtain rfl : (w.heap.size, 0) = p := by simpa using hp
  rw [Nat.zero_add, cell_of_row _ _ j _ _ _ (heap_alloc_new w _)]
  unfold bv at hu
  rw [List.map_replicate, List.getElem?_replicate] at hu
  split at hu
  · rename_i hj
    rw [made_at n j (by omega)]
    exact hu
  · cases hu
theorem cv_made (w : World) : (convert 22 9 (.slice (some ⟨w.heap.size, 0, none⟩) 255 255)).run Tryd.prog (w.alloc (.cells (madeCells #[.int .u8 0] 255) 5)) = .ok (.string lgB) (w.alloc (.cells (madeCells #[.int .u8 0] 255) 5)) :=
  cv_str (X := lgB) (made_rd w 255 255 (Nat.le_refl _))
theorem cell_other {w w' : World} {p b o : Nat} {v : Value} (hg : w.grownBy w' (some p)) (hc : w.cell? ⟨b, o, none⟩ = some v) (hne : b ≠ p) : w'.cell? ⟨b, o, none⟩ = some v :=
  (World.cell?_of_block (hg.block b (World.block_lt_of_cell? _ _ hc) (fun e => hne (by injection e)))).trans hc
theorem rd_lit_m (w : World) (t : TypeId) (y : Int) (h0 : 0 ≤ y) (h1 : y < 256) (fr : Nat × Nat) : RdB (w.alloc (.cells #[.int .u8 y] t fr)) (.slice (some ⟨w.heap.size, 0, none⟩) 1 1) [UInt8.ofNat y.toNat] := by
  refine ⟨some (w.heap.size, 0), 1, rfl, by simp, (fun h => by cases h), fun p hp j u hu => ?_⟩
  obtain rfl : (w.heap.size, 0) = p := by simpa using hp
  simp only [Nat.zero_add]
  match j, hu with
  | 0, hu =>
    simp [bv] at hu
    subst hu
    have : (w.alloc (.cells #[.int .u8 y] t fr)).heap[w.heap.size]? = some (.cells #[.int .u8 y] t fr) := heap_alloc_new w _
    unfold World.cell?
    rw [this]
    simp
    omega
  | j + 1, hu => simp [bv] at hu
theorem End_nil2 (w : World) : Calls Tryd.prog 21 #[.pointer none] w fun e w' => ∃ v, e = .returned v ∧ ErrIs w' v 1 0 ∧ Below w.heap.size w w' :=
  (End_nil w).mono fun e w' ⟨he, hw⟩ => by
    subst hw
    exact ⟨_, he, err_new w 1 0 (by decide), (Below.refl _ _).alloc (Nat.le_refl _) _⟩
theorem end_at : atF 4 (0 + ((256 : Nat) : Int)) = 256 := by decide
theorem big_be : ([] : List UInt8) ++ beB 8 (18446744073709551615 : Int).toNat = [255, 255, 255, 255, 255, 255, 255, 255] := by decide +kernel
theorem err_gen {w w' : World} (hw : w' = w.alloc (.cells #[.int .i64 1, .int .i64 0] 35)) : ∃ v, (FV w.heap.size = v ∧ ErrIs w' v 1 0) ∧ Below w.heap.size w w' := by
  subst hw
  exact ⟨_, ⟨rfl, err_new w 1 0 (by decide)⟩, (Below.refl _ _).alloc (Nat.le_refl _) _⟩
set_option maxRecDepth 100000 in
set_option maxHeartbeats 8000000 in
theorem known_any (w : World) (hE : EtP w) : Calls Tryd.prog 5 #[] w fun e w' => e = .returned (.bool true) ∧ Below w.heap.size w w' := by
  have m1 := make_255
  have m2 := make_8
  go_enter Tryd.func5, Tryd.ntmps5
  go_wp2_with fail
  have k0 : (w.alloc (.cells #[.int .i64 1, .int .i64 0] 35)).cell? ⟨w.heap.size, 0, none⟩ = some (.int .i64 1) := by go_cell
  have k1 : (w.alloc (.cells #[.int .i64 1, .int .i64 0] 35)).cell? ⟨w.heap.size, 1, none⟩ = some (.int .i64 0) := by go_cell
  have HB := Lib.hid ((Below.refl w.heap.size w).alloc (Nat.le_refl _) (.cells #[.int .i64 1, .int .i64 0] 35))
  have K0 := Lib.hid k0
  have K1 := Lib.hid k1
  generalize w.alloc (.cells #[.int .i64 1, .int .i64 0] 35) = w0 at HB K0 K1 ⊢
  clear k0 k1
  go_wp2_with fail
  refine (U8_nil _).mono ?_
  rintro e w1 ⟨rfl, hw⟩
  obtain ⟨v0, he, hB⟩ := err_gen hw
  rw [he.1]
  have E0 := Lib.hid he.2
  clear he hw
  replace K0 := Lib.hid (keep_cell' hB K0.out)
  replace K1 := Lib.hid (keep_cell' hB K1.out)
  replace HB := Lib.hid (trans' HB.out hB)
  clear hB
  go_wp2_with fail
  refine (U64_nil _).mono ?_
  rintro e w1 ⟨rfl, hw⟩
  obtain ⟨v1, he, hB⟩ := err_gen hw
  rw [he.1]
  have E1 := Lib.hid he.2
  clear he hw
  replace K0 := Lib.hid (keep_cell' hB K0.out)
  replace K1 := Lib.hid (keep_cell' hB K1.out)
  replace E0 := Lib.hid (E0.out.keep hB)
  replace HB := Lib.hid (trans' HB.out hB)
  clear hB
  go_wp2_with fail
  refine (Text_nil 0 _).mono ?_
  rintro e w1 ⟨rfl, hw⟩
  obtain ⟨v2, he, hB⟩ := err_gen hw
  rw [he.1]
  have E2 := Lib.hid he.2
  clear he hw
  replace K0 := Lib.hid (keep_cell' hB K0.out)
  replace K1 := Lib.hid (keep_cell' hB K1.out)
  replace E0 := Lib.hid (E0.out.keep hB)
  replace E1 := Lib.hid (E1.out.keep hB)
  replace HB := Lib.hid (trans' HB.out hB)
  clear hB
  go_wp2_with fail
  refine (Text_nil (-1) _).mono ?_
  rintro e w1 ⟨rfl, hw⟩
  obtain ⟨v3, he, hB⟩ := err_gen hw
  rw [he.1]
  have E3 := Lib.hid he.2
  clear he hw
  replace K0 := Lib.hid (keep_cell' hB K0.out)
  replace K1 := Lib.hid (keep_cell' hB K1.out)
  replace E0 := Lib.hid (E0.out.keep hB)
  replace E1 := Lib.hid (E1.out.keep hB)
  replace E2 := Lib.hid (E2.out.keep hB)
  replace HB := Lib.hid (trans' HB.out hB)
  clear hB
  have m3 := cv_made
  go_wp2_with fail
  have hB := (Below.refl w1.heap.size w1).alloc (Nat.le_refl _) (.cells (madeCells #[.int .u8 0] 255) 5)
  generalize w1.alloc (.cells (madeCells #[.int .u8 0] 255) 5) = w2 at hB ⊢
  replace K0 := Lib.hid (keep_cell' hB K0.out)
  replace K1 := Lib.hid (keep_cell' hB K1.out)
  replace E0 := Lib.hid (E0.out.keep hB)
  replace E1 := Lib.hid (E1.out.keep hB)
  replace E2 := Lib.hid (E2.out.keep hB)
  replace E3 := Lib.hid (E3.out.keep hB)
  replace HB := Lib.hid (trans' HB.out hB)
  clear hB
  clear m1 m3
  have c1 := cat1
  have c2 := cat2
  go_wp2_with fail
  refine (New_any s2B _).mono ?_
  rintro e w3 ⟨rfl, hr, hB, hs⟩
  have R1 : Hid (Rdr w3 w2.heap.size s2B 0) := Rdr.start hr s2_size
  have hp1 : w.heap.size ≤ w2.heap.size := HB.out.size
  have hn1 : w.heap.size ≠ w2.heap.size := Nat.ne_of_lt (World.block_lt_of_cell? _ _ K0.out)
  have hs3 : w2.heap.size < w3.heap.size := by rw [hs]; omega
  clear hr hs c1 c2
  replace K0 := Lib.hid (keep_cell' hB K0.out)
  replace K1 := Lib.hid (keep_cell' hB K1.out)
  replace E0 := Lib.hid (E0.out.keep hB)
  replace E1 := Lib.hid (E1.out.keep hB)
  replace E2 := Lib.hid (E2.out.keep hB)
  replace E3 := Lib.hid (E3.out.keep hB)
  replace HB := Lib.hid (trans' HB.out hB)
  clear hB
  go_wp2_with fail
  refine (New_any ⟨#[0]⟩ _).mono ?_
  rintro e w4 ⟨rfl, hr, hB, hs⟩
  have R2 : Hid (Rdr w4 w3.heap.size ⟨#[0]⟩ 0) := Rdr.start hr (by decide)
  have hp2 : w.heap.size ≤ w3.heap.size := HB.out.size
  have hn2 : w.heap.size ≠ w3.heap.size := by omega
  have hn12 : w2.heap.size ≠ w3.heap.size := by omega
  clear hr hs hs3
  replace K0 := Lib.hid (keep_cell' hB K0.out)
  replace K1 := Lib.hid (keep_cell' hB K1.out)
  replace E0 := Lib.hid (E0.out.keep hB)
  replace E1 := Lib.hid (E1.out.keep hB)
  replace E2 := Lib.hid (E2.out.keep hB)
  replace E3 := Lib.hid (E3.out.keep hB)
  replace R1 := Lib.hid (R1.out.keep hB)
  replace HB := Lib.hid (trans' HB.out hB)
  clear hB
  go_wp2_with fail
  refine (Text_all HB.out hp1 R1.out).mono ?_
  rintro e w5 (⟨hc, _⟩ | ⟨_, _, rfl, hr, hg, hB⟩)
  · exact absurd s2_code hc
  rw [s2_text]
  rw [s2_len] at hr
  replace K0 := Lib.hid (cell_other hg K0.out hn1)
  replace K1 := Lib.hid (cell_other hg K1.out hn1)
  replace E0 := Lib.hid (E0.out.other hg R1.out (rdr_no_fault R1.out))
  replace E1 := Lib.hid (E1.out.other hg R1.out (rdr_no_fault R1.out))
  replace E2 := Lib.hid (E2.out.other hg R1.out (rdr_no_fault R1.out))
  replace E3 := Lib.hid (E3.out.other hg R1.out (rdr_no_fault R1.out))
  replace R2 := Lib.hid (R2.out.other hg hn12.symm)
  replace R1 := Lib.hid hr
  replace HB := Lib.hid hB
  clear hr hg hB
  go_wp2_with fail
  refine (text_rd (-1) HB.out hp2 R2.out).mono ?_
  rintro e w6 ⟨v6, rfl, he, _, hr, hg, hB⟩
  rw [show tCode (-1) ⟨#[0]⟩ = 2 by decide, show atF 2 0 = 0 by decide] at he
  rw [show txL (-1) ⟨#[0]⟩ = 0 by decide] at hr
  replace K0 := Lib.hid (cell_other hg K0.out hn2)
  replace K1 := Lib.hid (cell_other hg K1.out hn2)
  replace E0 := Lib.hid (E0.out.other hg R2.out (rdr_no_fault R2.out))
  replace E1 := Lib.hid (E1.out.other hg R2.out (rdr_no_fault R2.out))
  replace E2 := Lib.hid (E2.out.other hg R2.out (rdr_no_fault R2.out))
  replace E3 := Lib.hid (E3.out.other hg R2.out (rdr_no_fault R2.out))
  replace R1 := Lib.hid (R1.out.other hg hn12)
  have E6 := Lib.hid he
  replace R2 := Lib.hid hr
  replace HB := Lib.hid hB
  clear hr hg hB he
  go_wp2_with fail
  refine (Text_all HB.out hp2 R2.out).mono ?_
  rintro e w7 (⟨hc, _⟩ | ⟨_, _, rfl, hr, hg, hB⟩)
  · exact absurd (show tCode 0 (dropB ⟨#[0]⟩ 0) = 0 by decide) hc
  rw [show tText (dropB ⟨#[0]⟩ 0) = ⟨#[]⟩ by decide]
  rw [show tLen (dropB ⟨#[0]⟩ 0) = 1 by decide] at hr
  replace K0 := Lib.hid (cell_other hg K0.out hn2)
  replace K1 := Lib.hid (cell_other hg K1.out hn2)
  replace E0 := Lib.hid (E0.out.other hg R2.out (rdr_no_fault R2.out))
  replace E1 := Lib.hid (E1.out.other hg R2.out (rdr_no_fault R2.out))
  replace E2 := Lib.hid (E2.out.other hg R2.out (rdr_no_fault R2.out))
  replace E3 := Lib.hid (E3.out.other hg R2.out (rdr_no_fault R2.out))
  replace E6 := Lib.hid (E6.out.other hg R2.out (rdr_no_fault R2.out))
  replace R1 := Lib.hid (R1.out.other hg hn12)
  replace R2 := Lib.hid hr
  replace HB := Lib.hid hB
  clear hr hg hB
  go_wp2_with fail
  refine (text_rd 9 HB.out hp2 R2.out).mono ?_
  rintro e w8 ⟨v8, rfl, he, _, hr, hg, hB⟩
  rw [show tCode 9 (dropB (dropB ⟨#[0]⟩ 0) 1) = 3 by decide, show atF 3 (0 + ((0 : Nat) : Int) + ((1 : Nat) : Int)) = 1 by decide] at he
  replace K0 := Lib.hid (cell_other hg K0.out hn2)
  replace K1 := Lib.hid (cell_other hg K1.out hn2)
  replace E0 := Lib.hid (E0.out.other hg R2.out (rdr_no_fault R2.out))
  replace E1 := Lib.hid (E1.out.other hg R2.out (rdr_no_fault R2.out))
  replace E2 := Lib.hid (E2.out.other hg R2.out (rdr_no_fault R2.out))
  replace E3 := Lib.hid (E3.out.other hg R2.out (rdr_no_fault R2.out))
  replace E6 := Lib.hid (E6.out.other hg R2.out (rdr_no_fault R2.out))
  replace R1 := Lib.hid (R1.out.other hg hn12)
  have E8 := Lib.hid he
  replace HB := Lib.hid hB
  clear hr hg hB he R2
  go_wp2_with fail
  have hroom := made_rd w8 8 1 (by decide)
  have hB := (Below.refl w8.heap.size w8).alloc (Nat.le_refl _) (.cells (madeCells #[.int .u8 0] 8) 5)
  generalize hvr : Value.slice (some ⟨w8.heap.size, 0, none⟩) 1 8 = vr at hroom ⊢
  generalize w8.alloc (.cells (madeCells #[.int .u8 0] 8) 5) = w9 at hB hroom ⊢
  clear hvr m2
  replace K0 := Lib.hid (keep_cell' hB K0.out)
  replace K1 := Lib.hid (keep_cell' hB K1.out)
  replace E0 := Lib.hid (E0.out.keep hB)
  replace E1 := Lib.hid (E1.out.keep hB)
  replace E2 := Lib.hid (E2.out.keep hB)
  replace E3 := Lib.hid (E3.out.keep hB)
  replace E6 := Lib.hid (E6.out.keep hB)
  replace E8 := Lib.hid (E8.out.keep hB)
  replace R1 := Lib.hid (R1.out.keep hB)
  replace HB := Lib.hid (trans' HB.out hB)
  clear hB
  go_wp2_with fail
  have HRM := Lib.hid hroom
  clear hroom
  refine (P8_any vr [0] 1 _ HRM.out (by decide) (by decide) (by decide)).mono ?_
  rintro e w10 ⟨vx, rfl, hown, hB⟩
  have XX : Hid (RdB w10 vx [0, 1]) := RdB.own hown
  replace HRM := Lib.hid (HRM.out.below hB)
  clear hown
  replace K0 := Lib.hid (keep_cell' hB K0.out)
  replace K1 := Lib.hid (keep_cell' hB K1.out)
  replace E0 := Lib.hid (E0.out.keep hB)
  replace E1 := Lib.hid (E1.out.keep hB)
  replace E2 := Lib.hid (E2.out.keep hB)
  replace E3 := Lib.hid (E3.out.keep hB)
  replace E6 := Lib.hid (E6.out.keep hB)
  replace E8 := Lib.hid (E8.out.keep hB)
  replace R1 := Lib.hid (R1.out.keep hB)
  replace HB := Lib.hid (trans' HB.out hB)
  clear hB
  go_wp2_with fail
  refine (P8_any vr [0] 2 _ HRM.out (by decide) (by decide) (by decide)).mono ?_
  rintro e wk ⟨vy, rfl, hown, hB⟩
  have XY : Hid (RdB wk vy [0, 2]) := RdB.own hown
  clear hown HRM
  replace K0 := Lib.hid (keep_cell' hB K0.out)
  replace K1 := Lib.hid (keep_cell' hB K1.out)
  replace E0 := Lib.hid (E0.out.keep hB)
  replace E1 := Lib.hid (E1.out.keep hB)
  replace E2 := Lib.hid (E2.out.keep hB)
  replace E3 := Lib.hid (E3.out.keep hB)
  replace E6 := Lib.hid (E6.out.keep hB)
  replace E8 := Lib.hid (E8.out.keep hB)
  replace R1 := Lib.hid (R1.out.keep hB)
  replace XX := Lib.hid (XX.out.below hB)
  replace HB := Lib.hid (trans' HB.out hB)
  clear hB
  have HMK : Hid (∀ wa, Below wk.heap.size wk wa → (wa.cell? ⟨w.heap.size, 0, none⟩ = some (.int .i64 1) ∧ wa.cell? ⟨w.heap.size, 1, none⟩ = some (.int .i64 0)) ∧ ((convert 22 9 vx).run Tryd.prog wa = .ok (.string ⟨#[0, 1]⟩) wa ∧ (convert 22 9 vy).run Tryd.prog wa = .ok (.string ⟨#[0, 2]⟩) wa) ∧ Below wk.heap.size wk wa) := fun wa h => ⟨⟨keep_cell' h K0.out, keep_cell' h K1.out⟩, ⟨cv_str (X := ⟨#[0, 1]⟩) (XX.out.below h), cv_str (X := ⟨#[0, 2]⟩) (XY.out.below h)⟩, h⟩
  have HE := Lib.hid (hE.below HB.out)
  clear K0 K1 XX XY
  have c3 := cat3
  go_wp2_with fail
  simp only [List.append_eq, List.cons_append, List.nil_append]
  have hcc := fun W => Lib.run_convert_bytes_const (P := Tryd.prog) W 22 5 #[.int .u8 113] 1 1 Tryd.underlying22 Tryd.underlying5
  have HS0 := HMK.out wk (Below.refl _ _)
  refine wp_region_held_drew (S := fun wa => (wa.cell? ⟨w.heap.size, 0, none⟩ = some (.int .i64 1) ∧ wa.cell? ⟨w.heap.size, 1, none⟩ = some (.int .i64 0)) ∧ ((convert 22 9 vx).run Tryd.prog wa = .ok (.string ⟨#[0, 1]⟩) wa ∧ (convert 22 9 vy).run Tryd.prog wa = .ok (.string ⟨#[0, 2]⟩) wa) ∧ Below wk.heap.size wk wa) (by kernel_rfl) ?hSsk (fun hHeld => ?restSk)
  case hSsk => exact HMK.out _ HS0.2.2.drew
  refine wpAnyH_take (i := 0) (v := ?v0k) rfl (by kernel_rfl) (by kernel_rfl) (by kernel_rfl) (fun _ _ _ h => h) (Or.inl ⟨by rfl, ?hy0k⟩) (by assumption) ?rest0k
  case hy0k =>
    intro w hSw
    (try dsimp only at hSw)
    go_simp
    all_goals with_reducible rfl
  try simp only [Act.put, List.getElem_toArray, List.getElem_cons_succ, List.getElem_cons_zero, List.setIfInBounds_toArray, List.set_cons_zero, List.set_cons_succ]
  as_aux_lemma =>
    refine wpAnyH_ready (rs := [1]) (by kernel_rfl) (by simp) ?_
    refine AllReadyH.cons rfl (fun K hK => ?_) AllReadyH.nil
    try go_simp
    go_at_call 12
    refine (works_any _ (HE.out.below hHeld.2.2)).mono ?_
    rintro e w1 ⟨rfl, hBs⟩
    refine hK.out _ _ ?hSc1k (fun hHeld => ?restc1k)
    case hSc1k => exact HMK.out _ (trans' hHeld.2.2 hBs)
    clear hK K
    try simp only [Act.put, List.getElem_toArray, List.getElem_cons_succ, List.getElem_cons_zero, List.setIfInBounds_toArray, List.set_cons_zero, List.set_cons_succ]
    refine wpAnyH_take (i := 2) (v := ?v2k) rfl (by kernel_rfl) (by kernel_rfl) (by kernel_rfl) (fun _ _ _ h => h) (Or.inl ⟨by rfl, ?hy2k⟩) (by assumption) ?rest2k
    case hy2k =>
      intro w hSw
      (try dsimp only at hSw)
      go_simp
      all_goals with_reducible rfl
    try simp only [Act.put, List.getElem_toArray, List.getElem_cons_succ, List.getElem_cons_zero, List.setIfInBounds_toArray, List.set_cons_zero, List.set_cons_succ]
    refine wpAnyH_take (i := 3) (v := ?v3k) rfl (by kernel_rfl) (by kernel_rfl) (by kernel_rfl) (fun _ _ _ h => h) (Or.inl ⟨by rfl, ?hy3k⟩) (by assumption) ?rest3k
    case hy3k =>
      intro w hSw
      (try dsimp only at hSw)
      go_simp
      all_goals with_reducible rfl
    try simp only [Act.put, List.getElem_toArray, List.getElem_cons_succ, List.getElem_cons_zero, List.setIfInBounds_toArray, List.set_cons_zero, List.set_cons_succ]
    refine wpAnyH_take (i := 4) (v := ?v4k) rfl (by kernel_rfl) (by kernel_rfl) (by kernel_rfl) (fun _ _ _ h => h) (Or.inl ⟨by rfl, ?hy4k⟩) (by assumption) ?rest4k
    case hy4k =>
      intro w hSw
      (try dsimp only at hSw)
      go_simp
      all_goals with_reducible rfl
    try simp only [Act.put, List.getElem_toArray, List.getElem_cons_succ, List.getElem_cons_zero, List.setIfInBounds_toArray, List.set_cons_zero, List.set_cons_succ]
    refine wpAnyH_take (i := 5) (v := ?v5k) rfl (by kernel_rfl) (by kernel_rfl) (by kernel_rfl) (fun _ _ _ h => h) (Or.inl ⟨by rfl, ?hy5k⟩) (by assumption) ?rest5k
    case hy5k =>
      intro w hSw
      (try dsimp only at hSw)
      go_simp
      all_goals with_reducible rfl
    try simp only [Act.put, List.getElem_toArray, List.getElem_cons_succ, List.getElem_cons_zero, List.setIfInBounds_toArray, List.set_cons_zero, List.set_cons_succ]
    refine wpAnyH_take (i := 6) (v := ?v6k) rfl (by kernel_rfl) (by kernel_rfl) (by kernel_rfl) (fun _ _ _ h => h) (Or.inl ⟨by rfl, ?hy6k⟩) (by assumption) ?rest6k
    case hy6k =>
      intro w hSw
      (try dsimp only at hSw)
      go_simp
      all_goals with_reducible rfl
    try simp only [Act.put, List.getElem_toArray, List.getElem_cons_succ, List.getElem_cons_zero, List.setIfInBounds_toArray, List.set_cons_zero, List.set_cons_succ]
    refine wpAnyH_take (i := 7) (v := ?v7k) rfl (by kernel_rfl) (by kernel_rfl) (by kernel_rfl) (fun _ _ _ h => h) (Or.inl ⟨by rfl, ?hy7k⟩) (by assumption) ?rest7k
    case hy7k =>
      intro w hSw
      (try dsimp only at hSw)
      go_simp
      all_goals with_reducible rfl
    try simp only [Act.put, List.getElem_toArray, List.getElem_cons_succ, List.getElem_cons_zero, List.setIfInBounds_toArray, List.set_cons_zero, List.set_cons_succ]
    refine wpAnyH_take (i := 8) (v := ?v8k) rfl (by kernel_rfl) (by kernel_rfl) (by kernel_rfl) (fun _ _ _ h => h) (Or.inl ⟨by rfl, ?hy8k⟩) (by assumption) ?rest8k
    case hy8k =>
      intro w hSw
      (try dsimp only at hSw)
      go_simp
      all_goals with_reducible rfl
    try simp only [Act.put, List.getElem_toArray, List.getElem_cons_succ, List.getElem_cons_zero, List.setIfInBounds_toArray, List.set_cons_zero, List.set_cons_succ]
    refine wpAnyH_take (i := 9) (v := ?v9k) rfl (by kernel_rfl) (by kernel_rfl) (by kernel_rfl) (fun _ _ _ h => h) (Or.inl ⟨by rfl, ?hy9k⟩) (by assumption) ?rest9k
    case hy9k =>
      intro w hSw
      (try dsimp only at hSw)
      go_simp
      all_goals with_reducible rfl
    try simp only [Act.put, List.getElem_toArray, List.getElem_cons_succ, List.getElem_cons_zero, List.setIfInBounds_toArray, List.set_cons_zero, List.set_cons_succ]
    as_aux_lemma =>
      refine wpAnyH_ready (rs := [10]) (by kernel_rfl) (by simp) ?_
      refine AllReadyH.cons rfl (fun K hK => ?_) AllReadyH.nil
      try go_simp
      go_at_call 18
      refine (is_any _ _ _ _ (E0.out.keep hHeld.2.2) (HE.out.below hHeld.2.2)).mono ?_
      rintro e w1 ⟨rfl, hBs⟩
      refine hK.out _ _ ?hSc10k (fun hHeld => ?restc10k)
      case hSc10k => exact HMK.out _ (trans' hHeld.2.2 hBs)
      clear hK K
      try simp only [Act.put, List.getElem_toArray, List.getElem_cons_succ, List.getElem_cons_zero, List.setIfInBounds_toArray, List.set_cons_zero, List.set_cons_succ]
      refine wpAnyH_take (i := 11) (v := ?v11k) rfl (by kernel_rfl) (by kernel_rfl) (by kernel_rfl) (fun _ _ _ h => h) (Or.inl ⟨by rfl, ?hy11k⟩) (by assumption) ?rest11k
      case hy11k =>
        intro w hSw
        (try dsimp only at hSw)
        go_simp
        all_goals with_reducible rfl
      try simp only [Act.put, List.getElem_toArray, List.getElem_cons_succ, List.getElem_cons_zero, List.setIfInBounds_toArray, List.set_cons_zero, List.set_cons_succ]
      refine wpAnyH_take (i := 12) (v := ?v12k) rfl (by kernel_rfl) (by kernel_rfl) (by kernel_rfl) (fun _ _ _ h => h) (Or.inl ⟨by rfl, ?hy12k⟩) (by assumption) ?rest12k
      case hy12k =>
        intro w hSw
        (try dsimp only at hSw)
        go_simp
        all_goals with_reducible rfl
      try simp only [Act.put, List.getElem_toArray, List.getElem_cons_succ, List.getElem_cons_zero, List.setIfInBounds_toArray, List.set_cons_zero, List.set_cons_succ]
      refine wpAnyH_take (i := 13) (v := ?v13k) rfl (by kernel_rfl) (by kernel_rfl) (by kernel_rfl) (fun _ _ _ h => h) (Or.inl ⟨by rfl, ?hy13k⟩) (by assumption) ?rest13k
      case hy13k =>
        intro w hSw
        (try dsimp only at hSw)
        go_simp
        all_goals with_reducible rfl
      try simp only [Act.put, List.getElem_toArray, List.getElem_cons_succ, List.getElem_cons_zero, List.setIfInBounds_toArray, List.set_cons_zero, List.set_cons_succ]
      refine wpAnyH_take (i := 14) (v := ?v14k) rfl (by kernel_rfl) (by kernel_rfl) (by kernel_rfl) (fun _ _ _ h => h) (Or.inl ⟨by rfl, ?hy14k⟩) (by assumption) ?rest14k
      case hy14k =>
        intro w hSw
        (try dsimp only at hSw)
        go_simp
        all_goals with_reducible rfl
      try simp only [Act.put, List.getElem_toArray, List.getElem_cons_succ, List.getElem_cons_zero, List.setIfInBounds_toArray, List.set_cons_zero, List.set_cons_succ]
      refine wpAnyH_take (i := 15) (v := ?v15k) rfl (by kernel_rfl) (by kernel_rfl) (by kernel_rfl) (fun _ _ _ h => h) (Or.inl ⟨by rfl, ?hy15k⟩) (by assumption) ?rest15k
      case hy15k =>
        intro w hSw
        (try dsimp only at hSw)
        go_simp
        all_goals with_reducible rfl
      try simp only [Act.put, List.getElem_toArray, List.getElem_cons_succ, List.getElem_cons_zero, List.setIfInBounds_toArray, List.set_cons_zero, List.set_cons_succ]
      refine wpAnyH_take (i := 16) (v := ?v16k) rfl (by kernel_rfl) (by kernel_rfl) (by kernel_rfl) (fun _ _ _ h => h) (Or.inl ⟨by rfl, ?hy16k⟩) (by assumption) ?rest16k
      case hy16k =>
        intro w hSw
        (try dsimp only at hSw)
        go_simp
        all_goals with_reducible rfl
      try simp only [Act.put, List.getElem_toArray, List.getElem_cons_succ, List.getElem_cons_zero, List.setIfInBounds_toArray, List.set_cons_zero, List.set_cons_succ]
      refine wpAnyH_take (i := 17) (v := ?v17k) rfl (by kernel_rfl) (by kernel_rfl) (by kernel_rfl) (fun _ _ _ h => h) (Or.inl ⟨by rfl, ?hy17k⟩) (by assumption) ?rest17k
      case hy17k =>
        intro w hSw
        (try dsimp only at hSw)
        go_simp
        all_goals with_reducible rfl
      try simp only [Act.put, List.getElem_toArray, List.getElem_cons_succ, List.getElem_cons_zero, List.setIfInBounds_toArray, List.set_cons_zero, List.set_cons_succ]
      refine wpAnyH_take (i := 18) (v := ?v18k) rfl (by kernel_rfl) (by kernel_rfl) (by kernel_rfl) (fun _ _ _ h => h) (Or.inl ⟨by rfl, ?hy18k⟩) (by assumption) ?rest18k
      case hy18k =>
        intro w hSw
        (try dsimp only at hSw)
        go_simp
        all_goals with_reducible rfl
      try simp only [Act.put, List.getElem_toArray, List.getElem_cons_succ, List.getElem_cons_zero, List.setIfInBounds_toArray, List.set_cons_zero, List.set_cons_succ]
      as_aux_lemma =>
        refine wpAnyH_ready (rs := [19]) (by kernel_rfl) (by simp) ?_
        refine AllReadyH.cons rfl (fun K hK => ?_) AllReadyH.nil
        try go_simp
        go_at_call 18
        refine (is_any _ _ _ _ (E1.out.keep hHeld.2.2) (HE.out.below hHeld.2.2)).mono ?_
        rintro e w1 ⟨rfl, hBs⟩
        refine hK.out _ _ ?hSc19k (fun hHeld => ?restc19k)
        case hSc19k => exact HMK.out _ (trans' hHeld.2.2 hBs)
        clear hK K
        try simp only [Act.put, List.getElem_toArray, List.getElem_cons_succ, List.getElem_cons_zero, List.setIfInBounds_toArray, List.set_cons_zero, List.set_cons_succ]
        refine wpAnyH_take (i := 20) (v := ?v20k) rfl (by kernel_rfl) (by kernel_rfl) (by kernel_rfl) (fun _ _ _ h => h) (Or.inl ⟨by rfl, ?hy20k⟩) (by assumption) ?rest20k
        case hy20k =>
          intro w hSw
          (try dsimp only at hSw)
          go_simp
          all_goals with_reducible rfl
        try simp only [Act.put, List.getElem_toArray, List.getElem_cons_succ, List.getElem_cons_zero, List.setIfInBounds_toArray, List.set_cons_zero, List.set_cons_succ]
        refine wpAnyH_take (i := 21) (v := ?v21k) rfl (by kernel_rfl) (by kernel_rfl) (by kernel_rfl) (fun _ _ _ h => h) (Or.inl ⟨by rfl, ?hy21k⟩) (by assumption) ?rest21k
        case hy21k =>
          intro w hSw
          (try dsimp only at hSw)
          go_simp
          all_goals with_reducible rfl
        try simp only [Act.put, List.getElem_toArray, List.getElem_cons_succ, List.getElem_cons_zero, List.setIfInBounds_toArray, List.set_cons_zero, List.set_cons_succ]
        refine wpAnyH_take (i := 22) (v := ?v22k) rfl (by kernel_rfl) (by kernel_rfl) (by kernel_rfl) (fun _ _ _ h => h) (Or.inl ⟨by rfl, ?hy22k⟩) (by assumption) ?rest22k
        case hy22k =>
          intro w hSw
          (try dsimp only at hSw)
          go_simp
          all_goals with_reducible rfl
        try simp only [Act.put, List.getElem_toArray, List.getElem_cons_succ, List.getElem_cons_zero, List.setIfInBounds_toArray, List.set_cons_zero, List.set_cons_succ]
        refine wpAnyH_take (i := 23) (v := ?v23k) rfl (by kernel_rfl) (by kernel_rfl) (by kernel_rfl) (fun _ _ _ h => h) (Or.inl ⟨by rfl, ?hy23k⟩) (by assumption) ?rest23k
        case hy23k =>
          intro w hSw
          (try dsimp only at hSw)
          go_simp
          all_goals with_reducible rfl
        try simp only [Act.put, List.getElem_toArray, List.getElem_cons_succ, List.getElem_cons_zero, List.setIfInBounds_toArray, List.set_cons_zero, List.set_cons_succ]
        refine wpAnyH_take (i := 24) (v := ?v24k) rfl (by kernel_rfl) (by kernel_rfl) (by kernel_rfl) (fun _ _ _ h => h) (Or.inl ⟨by rfl, ?hy24k⟩) (by assumption) ?rest24k
        case hy24k =>
          intro w hSw
          (try dsimp only at hSw)
          go_simp
          all_goals with_reducible rfl
        try simp only [Act.put, List.getElem_toArray, List.getElem_cons_succ, List.getElem_cons_zero, List.setIfInBounds_toArray, List.set_cons_zero, List.set_cons_succ]
        refine wpAnyH_take (i := 25) (v := ?v25k) rfl (by kernel_rfl) (by kernel_rfl) (by kernel_rfl) (fun _ _ _ h => h) (Or.inl ⟨by rfl, ?hy25k⟩) (by assumption) ?rest25k
        case hy25k =>
          intro w hSw
          (try dsimp only at hSw)
          go_simp
          all_goals with_reducible rfl
        try simp only [Act.put, List.getElem_toArray, List.getElem_cons_succ, List.getElem_cons_zero, List.setIfInBounds_toArray, List.set_cons_zero, List.set_cons_succ]
        refine wpAnyH_take (i := 26) (v := ?v26k) rfl (by kernel_rfl) (by kernel_rfl) (by kernel_rfl) (fun _ _ _ h => h) (Or.inl ⟨by rfl, ?hy26k⟩) (by assumption) ?rest26k
        case hy26k =>
          intro w hSw
          (try dsimp only at hSw)
          go_simp
          all_goals with_reducible rfl
        try simp only [Act.put, List.getElem_toArray, List.getElem_cons_succ, List.getElem_cons_zero, List.setIfInBounds_toArray, List.set_cons_zero, List.set_cons_succ]
        refine wpAnyH_take (i := 27) (v := ?v27k) rfl (by kernel_rfl) (by kernel_rfl) (by kernel_rfl) (fun _ _ _ h => h) (Or.inl ⟨by rfl, ?hy27k⟩) (by assumption) ?rest27k
        case hy27k =>
          intro w hSw
          (try dsimp only at hSw)
          go_simp
          all_goals with_reducible rfl
        try simp only [Act.put, List.getElem_toArray, List.getElem_cons_succ, List.getElem_cons_zero, List.setIfInBounds_toArray, List.set_cons_zero, List.set_cons_succ]
        as_aux_lemma =>
          refine wpAnyH_ready (rs := [28]) (by kernel_rfl) (by simp) ?_
          refine AllReadyH.cons rfl (fun K hK => ?_) AllReadyH.nil
          try go_simp
          go_at_call 18
          refine (is_any _ _ _ _ (E2.out.keep hHeld.2.2) (HE.out.below hHeld.2.2)).mono ?_
          rintro e w1 ⟨rfl, hBs⟩
          refine hK.out _ _ ?hSc28k (fun hHeld => ?restc28k)
          case hSc28k => exact HMK.out _ (trans' hHeld.2.2 hBs)
          clear hK K
          try simp only [Act.put, List.getElem_toArray, List.getElem_cons_succ, List.getElem_cons_zero, List.setIfInBounds_toArray, List.set_cons_zero, List.set_cons_succ]
          refine wpAnyH_take (i := 29) (v := ?v29k) rfl (by kernel_rfl) (by kernel_rfl) (by kernel_rfl) (fun _ _ _ h => h) (Or.inl ⟨by rfl, ?hy29k⟩) (by assumption) ?rest29k
          case hy29k =>
            intro w hSw
            (try dsimp only at hSw)
            go_simp
            all_goals with_reducible rfl
          try simp only [Act.put, List.getElem_toArray, List.getElem_cons_succ, List.getElem_cons_zero, List.setIfInBounds_toArray, List.set_cons_zero, List.set_cons_succ]
          refine wpAnyH_take (i := 30) (v := ?v30k) rfl (by kernel_rfl) (by kernel_rfl) (by kernel_rfl) (fun _ _ _ h => h) (Or.inl ⟨by rfl, ?hy30k⟩) (by assumption) ?rest30k
          case hy30k =>
            intro w hSw
            (try dsimp only at hSw)
            go_simp
            all_goals with_reducible rfl
          try simp only [Act.put, List.getElem_toArray, List.getElem_cons_succ, List.getElem_cons_zero, List.setIfInBounds_toArray, List.set_cons_zero, List.set_cons_succ]
          refine wpAnyH_take (i := 31) (v := ?v31k) rfl (by kernel_rfl) (by kernel_rfl) (by kernel_rfl) (fun _ _ _ h => h) (Or.inl ⟨by rfl, ?hy31k⟩) (by assumption) ?rest31k
          case hy31k =>
            intro w hSw
            (try dsimp only at hSw)
            go_simp
            all_goals with_reducible rfl
          try simp only [Act.put, List.getElem_toArray, List.getElem_cons_succ, List.getElem_cons_zero, List.setIfInBounds_toArray, List.set_cons_zero, List.set_cons_succ]
          refine wpAnyH_take (i := 32) (v := ?v32k) rfl (by kernel_rfl) (by kernel_rfl) (by kernel_rfl) (fun _ _ _ h => h) (Or.inl ⟨by rfl, ?hy32k⟩) (by assumption) ?rest32k
          case hy32k =>
            intro w hSw
            (try dsimp only at hSw)
            go_simp
            all_goals with_reducible rfl
          try simp only [Act.put, List.getElem_toArray, List.getElem_cons_succ, List.getElem_cons_zero, List.setIfInBounds_toArray, List.set_cons_zero, List.set_cons_succ]
          as_aux_lemma =>
            refine wpAnyH_ready (rs := [33]) (by kernel_rfl) (by simp) ?_
            refine AllReadyH.cons rfl (fun K hK => ?_) AllReadyH.nil
            try go_simp
            go_at_call 18
            refine (is_any _ _ _ _ (E3.out.keep hHeld.2.2) (HE.out.below hHeld.2.2)).mono ?_
            rintro e w1 ⟨rfl, hBs⟩
            refine hK.out _ _ ?hSc33k (fun hHeld => ?restc33k)
            case hSc33k => exact HMK.out _ (trans' hHeld.2.2 hBs)
            clear hK K
            try simp only [Act.put, List.getElem_toArray, List.getElem_cons_succ, List.getElem_cons_zero, List.setIfInBounds_toArray, List.set_cons_zero, List.set_cons_succ]
            refine wpAnyH_take (i := 34) (v := ?v34k) rfl (by kernel_rfl) (by kernel_rfl) (by kernel_rfl) (fun _ _ _ h => h) (Or.inl ⟨by rfl, ?hy34k⟩) (by assumption) ?rest34k
            case hy34k =>
              intro w hSw
              (try dsimp only at hSw)
              go_simp
              all_goals with_reducible rfl
            try simp only [Act.put, List.getElem_toArray, List.getElem_cons_succ, List.getElem_cons_zero, List.setIfInBounds_toArray, List.set_cons_zero, List.set_cons_succ]
            refine wpAnyH_take (i := 35) (v := ?v35k) rfl (by kernel_rfl) (by kernel_rfl) (by kernel_rfl) (fun _ _ _ h => h) (Or.inl ⟨by rfl, ?hy35k⟩) (by assumption) ?rest35k
            case hy35k =>
              intro w hSw
              (try dsimp only at hSw)
              go_simp
              all_goals with_reducible rfl
            try simp only [Act.put, List.getElem_toArray, List.getElem_cons_succ, List.getElem_cons_zero, List.setIfInBounds_toArray, List.set_cons_zero, List.set_cons_succ]
            refine wpAnyH_take (i := 36) (v := ?v36k) rfl (by kernel_rfl) (by kernel_rfl) (by kernel_rfl) (fun _ _ _ h => h) (Or.inl ⟨by rfl, ?hy36k⟩) (by assumption) ?rest36k
            case hy36k =>
              intro w hSw
              (try dsimp only at hSw)
              go_simp
              all_goals with_reducible rfl
            try simp only [Act.put, List.getElem_toArray, List.getElem_cons_succ, List.getElem_cons_zero, List.setIfInBounds_toArray, List.set_cons_zero, List.set_cons_succ]
            refine wpAnyH_ready (rs := [37]) (by kernel_rfl) (by simp) ?_
            refine AllReadyH.cons rfl (fun K hK => ?_) AllReadyH.nil
            try go_simp
            go_at_call 19
            refine (Place_nil _).mono ?_
            rintro e w1 ⟨rfl, rfl⟩
            refine hK.out _ _ ?hSc37k (fun hHeld => ?restc37k)
            case hSc37k => exact hHeld
            clear hK K
            try simp only [Act.put, List.getElem_toArray, List.getElem_cons_succ, List.getElem_cons_zero, List.setIfInBounds_toArray, List.set_cons_zero, List.set_cons_succ]
            refine wpAnyH_take (i := 38) (v := ?v38k) rfl (by kernel_rfl) (by kernel_rfl) (by kernel_rfl) (fun _ _ _ h => h) (Or.inl ⟨by rfl, ?hy38k⟩) (by assumption) ?rest38k
            case hy38k =>
              intro w hSw
              (try dsimp only at hSw)
              go_simp
              all_goals with_reducible rfl
            try simp only [Act.put, List.getElem_toArray, List.getElem_cons_succ, List.getElem_cons_zero, List.setIfInBounds_toArray, List.set_cons_zero, List.set_cons_succ]
            refine wpAnyH_take (i := 39) (v := ?v39k) rfl (by kernel_rfl) (by kernel_rfl) (by kernel_rfl) (fun _ _ _ h => h) (Or.inl ⟨by rfl, ?hy39k⟩) (by assumption) ?rest39k
            case hy39k =>
              intro w hSw
              (try dsimp only at hSw)
              go_simp
              all_goals with_reducible rfl
            try simp only [Act.put, List.getElem_toArray, List.getElem_cons_succ, List.getElem_cons_zero, List.setIfInBounds_toArray, List.set_cons_zero, List.set_cons_succ]
            refine wpAnyH_take (i := 40) (v := ?v40k) rfl (by kernel_rfl) (by kernel_rfl) (by kernel_rfl) (fun _ _ _ h => h) (Or.inl ⟨by rfl, ?hy40k⟩) (by assumption) ?rest40k
            case hy40k =>
              intro w hSw
              (try dsimp only at hSw)
              go_simp
              all_goals with_reducible rfl
            try simp only [Act.put, List.getElem_toArray, List.getElem_cons_succ, List.getElem_cons_zero, List.setIfInBounds_toArray, List.set_cons_zero, List.set_cons_succ]
            refine wpAnyH_take (i := 41) (v := ?v41k) rfl (by kernel_rfl) (by kernel_rfl) (by kernel_rfl) (fun _ _ _ h => h) (Or.inl ⟨by rfl, ?hy41k⟩) (by assumption) ?rest41k
            case hy41k =>
              intro w hSw
              (try dsimp only at hSw)
              go_simp
              all_goals with_reducible rfl
            try simp only [Act.put, List.getElem_toArray, List.getElem_cons_succ, List.getElem_cons_zero, List.setIfInBounds_toArray, List.set_cons_zero, List.set_cons_succ]
            as_aux_lemma =>
              refine wpAnyH_ready (rs := [42]) (by kernel_rfl) (by simp) ?_
              refine AllReadyH.cons rfl (fun K hK => ?_) AllReadyH.nil
              try go_simp
              go_at_call 20
              refine (Left_nil _).mono ?_
              rintro e w1 ⟨rfl, rfl⟩
              refine hK.out _ _ ?hSc42k (fun hHeld => ?restc42k)
              case hSc42k => exact hHeld
              clear hK K
              try simp only [Act.put, List.getElem_toArray, List.getElem_cons_succ, List.getElem_cons_zero, List.setIfInBounds_toArray, List.set_cons_zero, List.set_cons_succ]
              refine wpAnyH_take (i := 43) (v := ?v43k) rfl (by kernel_rfl) (by kernel_rfl) (by kernel_rfl) (fun _ _ _ h => h) (Or.inl ⟨by rfl, ?hy43k⟩) (by assumption) ?rest43k
              case hy43k =>
                intro w hSw
                (try dsimp only at hSw)
                go_simp
                all_goals with_reducible rfl
              try simp only [Act.put, List.getElem_toArray, List.getElem_cons_succ, List.getElem_cons_zero, List.setIfInBounds_toArray, List.set_cons_zero, List.set_cons_succ]
              refine wpAnyH_take (i := 44) (v := ?v44k) rfl (by kernel_rfl) (by kernel_rfl) (by kernel_rfl) (fun _ _ _ h => h) (Or.inl ⟨by rfl, ?hy44k⟩) (by assumption) ?rest44k
              case hy44k =>
                intro w hSw
                (try dsimp only at hSw)
                go_simp
                all_goals with_reducible rfl
              try simp only [Act.put, List.getElem_toArray, List.getElem_cons_succ, List.getElem_cons_zero, List.setIfInBounds_toArray, List.set_cons_zero, List.set_cons_succ]
              refine wpAnyH_take (i := 45) (v := ?v45k) rfl (by kernel_rfl) (by kernel_rfl) (by kernel_rfl) (fun _ _ _ h => h) (Or.inl ⟨by rfl, ?hy45k⟩) (by assumption) ?rest45k
              case hy45k =>
                intro w hSw
                (try dsimp only at hSw)
                go_simp
                all_goals with_reducible rfl
              try simp only [Act.put, List.getElem_toArray, List.getElem_cons_succ, List.getElem_cons_zero, List.setIfInBounds_toArray, List.set_cons_zero, List.set_cons_succ]
              refine wpAnyH_take (i := 46) (v := ?v46k) rfl (by kernel_rfl) (by kernel_rfl) (by kernel_rfl) (fun _ _ _ h => h) (Or.inl ⟨by rfl, ?hy46k⟩) (by assumption) ?rest46k
              case hy46k =>
                intro w hSw
                (try dsimp only at hSw)
                go_simp
                all_goals with_reducible rfl
              try simp only [Act.put, List.getElem_toArray, List.getElem_cons_succ, List.getElem_cons_zero, List.setIfInBounds_toArray, List.set_cons_zero, List.set_cons_succ]
              refine wpAnyH_take (i := 48) (v := ?v48k) rfl (by kernel_rfl) (by kernel_rfl) (by kernel_rfl) (fun _ _ _ h => h) (Or.inl ⟨by rfl, ?hy48k⟩) (by assumption) ?rest48k
              case hy48k =>
                intro w hSw
                (try dsimp only at hSw)
                go_simp
                all_goals with_reducible rfl
              try simp only [Act.put, List.getElem_toArray, List.getElem_cons_succ, List.getElem_cons_zero, List.setIfInBounds_toArray, List.set_cons_zero, List.set_cons_succ]
              refine wpAnyH_ready (rs := [47]) (by kernel_rfl) (by simp) ?_
              refine AllReadyH.cons rfl (fun K hK => ?_) AllReadyH.nil
              try go_simp
              go_at_call 21
              refine (End_nil2 _).mono ?_
              rintro e w1 ⟨vE, rfl, heE, hBs⟩
              refine hK.out _ _ ?hSc47k (fun hHeld => ?restc47k)
              case hSc47k => exact HMK.out _ (trans' hHeld.2.2 hBs)
              clear hK K
              try simp only [Act.put, List.getElem_toArray, List.getElem_cons_succ, List.getElem_cons_zero, List.setIfInBounds_toArray, List.set_cons_zero, List.set_cons_succ]
              as_aux_lemma =>
                refine wpAnyH_ready (rs := [49]) (by kernel_rfl) (by simp) ?_
                refine AllReadyH.cons rfl (fun K hK => ?_) AllReadyH.nil
                try go_simp
                go_at_call 18
                refine (is_any _ _ _ _ heE (HE.out.below hHeld.2.2)).mono ?_
                clear heE
                rintro e w1 ⟨rfl, hBs⟩
                refine hK.out _ _ ?hSc49k (fun hHeld => ?restc49k)
                case hSc49k => exact HMK.out _ (trans' hHeld.2.2 hBs)
                clear hK K
                try simp only [Act.put, List.getElem_toArray, List.getElem_cons_succ, List.getElem_cons_zero, List.setIfInBounds_toArray, List.set_cons_zero, List.set_cons_succ]
                refine wpAnyH_take (i := 50) (v := ?v50k) rfl (by kernel_rfl) (by kernel_rfl) (by kernel_rfl) (fun _ _ _ h => h) (Or.inl ⟨by rfl, ?hy50k⟩) (by assumption) ?rest50k
                case hy50k =>
                  intro w hSw
                  (try dsimp only at hSw)
                  go_simp
                  all_goals with_reducible rfl
                try simp only [Act.put, List.getElem_toArray, List.getElem_cons_succ, List.getElem_cons_zero, List.setIfInBounds_toArray, List.set_cons_zero, List.set_cons_succ]
                refine wpAnyH_take (i := 51) (v := ?v51k) rfl (by kernel_rfl) (by kernel_rfl) (by kernel_rfl) (fun _ _ _ h => h) (Or.inl ⟨by rfl, ?hy51k⟩) (by assumption) ?rest51k
                case hy51k =>
                  intro w hSw
                  (try dsimp only at hSw)
                  go_simp
                  all_goals with_reducible rfl
                try simp only [Act.put, List.getElem_toArray, List.getElem_cons_succ, List.getElem_cons_zero, List.setIfInBounds_toArray, List.set_cons_zero, List.set_cons_succ]
                refine wpAnyH_take (i := 52) (v := ?v52k) rfl (by kernel_rfl) (by kernel_rfl) (by kernel_rfl) (fun _ _ _ h => h) (Or.inl ⟨by rfl, ?hy52k⟩) (by assumption) ?rest52k
                case hy52k =>
                  intro w hSw
                  (try dsimp only at hSw)
                  go_simp
                  all_goals with_reducible rfl
                try simp only [Act.put, List.getElem_toArray, List.getElem_cons_succ, List.getElem_cons_zero, List.setIfInBounds_toArray, List.set_cons_zero, List.set_cons_succ]
                refine wpAnyH_take (i := 53) (v := ?v53k) rfl (by kernel_rfl) (by kernel_rfl) (by kernel_rfl) (fun _ _ _ h => h) (Or.inl ⟨by rfl, ?hy53k⟩) (by assumption) ?rest53k
                case hy53k =>
                  intro w hSw
                  (try dsimp only at hSw)
                  go_simp
                  all_goals with_reducible rfl
                try simp only [Act.put, List.getElem_toArray, List.getElem_cons_succ, List.getElem_cons_zero, List.setIfInBounds_toArray, List.set_cons_zero, List.set_cons_succ]
                refine wpAnyH_take (i := 54) (v := ?v54k) rfl (by kernel_rfl) (by kernel_rfl) (by kernel_rfl) (fun _ _ _ h => h) (Or.inl ⟨by rfl, ?hy54k⟩) (by assumption) ?rest54k
                case hy54k =>
                  intro w hSw
                  (try dsimp only at hSw)
                  go_simp
                  all_goals with_reducible rfl
                try simp only [Act.put, List.getElem_toArray, List.getElem_cons_succ, List.getElem_cons_zero, List.setIfInBounds_toArray, List.set_cons_zero, List.set_cons_succ]
                refine wpAnyH_take (i := 55) (v := ?v55k) rfl (by kernel_rfl) (by kernel_rfl) (by kernel_rfl) (fun _ _ _ h => h) (Or.inl ⟨by rfl, ?hy55k⟩) (by assumption) ?rest55k
                case hy55k =>
                  intro w hSw
                  (try dsimp only at hSw)
                  go_simp
                  all_goals with_reducible rfl
                try simp only [Act.put, List.getElem_toArray, List.getElem_cons_succ, List.getElem_cons_zero, List.setIfInBounds_toArray, List.set_cons_zero, List.set_cons_succ]
                refine wpAnyH_take (i := 56) (v := ?v56k) rfl (by kernel_rfl) (by kernel_rfl) (by kernel_rfl) (fun _ _ _ h => h) (Or.inl ⟨by rfl, ?hy56k⟩) (by assumption) ?rest56k
                case hy56k =>
                  intro w hSw
                  (try dsimp only at hSw)
                  go_simp
                  all_goals with_reducible rfl
                try simp only [Act.put, List.getElem_toArray, List.getElem_cons_succ, List.getElem_cons_zero, List.setIfInBounds_toArray, List.set_cons_zero, List.set_cons_succ]
                refine wpAnyH_take (i := 57) (v := ?v57k) rfl (by kernel_rfl) (by kernel_rfl) (by kernel_rfl) (fun _ _ _ h => h) (Or.inl ⟨by rfl, ?hy57k⟩) (by assumption) ?rest57k
                case hy57k =>
                  intro w hSw
                  (try dsimp only at hSw)
                  go_simp
                  all_goals with_reducible rfl
                try simp only [Act.put, List.getElem_toArray, List.getElem_cons_succ, List.getElem_cons_zero, List.setIfInBounds_toArray, List.set_cons_zero, List.set_cons_succ]
                refine wpAnyH_take (i := 58) (v := ?v58k) rfl (by kernel_rfl) (by kernel_rfl) (by kernel_rfl) (fun _ _ _ h => h) (Or.inl ⟨by rfl, ?hy58k⟩) (by assumption) ?rest58k
                case hy58k =>
                  intro w hSw
                  (try dsimp only at hSw)
                  go_simp
                  all_goals with_reducible rfl
                try simp only [Act.put, List.getElem_toArray, List.getElem_cons_succ, List.getElem_cons_zero, List.setIfInBounds_toArray, List.set_cons_zero, List.set_cons_succ]
                refine wpAnyH_take (i := 59) (v := ?v59k) rfl (by kernel_rfl) (by kernel_rfl) (by kernel_rfl) (fun _ _ _ h => h) (Or.inl ⟨by rfl, ?hy59k⟩) (by assumption) ?rest59k
                case hy59k =>
                  intro w hSw
                  (try dsimp only at hSw)
                  go_simp
                  all_goals with_reducible rfl
                try simp only [Act.put, List.getElem_toArray, List.getElem_cons_succ, List.getElem_cons_zero, List.setIfInBounds_toArray, List.set_cons_zero, List.set_cons_succ]
                refine wpAnyH_take (i := 60) (v := ?v60k) rfl (by kernel_rfl) (by kernel_rfl) (by kernel_rfl) (fun _ _ _ h => h) (Or.inl ⟨by rfl, ?hy60k⟩) (by assumption) ?rest60k
                case hy60k =>
                  intro w hSw
                  (try dsimp only at hSw)
                  go_simp
                  all_goals with_reducible rfl
                try simp only [Act.put, List.getElem_toArray, List.getElem_cons_succ, List.getElem_cons_zero, List.setIfInBounds_toArray, List.set_cons_zero, List.set_cons_succ]
                refine wpAnyH_take (i := 61) (v := ?v61k) rfl (by kernel_rfl) (by kernel_rfl) (by kernel_rfl) (fun _ _ _ h => h) (Or.inl ⟨by rfl, ?hy61k⟩) (by assumption) ?rest61k
                case hy61k =>
                  intro w hSw
                  (try dsimp only at hSw)
                  go_simp
                  all_goals with_reducible rfl
                try simp only [Act.put, List.getElem_toArray, List.getElem_cons_succ, List.getElem_cons_zero, List.setIfInBounds_toArray, List.set_cons_zero, List.set_cons_succ]
                refine wpAnyH_take (i := 63) (v := ?v63k) rfl (by kernel_rfl) (by kernel_rfl) (by kernel_rfl) (fun _ _ _ h => h) (Or.inl ⟨by rfl, ?hy63k⟩) (by assumption) ?rest63k
                case hy63k =>
                  intro w hSw
                  (try dsimp only at hSw)
                  go_simp
                  all_goals with_reducible rfl
                try simp only [Act.put, List.getElem_toArray, List.getElem_cons_succ, List.getElem_cons_zero, List.setIfInBounds_toArray, List.set_cons_zero, List.set_cons_succ]
                as_aux_lemma =>
                  refine wpAnyH_ready (rs := [62]) (by kernel_rfl) (by simp) ?_
                  refine AllReadyH.cons rfl (fun K hK => ?_) AllReadyH.nil
                  try go_simp
                  go_at_call 21
                  refine (End_any _ _ _ _ (R1.out.keep hHeld.2.2).r).mono ?_
                  rintro e w1 ⟨vE, rfl, heE, hBs⟩
                  rw [s2_left, end_at] at heE
                  refine hK.out _ _ ?hSc62k (fun hHeld => ?restc62k)
                  case hSc62k => exact HMK.out _ (trans' hHeld.2.2 hBs)
                  clear hK K
                  try simp only [Act.put, List.getElem_toArray, List.getElem_cons_succ, List.getElem_cons_zero, List.setIfInBounds_toArray, List.set_cons_zero, List.set_cons_succ]
                  refine wpAnyH_ready (rs := [64]) (by kernel_rfl) (by simp) ?_
                  refine AllReadyH.cons rfl (fun K hK => ?_) AllReadyH.nil
                  try go_simp
                  go_at_call 18
                  refine (is_any _ _ _ _ heE (HE.out.below hHeld.2.2)).mono ?_
                  clear heE
                  rintro e w1 ⟨rfl, hBs⟩
                  refine hK.out _ _ ?hSc64k (fun hHeld => ?restc64k)
                  case hSc64k => exact HMK.out _ (trans' hHeld.2.2 hBs)
                  clear hK K
                  try simp only [Act.put, List.getElem_toArray, List.getElem_cons_succ, List.getElem_cons_zero, List.setIfInBounds_toArray, List.set_cons_zero, List.set_cons_succ]
                  refine wpAnyH_take (i := 65) (v := ?v65k) rfl (by kernel_rfl) (by kernel_rfl) (by kernel_rfl) (fun _ _ _ h => h) (Or.inl ⟨by rfl, ?hy65k⟩) (by assumption) ?rest65k
                  case hy65k =>
                    intro w hSw
                    (try dsimp only at hSw)
                    go_simp
                    all_goals with_reducible rfl
                  try simp only [Act.put, List.getElem_toArray, List.getElem_cons_succ, List.getElem_cons_zero, List.setIfInBounds_toArray, List.set_cons_zero, List.set_cons_succ]
                  refine wpAnyH_take (i := 66) (v := ?v66k) rfl (by kernel_rfl) (by kernel_rfl) (by kernel_rfl) (fun _ _ _ h => h) (Or.inl ⟨by rfl, ?hy66k⟩) (by assumption) ?rest66k
                  case hy66k =>
                    intro w hSw
                    (try dsimp only at hSw)
                    go_simp
                    all_goals with_reducible rfl
                  try simp only [Act.put, List.getElem_toArray, List.getElem_cons_succ, List.getElem_cons_zero, List.setIfInBounds_toArray, List.set_cons_zero, List.set_cons_succ]
                  refine wpAnyH_take (i := 67) (v := ?v67k) rfl (by kernel_rfl) (by kernel_rfl) (by kernel_rfl) (fun _ _ _ h => h) (Or.inl ⟨by rfl, ?hy67k⟩) (by assumption) ?rest67k
                  case hy67k =>
                    intro w hSw
                    (try dsimp only at hSw)
                    go_simp
                    all_goals with_reducible rfl
                  try simp only [Act.put, List.getElem_toArray, List.getElem_cons_succ, List.getElem_cons_zero, List.setIfInBounds_toArray, List.set_cons_zero, List.set_cons_succ]
                  refine wpAnyH_take (i := 68) (v := ?v68k) rfl (by kernel_rfl) (by kernel_rfl) (by kernel_rfl) (fun _ _ _ h => h) (Or.inl ⟨by rfl, ?hy68k⟩) (by assumption) ?rest68k
                  case hy68k =>
                    intro w hSw
                    (try dsimp only at hSw)
                    go_simp
                    all_goals with_reducible rfl
                  try simp only [Act.put, List.getElem_toArray, List.getElem_cons_succ, List.getElem_cons_zero, List.setIfInBounds_toArray, List.set_cons_zero, List.set_cons_succ]
                  as_aux_lemma =>
                    refine wpAnyH_ready (rs := [69]) (by kernel_rfl) (by simp) ?_
                    refine AllReadyH.cons rfl (fun K hK => ?_) AllReadyH.nil
                    try go_simp
                    go_at_call 18
                    refine (is_any _ _ _ _ (E6.out.keep hHeld.2.2) (HE.out.below hHeld.2.2)).mono ?_
                    rintro e w1 ⟨rfl, hBs⟩
                    refine hK.out _ _ ?hSc69k (fun hHeld => ?restc69k)
                    case hSc69k => exact HMK.out _ (trans' hHeld.2.2 hBs)
                    clear hK K
                    try simp only [Act.put, List.getElem_toArray, List.getElem_cons_succ, List.getElem_cons_zero, List.setIfInBounds_toArray, List.set_cons_zero, List.set_cons_succ]
                    refine wpAnyH_take (i := 70) (v := ?v70k) rfl (by kernel_rfl) (by kernel_rfl) (by kernel_rfl) (fun _ _ _ h => h) (Or.inl ⟨by rfl, ?hy70k⟩) (by assumption) ?rest70k
                    case hy70k =>
                      intro w hSw
                      (try dsimp only at hSw)
                      go_simp
                      all_goals with_reducible rfl
                    try simp only [Act.put, List.getElem_toArray, List.getElem_cons_succ, List.getElem_cons_zero, List.setIfInBounds_toArray, List.set_cons_zero, List.set_cons_succ]
                    refine wpAnyH_take (i := 71) (v := ?v71k) rfl (by kernel_rfl) (by kernel_rfl) (by kernel_rfl) (fun _ _ _ h => h) (Or.inl ⟨by rfl, ?hy71k⟩) (by assumption) ?rest71k
                    case hy71k =>
                      intro w hSw
                      (try dsimp only at hSw)
                      go_simp
                      all_goals with_reducible rfl
                    try simp only [Act.put, List.getElem_toArray, List.getElem_cons_succ, List.getElem_cons_zero, List.setIfInBounds_toArray, List.set_cons_zero, List.set_cons_succ]
                    refine wpAnyH_take (i := 72) (v := ?v72k) rfl (by kernel_rfl) (by kernel_rfl) (by kernel_rfl) (fun _ _ _ h => h) (Or.inl ⟨by rfl, ?hy72k⟩) (by assumption) ?rest72k
                    case hy72k =>
                      intro w hSw
                      (try dsimp only at hSw)
                      go_simp
                      all_goals with_reducible rfl
                    try simp only [Act.put, List.getElem_toArray, List.getElem_cons_succ, List.getElem_cons_zero, List.setIfInBounds_toArray, List.set_cons_zero, List.set_cons_succ]
                    refine wpAnyH_take (i := 73) (v := ?v73k) rfl (by kernel_rfl) (by kernel_rfl) (by kernel_rfl) (fun _ _ _ h => h) (Or.inl ⟨by rfl, ?hy73k⟩) (by assumption) ?rest73k
                    case hy73k =>
                      intro w hSw
                      (try dsimp only at hSw)
                      go_simp
                      all_goals with_reducible rfl
                    try simp only [Act.put, List.getElem_toArray, List.getElem_cons_succ, List.getElem_cons_zero, List.setIfInBounds_toArray, List.set_cons_zero, List.set_cons_succ]
                    refine wpAnyH_take (i := 74) (v := ?v74k) rfl (by kernel_rfl) (by kernel_rfl) (by kernel_rfl) (fun _ _ _ h => h) (Or.inl ⟨by rfl, ?hy74k⟩) (by assumption) ?rest74k
                    case hy74k =>
                      intro w hSw
                      (try dsimp only at hSw)
                      go_simp
                      all_goals with_reducible rfl
                    try simp only [Act.put, List.getElem_toArray, List.getElem_cons_succ, List.getElem_cons_zero, List.setIfInBounds_toArray, List.set_cons_zero, List.set_cons_succ]
                    refine wpAnyH_take (i := 75) (v := ?v75k) rfl (by kernel_rfl) (by kernel_rfl) (by kernel_rfl) (fun _ _ _ h => h) (Or.inl ⟨by rfl, ?hy75k⟩) (by assumption) ?rest75k
                    case hy75k =>
                      intro w hSw
                      (try dsimp only at hSw)
                      go_simp
                      all_goals with_reducible rfl
                    try simp only [Act.put, List.getElem_toArray, List.getElem_cons_succ, List.getElem_cons_zero, List.setIfInBounds_toArray, List.set_cons_zero, List.set_cons_succ]
                    refine wpAnyH_take (i := 76) (v := ?v76k) rfl (by kernel_rfl) (by kernel_rfl) (by kernel_rfl) (fun _ _ _ h => h) (Or.inl ⟨by rfl, ?hy76k⟩) (by assumption) ?rest76k
                    case hy76k =>
                      intro w hSw
                      (try dsimp only at hSw)
                      go_simp
                      all_goals with_reducible rfl
                    try simp only [Act.put, List.getElem_toArray, List.getElem_cons_succ, List.getElem_cons_zero, List.setIfInBounds_toArray, List.set_cons_zero, List.set_cons_succ]
                    refine wpAnyH_take (i := 77) (v := ?v77k) rfl (by kernel_rfl) (by kernel_rfl) (by kernel_rfl) (fun _ _ _ h => h) (Or.inl ⟨by rfl, ?hy77k⟩) (by assumption) ?rest77k
                    case hy77k =>
                      intro w hSw
                      (try dsimp only at hSw)
                      go_simp
                      all_goals with_reducible rfl
                    try simp only [Act.put, List.getElem_toArray, List.getElem_cons_succ, List.getElem_cons_zero, List.setIfInBounds_toArray, List.set_cons_zero, List.set_cons_succ]
                    refine wpAnyH_take (i := 78) (v := ?v78k) rfl (by kernel_rfl) (by kernel_rfl) (by kernel_rfl) (fun _ _ _ h => h) (Or.inl ⟨by rfl, ?hy78k⟩) (by assumption) ?rest78k
                    case hy78k =>
                      intro w hSw
                      (try dsimp only at hSw)
                      go_simp
                      all_goals with_reducible rfl
                    try simp only [Act.put, List.getElem_toArray, List.getElem_cons_succ, List.getElem_cons_zero, List.setIfInBounds_toArray, List.set_cons_zero, List.set_cons_succ]
                    refine wpAnyH_take (i := 79) (v := ?v79k) rfl (by kernel_rfl) (by kernel_rfl) (by kernel_rfl) (fun _ _ _ h => h) (Or.inl ⟨by rfl, ?hy79k⟩) (by assumption) ?rest79k
                    case hy79k =>
                      intro w hSw
                      (try dsimp only at hSw)
                      go_simp
                      all_goals with_reducible rfl
                    try simp only [Act.put, List.getElem_toArray, List.getElem_cons_succ, List.getElem_cons_zero, List.setIfInBounds_toArray, List.set_cons_zero, List.set_cons_succ]
                    refine wpAnyH_take (i := 80) (v := ?v80k) rfl (by kernel_rfl) (by kernel_rfl) (by kernel_rfl) (fun _ _ _ h => h) (Or.inl ⟨by rfl, ?hy80k⟩) (by assumption) ?rest80k
                    case hy80k =>
                      intro w hSw
                      (try dsimp only at hSw)
                      go_simp
                      all_goals with_reducible rfl
                    try simp only [Act.put, List.getElem_toArray, List.getElem_cons_succ, List.getElem_cons_zero, List.setIfInBounds_toArray, List.set_cons_zero, List.set_cons_succ]
                    refine wpAnyH_take (i := 81) (v := ?v81k) rfl (by kernel_rfl) (by kernel_rfl) (by kernel_rfl) (fun _ _ _ h => h) (Or.inl ⟨by rfl, ?hy81k⟩) (by assumption) ?rest81k
                    case hy81k =>
                      intro w hSw
                      (try dsimp only at hSw)
                      go_simp
                      all_goals with_reducible rfl
                    try simp only [Act.put, List.getElem_toArray, List.getElem_cons_succ, List.getElem_cons_zero, List.setIfInBounds_toArray, List.set_cons_zero, List.set_cons_succ]
                    as_aux_lemma =>
                      refine wpAnyH_ready (rs := [82]) (by kernel_rfl) (by simp) ?_
                      refine AllReadyH.cons rfl (fun K hK => ?_) AllReadyH.nil
                      try go_simp
                      go_at_call 18
                      refine (is_any _ _ _ _ (E8.out.keep hHeld.2.2) (HE.out.below hHeld.2.2)).mono ?_
                      rintro e w1 ⟨rfl, hBs⟩
                      refine hK.out _ _ ?hSc82k (fun hHeld => ?restc82k)
                      case hSc82k => exact HMK.out _ (trans' hHeld.2.2 hBs)
                      clear hK K
                      try simp only [Act.put, List.getElem_toArray, List.getElem_cons_succ, List.getElem_cons_zero, List.setIfInBounds_toArray, List.set_cons_zero, List.set_cons_succ]
                      refine wpAnyH_take (i := 83) (v := ?v83k) rfl (by kernel_rfl) (by kernel_rfl) (by kernel_rfl) (fun _ _ _ h => h) (Or.inl ⟨by rfl, ?hy83k⟩) (by assumption) ?rest83k
                      case hy83k =>
                        intro w hSw
                        (try dsimp only at hSw)
                        go_simp
                        all_goals with_reducible rfl
                      try simp only [Act.put, List.getElem_toArray, List.getElem_cons_succ, List.getElem_cons_zero, List.setIfInBounds_toArray, List.set_cons_zero, List.set_cons_succ]
                      refine wpAnyH_take (i := 84) (v := ?v84k) rfl (by kernel_rfl) (by kernel_rfl) (by kernel_rfl) (fun _ _ _ h => h) (Or.inl ⟨by rfl, ?hy84k⟩) (by assumption) ?rest84k
                      case hy84k =>
                        intro w hSw
                        (try dsimp only at hSw)
                        go_simp
                        all_goals with_reducible rfl
                      try simp only [Act.put, List.getElem_toArray, List.getElem_cons_succ, List.getElem_cons_zero, List.setIfInBounds_toArray, List.set_cons_zero, List.set_cons_succ]
                      refine wpAnyH_take (i := 87) (v := ?v87k) rfl (by kernel_rfl) (by kernel_rfl) (by kernel_rfl) (fun _ _ _ h => h) (Or.inl ⟨by rfl, ?hy87k⟩) (by assumption) ?rest87k
                      case hy87k =>
                        intro w hSw
                        (try dsimp only at hSw)
                        go_simp
                        all_goals with_reducible rfl
                      try simp only [Act.put, List.getElem_toArray, List.getElem_cons_succ, List.getElem_cons_zero, List.setIfInBounds_toArray, List.set_cons_zero, List.set_cons_succ]
                      refine wpAnyH_take (i := 88) (v := ?v88k) rfl (by kernel_rfl) (by kernel_rfl) (by kernel_rfl) (fun _ _ _ h => h) (Or.inl ⟨by rfl, ?hy88k⟩) (by assumption) ?rest88k
                      case hy88k =>
                        intro w hSw
                        (try dsimp only at hSw)
                        go_simp
                        all_goals with_reducible rfl
                      try simp only [Act.put, List.getElem_toArray, List.getElem_cons_succ, List.getElem_cons_zero, List.setIfInBounds_toArray, List.set_cons_zero, List.set_cons_succ]
                      have hHeldP := hHeld
                      refine wpAnyH_ready (rs := [85]) (by kernel_rfl) (by simp) ?_
                      refine AllReadyH.cons rfl (fun K hK => ?_) AllReadyH.nil
                      try go_simp
                      refine hK.out _ _ ?hSc85k (fun hHeld => ?restc85k)
                      case hSc85k => exact HMK.out _ (hHeld.2.2.alloc hHeld.2.2.size _)
                      clear hK K
                      try simp only [Act.put, List.getElem_toArray, List.getElem_cons_succ, List.getElem_cons_zero, List.setIfInBounds_toArray, List.set_cons_zero, List.set_cons_succ]
                      refine wpAnyH_ready (rs := [86]) (by kernel_rfl) (by simp) ?_
                      refine AllReadyH.cons rfl (fun K hK => ?_) AllReadyH.nil
                      try go_simp
                      refine hK.out _ _ ?hSc86k (fun hHeld => ?restc86k)
                      case hSc86k => exact HMK.out _ (hHeldP.2.2.alloc hHeldP.2.2.size _)
                      clear hK K
                      try simp only [Act.put, List.getElem_toArray, List.getElem_cons_succ, List.getElem_cons_zero, List.setIfInBounds_toArray, List.set_cons_zero, List.set_cons_succ]
                      as_aux_lemma =>
                        refine wpAnyH_ready (rs := [89]) (by kernel_rfl) (by simp) ?_
                        refine AllReadyH.cons rfl (fun K hK => ?_) AllReadyH.nil
                        try go_simp
                        go_at_call 10
                        refine (PText_any _ [113] s3B _ (rd_lit_m _ _ 113 (by decide) (by decide) _) s3_size (by decide)).mono ?_
                        rintro e w1 ⟨vq, rfl, hown, hBs⟩
                        rw [s3_text] at hown
                        have hcv := cv_str (X := ⟨#[113]⟩) (RdB.own hown)
                        clear hown
                        refine hK.out _ _ ?hSc89k (fun hHeld => ?restc89k)
                        case hSc89k => exact HMK.out _ (trans' hHeld.2.2 hBs)
                        clear hK K
                        try simp only [Act.put, List.getElem_toArray, List.getElem_cons_succ, List.getElem_cons_zero, List.setIfInBounds_toArray, List.set_cons_zero, List.set_cons_succ]
                        refine wpAnyH_ready (rs := [90]) (by kernel_rfl) (by simp) ?_
                        refine AllReadyH.cons rfl (fun K hK => ?_) AllReadyH.nil
                        try go_simp
                        refine hK.out _ _ ?hSc90k (fun hHeld => ?restc90k)
                        case hSc90k => exact hHeld
                        clear hK K
                        try simp only [Act.put, List.getElem_toArray, List.getElem_cons_succ, List.getElem_cons_zero, List.setIfInBounds_toArray, List.set_cons_zero, List.set_cons_succ]
                        refine wpAnyH_take (i := 91) (v := ?v91k) rfl (by kernel_rfl) (by kernel_rfl) (by kernel_rfl) (fun _ _ _ h => h) (Or.inl ⟨by rfl, ?hy91k⟩) (by assumption) ?rest91k
                        case hy91k =>
                          intro w hSw
                          (try dsimp only at hSw)
                          go_simp
                          all_goals with_reducible rfl
                        try simp only [Act.put, List.getElem_toArray, List.getElem_cons_succ, List.getElem_cons_zero, List.setIfInBounds_toArray, List.set_cons_zero, List.set_cons_succ]
                        refine wpAnyH_take (i := 92) (v := ?v92k) rfl (by kernel_rfl) (by kernel_rfl) (by kernel_rfl) (fun _ _ _ h => h) (Or.inl ⟨by rfl, ?hy92k⟩) (by assumption) ?rest92k
                        case hy92k =>
                          intro w hSw
                          (try dsimp only at hSw)
                          go_simp
                          all_goals with_reducible rfl
                        try simp only [Act.put, List.getElem_toArray, List.getElem_cons_succ, List.getElem_cons_zero, List.setIfInBounds_toArray, List.set_cons_zero, List.set_cons_succ]
                        refine wpAnyH_take (i := 93) (v := ?v93k) rfl (by kernel_rfl) (by kernel_rfl) (by kernel_rfl) (fun _ _ _ h => h) (Or.inl ⟨by rfl, ?hy93k⟩) (by assumption) ?rest93k
                        case hy93k =>
                          intro w hSw
                          (try dsimp only at hSw)
                          go_simp
                          all_goals with_reducible rfl
                        try simp only [Act.put, List.getElem_toArray, List.getElem_cons_succ, List.getElem_cons_zero, List.setIfInBounds_toArray, List.set_cons_zero, List.set_cons_succ]
                        refine wpAnyH_take (i := 94) (v := ?v94k) rfl (by kernel_rfl) (by kernel_rfl) (by kernel_rfl) (fun _ _ _ h => h) (Or.inl ⟨by rfl, ?hy94k⟩) (by assumption) ?rest94k
                        case hy94k =>
                          intro w hSw
                          (try dsimp only at hSw)
                          go_simp
                          all_goals with_reducible rfl
                        try simp only [Act.put, List.getElem_toArray, List.getElem_cons_succ, List.getElem_cons_zero, List.setIfInBounds_toArray, List.set_cons_zero, List.set_cons_succ]
                        as_aux_lemma =>
                          refine wpAnyH_take (i := 95) (v := ?v95k) rfl (by kernel_rfl) (by kernel_rfl) (by kernel_rfl) (fun _ _ _ h => h) (Or.inl ⟨by rfl, ?hy95k⟩) (by assumption) ?rest95k
                          case hy95k =>
                            intro w hSw
                            (try dsimp only at hSw)
                            go_simp
                            all_goals with_reducible rfl
                          try simp only [Act.put, List.getElem_toArray, List.getElem_cons_succ, List.getElem_cons_zero, List.setIfInBounds_toArray, List.set_cons_zero, List.set_cons_succ]
                          refine wpAnyH_take (i := 96) (v := ?v96k) rfl (by kernel_rfl) (by kernel_rfl) (by kernel_rfl) (fun _ _ _ h => h) (Or.inl ⟨by rfl, ?hy96k⟩) (by assumption) ?rest96k
                          case hy96k =>
                            intro w hSw
                            (try dsimp only at hSw)
                            go_simp
                            all_goals with_reducible rfl
                          try simp only [Act.put, List.getElem_toArray, List.getElem_cons_succ, List.getElem_cons_zero, List.setIfInBounds_toArray, List.set_cons_zero, List.set_cons_succ]
                          refine wpAnyH_take (i := 97) (v := ?v97k) rfl (by kernel_rfl) (by kernel_rfl) (by kernel_rfl) (fun _ _ _ h => h) (Or.inl ⟨by rfl, ?hy97k⟩) (by assumption) ?rest97k
                          case hy97k =>
                            intro w hSw
                            (try dsimp only at hSw)
                            go_simp
                            all_goals with_reducible rfl
                          try simp only [Act.put, List.getElem_toArray, List.getElem_cons_succ, List.getElem_cons_zero, List.setIfInBounds_toArray, List.set_cons_zero, List.set_cons_succ]
                          refine wpAnyH_take (i := 98) (v := ?v98k) rfl (by kernel_rfl) (by kernel_rfl) (by kernel_rfl) (fun _ _ _ h => h) (Or.inl ⟨by rfl, ?hy98k⟩) (by assumption) ?rest98k
                          case hy98k =>
                            intro w hSw
                            (try dsimp only at hSw)
                            go_simp
                            all_goals with_reducible rfl
                          try simp only [Act.put, List.getElem_toArray, List.getElem_cons_succ, List.getElem_cons_zero, List.setIfInBounds_toArray, List.set_cons_zero, List.set_cons_succ]
                          refine wpAnyH_take (i := 99) (v := ?v99k) rfl (by kernel_rfl) (by kernel_rfl) (by kernel_rfl) (fun _ _ _ h => h) (Or.inl ⟨by rfl, ?hy99k⟩) (by assumption) ?rest99k
                          case hy99k =>
                            intro w hSw
                            (try dsimp only at hSw)
                            go_simp
                            all_goals with_reducible rfl
                          try simp only [Act.put, List.getElem_toArray, List.getElem_cons_succ, List.getElem_cons_zero, List.setIfInBounds_toArray, List.set_cons_zero, List.set_cons_succ]
                          refine wpAnyH_take (i := 100) (v := ?v100k) rfl (by kernel_rfl) (by kernel_rfl) (by kernel_rfl) (fun _ _ _ h => h) (Or.inl ⟨by rfl, ?hy100k⟩) (by assumption) ?rest100k
                          case hy100k =>
                            intro w hSw
                            (try dsimp only at hSw)
                            go_simp
                            all_goals with_reducible rfl
                          try simp only [Act.put, List.getElem_toArray, List.getElem_cons_succ, List.getElem_cons_zero, List.setIfInBounds_toArray, List.set_cons_zero, List.set_cons_succ]
                          refine wpAnyH_take (i := 101) (v := ?v101k) rfl (by kernel_rfl) (by kernel_rfl) (by kernel_rfl) (fun _ _ _ h => h) (Or.inl ⟨by rfl, ?hy101k⟩) (by assumption) ?rest101k
                          case hy101k =>
                            intro w hSw
                            (try dsimp only at hSw)
                            go_simp
                            all_goals with_reducible rfl
                          try simp only [Act.put, List.getElem_toArray, List.getElem_cons_succ, List.getElem_cons_zero, List.setIfInBounds_toArray, List.set_cons_zero, List.set_cons_succ]
                          refine wpAnyH_take (i := 102) (v := ?v102k) rfl (by kernel_rfl) (by kernel_rfl) (by kernel_rfl) (fun _ _ _ h => h) (Or.inl ⟨by rfl, ?hy102k⟩) (by assumption) ?rest102k
                          case hy102k =>
                            intro w hSw
                            (try dsimp only at hSw)
                            go_simp
                            all_goals with_reducible rfl
                          try simp only [Act.put, List.getElem_toArray, List.getElem_cons_succ, List.getElem_cons_zero, List.setIfInBounds_toArray, List.set_cons_zero, List.set_cons_succ]
                          refine wpAnyH_take (i := 103) (v := ?v103k) rfl (by kernel_rfl) (by kernel_rfl) (by kernel_rfl) (fun _ _ _ h => h) (Or.inl ⟨by rfl, ?hy103k⟩) (by assumption) ?rest103k
                          case hy103k =>
                            intro w hSw
                            (try dsimp only at hSw)
                            go_simp
                            all_goals with_reducible rfl
                          try simp only [Act.put, List.getElem_toArray, List.getElem_cons_succ, List.getElem_cons_zero, List.setIfInBounds_toArray, List.set_cons_zero, List.set_cons_succ]
                          as_aux_lemma =>
                            refine wpAnyH_ready (rs := [104]) (by kernel_rfl) (by simp) ?_
                            refine AllReadyH.cons rfl (fun K hK => ?_) AllReadyH.nil
                            try go_simp
                            go_at_call 22
                            refine (P64_any _ [] 18446744073709551615 _ (RdB.nil _) (by decide) (by decide) (by decide)).mono ?_
                            rintro e w1 ⟨vq, rfl, hown, hBs⟩
                            rw [big_be] at hown
                            have hcv := cv_str (X := ⟨#[255, 255, 255, 255, 255, 255, 255, 255]⟩) (RdB.own hown)
                            clear hown
                            refine hK.out _ _ ?hSc104k (fun hHeld => ?restc104k)
                            case hSc104k => exact HMK.out _ (trans' hHeld.2.2 hBs)
                            clear hK K
                            try simp only [Act.put, List.getElem_toArray, List.getElem_cons_succ, List.getElem_cons_zero, List.setIfInBounds_toArray, List.set_cons_zero, List.set_cons_succ]
                            refine wpAnyH_ready (rs := [105]) (by kernel_rfl) (by simp) ?_
                            refine AllReadyH.cons rfl (fun K hK => ?_) AllReadyH.nil
                            try go_simp
                            refine hK.out _ _ ?hSc105k (fun hHeld => ?restc105k)
                            case hSc105k => exact hHeld
                            clear hK K
                            try simp only [Act.put, List.getElem_toArray, List.getElem_cons_succ, List.getElem_cons_zero, List.setIfInBounds_toArray, List.set_cons_zero, List.set_cons_succ]
                            refine wpAnyH_take (i := 106) (v := ?v106k) rfl (by kernel_rfl) (by kernel_rfl) (by kernel_rfl) (fun _ _ _ h => h) (Or.inl ⟨by rfl, ?hy106k⟩) (by assumption) ?rest106k
                            case hy106k =>
                              intro w hSw
                              (try dsimp only at hSw)
                              go_simp
                              all_goals with_reducible rfl
                            try simp only [Act.put, List.getElem_toArray, List.getElem_cons_succ, List.getElem_cons_zero, List.setIfInBounds_toArray, List.set_cons_zero, List.set_cons_succ]
                            refine wpAnyH_take (i := 107) (v := ?v107k) rfl (by kernel_rfl) (by kernel_rfl) (by kernel_rfl) (fun _ _ _ h => h) (Or.inl ⟨by rfl, ?hy107k⟩) (by assumption) ?rest107k
                            case hy107k =>
                              intro w hSw
                              (try dsimp only at hSw)
                              go_simp
                              all_goals with_reducible rfl
                            try simp only [Act.put, List.getElem_toArray, List.getElem_cons_succ, List.getElem_cons_zero, List.setIfInBounds_toArray, List.set_cons_zero, List.set_cons_succ]
                            refine wpAnyH_take (i := 108) (v := ?v108k) rfl (by kernel_rfl) (by kernel_rfl) (by kernel_rfl) (fun _ _ _ h => h) (Or.inl ⟨by rfl, ?hy108k⟩) (by assumption) ?rest108k
                            case hy108k =>
                              intro w hSw
                              (try dsimp only at hSw)
                              go_simp
                              all_goals with_reducible rfl
                            try simp only [Act.put, List.getElem_toArray, List.getElem_cons_succ, List.getElem_cons_zero, List.setIfInBounds_toArray, List.set_cons_zero, List.set_cons_succ]
                            refine wpAnyH_done (by kernel_rfl) ?_ _
                            go_wp2_with fail
                            go_ret
                            exact ⟨rfl, trans' HB.out hHeld.2.2⟩
end Go.Proofs.YtbnnemiiodhjbaaDoor
