/- The chapter's examples, as the law asks them. -/
import Derived.Test.YtbnnemiiodhjbaaDoorFx2
namespace Go.Proofs.YtbnnemiiodhjbaaDoor
open Go.RowKit
set_option linter.unusedVariables false
set_option linter.unusedSimpArgs false

theorem RdR.other {w w' : World} {p p' : Nat} {q : ByteArray} {t : Int} (h : RdR w p q t) (hg : w.grownBy w' (some p')) (hne : p ≠ p') : RdR w' p q t := by
  have hl := World.block_lt_of_cell? w _ h.c0
  have hb := hg.block p hl (fun e => hne (by injection e))
  exact ⟨(World.cell?_of_block hb).trans h.c0, (World.cell?_of_block hb).trans h.c1, (World.frozen?_of_block hb).trans h.f0, (World.frozen?_of_block hb).trans h.f1⟩
theorem Rdr.other {w w' : World} {p p' : Nat} {q : ByteArray} {t : Int} (h : Rdr w p q t) (hg : w.grownBy w' (some p')) (hne : p ≠ p') : Rdr w' p q t := ⟨h.r.other hg hne, h.h0, h.h1⟩
theorem ErrIs.other {w w' : World} {p : Nat} {q : ByteArray} {tt : Int} {v : Value} {c t : Int} (h : ErrIs w v c t) (hg : w.grownBy w' (some p)) (hr : Rdr w p q tt) (hn : c ≠ 0 → ∀ a, FaultAt w a c t → a ≠ p) : ErrIs w' v c t := by
  rcases h with h | ⟨hc, a, e, hf⟩
  · exact .inl h
  · have hne := hn hc a hf
    have hl := World.block_lt_of_cell? w _ hf.1
    have hb := hg.block a hl (fun e => hne (by injection e))
    exact .inr ⟨hc, a, e, (World.cell?_of_block hb).trans hf.1, (World.cell?_of_block hb).trans hf.2⟩
/-- A reader's block is no fault's. -/
theorem rdr_no_fault {w : World} {p : Nat} {q : ByteArray} {tt : Int} (hr : Rdr w p q tt) {c t : Int} : c ≠ 0 → ∀ a, FaultAt w a c t → a ≠ p := fun _ a hf e => by
  subst e
  have h := hf.1.symm.trans hr.r.c0
  cases h
theorem trans' {w0 w w' : World} (h : Below w0.heap.size w0 w) (k : Below w.heap.size w w') : Below w0.heap.size w0 w' := h.trans (k.mono h.size)
theorem Rdr.start {q : ByteArray} {w : World} {p : Nat} (hr : RdR w p q 0) (hq : q.size ≤ 140737488355328) : Rdr w p q 0 := ⟨hr, by omega, by omega⟩
theorem str_of {w : World} {base : Nat} {v : Value} {l : List UInt8} (h : w.ownsRow base 5 1 v l.length (bv l)) : (convert 22 9 v).run Tryd.prog w = .ok (.string ⟨l.toArray⟩) w :=
  (RdB.own h).str 22 9 5 Tryd.underlying22 Tryd.underlying5 Tryd.underlying9
def ex1 : ByteArray := ⟨#[1, 2, 97]⟩
def ex2 : ByteArray := ⟨#[3, 97, 98, 99]⟩
set_option maxRecDepth 100000 in
set_option maxHeartbeats 8000000 in
theorem works_any (w : World) (hE : EtP w) : Calls Tryd.prog 12 #[] w fun e w' => e = .returned (.bool true) ∧ Below w.heap.size w w' := by
  go_enter Tryd.func12, Tryd.ntmps12
  go_wp2_with fail
  refine (New_any ex1 _).mono ?_
  rintro e w1 ⟨rfl, hr1, hB1, hs1⟩
  have R1 : Hid (Rdr w1 w.heap.size ex1 0) := Rdr.start hr1 (by decide)
  have HB1 := Lib.hid hB1
  have hp1 : w.heap.size ≤ w1.heap.size := hB1.size
  have hne : w1.heap.size ≠ w.heap.size := by omega
  clear hr1 hB1 hs1
  go_wp2_with fail
  refine (New_any ex2 _).mono ?_
  rintro e w2 ⟨rfl, hr2, hB2, hs2⟩
  have R2 : Hid (Rdr w2 w1.heap.size ex2 0) := Rdr.start hr2 (by decide)
  replace R1 := Lib.hid (R1.out.keep hB2)
  have HB2 := Lib.hid (trans' HB1.out hB2)
  clear hr2 hB2 HB1 hs2
  go_wp2_with fail
  refine (U8_all HB2.out (Nat.le_refl _) R1.out).mono ?_
  rintro e w3 (⟨hs, _⟩ | ⟨_, rfl, hr3, hg3, hB3⟩)
  · exact absurd hs (by decide)
  rw [show be1 ex1 = 1 by decide]
  replace R1 : Hid (Rdr w3 w.heap.size (dropB ex1 1) (0 + 1)) := hr3
  replace R2 := Lib.hid (R2.out.other hg3 hne)
  have HB3 := Lib.hid hB3
  clear hr3 hg3 hB3 HB2
  go_wp2_with fail
  refine (text_rd 5 HB3.out (Nat.le_refl _) R1.out).mono ?_
  rintro e w4 ⟨v4, rfl, he4, _, hr4, hg4, hB4⟩
  rw [show txV 5 (dropB ex1 1) = ⟨#[]⟩ by decide]
  rw [show tCode 5 (dropB ex1 1) = 3 by decide, show atF 3 (0 + 1) = 1 by decide] at he4
  rw [show txL 5 (dropB ex1 1) = 0 by decide] at hr4
  have E4 := Lib.hid he4
  replace R2 := Lib.hid (R2.out.other hg4 hne)
  have HB4 := Lib.hid hB4
  clear hr4 hg4 hB4 HB3 he4 R1
  go_wp2_with fail
  refine (text_rd 2 HB4.out hp1 R2.out).mono ?_
  rintro e w5 ⟨v5, rfl, he5, _, hr5, hg5, hB5⟩
  rw [show txV 2 ex2 = ⟨#[]⟩ by decide]
  rw [show tCode 2 ex2 = 4 by decide, show atF 4 0 = 0 by decide] at he5
  rw [show txL 2 ex2 = 0 by decide] at hr5
  have E5 := Lib.hid he5
  replace E4 := Lib.hid (E4.out.other hg5 R2.out (rdr_no_fault R2.out))
  replace R2 : Hid (Rdr w5 w1.heap.size (dropB ex2 0) (0 + (0 : Nat))) := hr5
  have HB5 := Lib.hid hB5
  clear hr5 hg5 hB5 HB4 he5
  go_wp2_with fail
  refine (U16_all HB5.out hp1 R2.out).mono ?_
  rintro e w6 (⟨hs, _⟩ | ⟨_, rfl, hr6, hg6, hB6⟩)
  · exact absurd hs (by decide)
  rw [show be2 (dropB ex2 0) = 865 by decide]
  replace E4 := Lib.hid (E4.out.other hg6 R2.out (rdr_no_fault R2.out))
  replace E5 := Lib.hid (E5.out.other hg6 R2.out (rdr_no_fault R2.out))
  replace R2 := Lib.hid hr6
  have HB6 := Lib.hid hB6
  clear hr6 hg6 hB6 HB5
  go_wp2_with fail
  refine (P8_any _ [] 7 _ (RdB.nil _) (by decide) (by decide) (by decide)).mono ?_
  rintro e w7 ⟨v7, rfl, hown, hB⟩
  rw [show ([] : List UInt8) ++ beB 1 (7 : Int).toNat = [7] by decide] at hown
  have hcv := str_of hown
  replace E4 := Lib.hid (E4.out.keep hB)
  replace E5 := Lib.hid (E5.out.keep hB)
  replace R2 := Lib.hid (R2.out.keep hB)
  have HB7 := Lib.hid (trans' HB6.out hB)
  clear hown hB HB6
  go_wp2_with fail
  refine (P16_any _ [] 7 _ (RdB.nil _) (by decide) (by decide) (by decide)).mono ?_
  rintro e w8 ⟨v8, rfl, hown, hB⟩
  rw [show ([] : List UInt8) ++ beB 2 (7 : Int).toNat = [0, 7] by decide] at hown
  have hcv := str_of hown
  replace E4 := Lib.hid (E4.out.keep hB)
  replace E5 := Lib.hid (E5.out.keep hB)
  replace R2 := Lib.hid (R2.out.keep hB)
  have HB8 := Lib.hid (trans' HB7.out hB)
  clear hown hB HB7
  go_wp2_with fail
  refine (P32_any _ [] 7 _ (RdB.nil _) (by decide) (by decide) (by decide)).mono ?_
  rintro e w9 ⟨v9, rfl, hown, hB⟩
  rw [show ([] : List UInt8) ++ beB 4 (7 : Int).toNat = [0, 0, 0, 7] by decide] at hown
  have hcv := str_of hown
  replace E4 := Lib.hid (E4.out.keep hB)
  replace E5 := Lib.hid (E5.out.keep hB)
  replace R2 := Lib.hid (R2.out.keep hB)
  have HB9 := Lib.hid (trans' HB8.out hB)
  clear hown hB HB8
  go_wp2_with fail
  refine (P64_any _ [] 1099511627776 _ (RdB.nil _) (by decide) (by decide) (by decide)).mono ?_
  rintro e w10 ⟨v10, rfl, hown, hB⟩
  rw [show ([] : List UInt8) ++ beB 8 (1099511627776 : Int).toNat = [0, 0, 1, 0, 0, 0, 0, 0] by decide] at hown
  have hcv := str_of hown
  replace E4 := Lib.hid (E4.out.keep hB)
  replace E5 := Lib.hid (E5.out.keep hB)
  replace R2 := Lib.hid (R2.out.keep hB)
  have HB10 := Lib.hid (trans' HB9.out hB)
  clear hown hB HB9
  go_wp2_with fail
  refine (PText_any _ [] ⟨#[97, 98]⟩ _ (RdB.nil _) (by decide) (by decide)).mono ?_
  rintro e w11 ⟨v11, rfl, hown, hB⟩
  rw [show ([] : List UInt8) ++ textB (⟨#[97, 98]⟩ : ByteArray).data.toList = [2, 97, 98] by decide] at hown
  have hcv := str_of hown
  replace E4 := Lib.hid (E4.out.keep hB)
  replace E5 := Lib.hid (E5.out.keep hB)
  replace R2 := Lib.hid (R2.out.keep hB)
  have HB11 := Lib.hid (trans' HB10.out hB)
  clear hown hB HB10
  go_wp2_with fail
  refine (PText_any _ [] ⟨#[]⟩ _ (RdB.nil _) (by decide) (by decide)).mono ?_
  rintro e w12 ⟨v12, rfl, hown, hB⟩
  rw [show ([] : List UInt8) ++ textB (⟨#[]⟩ : ByteArray).data.toList = [0] by decide] at hown
  have hcv := str_of hown
  replace E4 := Lib.hid (E4.out.keep hB)
  replace E5 := Lib.hid (E5.out.keep hB)
  replace R2 := Lib.hid (R2.out.keep hB)
  have HB12 := Lib.hid (trans' HB11.out hB)
  clear hown hB HB11
  go_wp2_with fail
  refine (is_any v4 3 1 _ E4.out (hE.below HB12.out)).mono ?_
  rintro e w13 ⟨rfl, hB⟩
  replace E5 := Lib.hid (E5.out.keep hB)
  replace R2 := Lib.hid (R2.out.keep hB)
  have HB13 := Lib.hid (trans' HB12.out hB)
  clear hB HB12 E4
  go_wp2_with fail
  refine (is_any v5 4 0 _ E5.out (hE.below HB13.out)).mono ?_
  rintro e w14 ⟨rfl, hB⟩
  replace R2 := Lib.hid (R2.out.keep hB)
  have HB14 := Lib.hid (trans' HB13.out hB)
  clear hB HB13 E5
  go_wp2_with fail
  refine (Left_any _ _ _ _ R2.out.r).mono ?_
  rintro e w15 ⟨rfl, rfl⟩
  rw [show ((dropB (dropB ex2 0) 2).size : Int) = 2 by decide]
  go_wp2_with fail
  go_ret
  exact ⟨rfl, HB14.out⟩
end Go.Proofs.YtbnnemiiodhjbaaDoor
