/- FixedReads: the walk. -/
import Derived.Test.YtbnnemiiodhjbaaDoorFx3
import Derived.Test.YtbnnemiiodhjbaaDoorRr
import Derived.Deep.RegionHeld3
import Derived.IntWalk
namespace Go.Proofs.YtbnnemiiodhjbaaDoor
open Go.RowKit
set_option linter.unusedVariables false
set_option linter.unusedSimpArgs false

/-- The value v is a slice that reads as these numbers of 16 bits. -/
def RdS (w : World) (v : Value) (l : List Int) : Prop :=
  ∃ (a : Option Addr) (c : Nat), v = .slice a l.length c ∧ ∀ (k : Nat) (x : Int), l[k]? = some x → (-32768 ≤ x ∧ x < 32768) ∧ ∃ b o, a = some ⟨b, o, none⟩ ∧ w.cell? ⟨b, o + k, none⟩ = some (.int .i16 x)
theorem RefR.other {w w' : World} {p p' : Nat} {s : ByteArray} {t : Nat} (h : RefR w p s t) (hg : w.grownBy w' (some p')) (hne : p ≠ p') : RefR w' p s t := by
  have hb := hg.block p h.lt (fun e => hne (by injection e))
  exact ⟨(World.cell?_of_block hb).trans h.c0, (World.cell?_of_block hb).trans h.c1, (World.frozen?_of_block hb).trans h.f1, h.h0, h.h1⟩
theorem ErrIs.other2 {w w' : World} {p : Nat} {s : ByteArray} {v : Value} {c t : Int} (h : ErrIs w v c t) (hg : w.grownBy w' (some p)) (hc0 : w.cell? ⟨p, 0, none⟩ = some (.string s)) : ErrIs w' v c t := by
  rcases h with h | ⟨hc, a, e, hf⟩
  · exact .inl h
  · have hne : a ≠ p := fun e => by
      subst e
      have h := hf.1.symm.trans hc0
      cases h
    have hl := World.block_lt_of_cell? w _ hf.1
    have hb := hg.block a hl (fun e => hne (by injection e))
    exact .inr ⟨hc, a, e, (World.cell?_of_block hb).trans hf.1, (World.cell?_of_block hb).trans hf.2⟩
theorem dropB_dropB (q : ByteArray) (a b : Nat) : dropB (dropB q a) b = dropB q (a + b) := by
  apply ByteArray.ext
  simp [dropB, List.drop_drop]
set_option maxRecDepth 100000 in
set_option maxHeartbeats 8000000 in
theorem reads_any (s0 : ByteArray) (v : Value) (l : List Int) (w : World) (hE : EtP w) (hv : RdS w v l) (hs0 : s0.size ≤ 140737488351232) (hl : l.length ≤ maxLen) : Calls Tryd.prog 6 #[.string s0, v] w fun e w' => e = .returned (.bool true) ∧ Below w.heap.size w w' := by
  obtain ⟨m, hm⟩ : ∃ m : Nat, m = min s0.size 500 := ⟨_, rfl⟩
  have hmi : (if (500 : Int) < (s0.size : Int) then (500 : Int) else (s0.size : Int)) = (m : Int) := by split <;> omega
  have hsl := fun W => run_takeB (P := Tryd.prog) 9 Tryd.underlying9 s0 m (by omega) W
  have hss : (takeB s0 m).size = m := takeB_size s0 m (by omega)
  obtain ⟨s, hs⟩ : ∃ s, s = takeB s0 m := ⟨_, rfl⟩
  rw [← hs] at hsl hss
  have hm5 : m ≤ 500 := by omega
  have HS := Lib.hid hss
  have hsz : s.size ≤ 500 := by omega
  clear hs hm hss
  obtain ⟨a, c, rfl, hv⟩ := hv
  have HV := Lib.hid hv
  clear hv
  go_enter Tryd.func6, Tryd.ntmps6
  go_wp2_with fail
  refine (New_any s _).mono ?_
  rintro e w1 ⟨rfl, hr1, hB1, hs1⟩
  have HR : Hid (Rdr w1 w.heap.size s 0) := Rdr.start hr1 (by omega)
  have HB1 := Lib.hid hB1
  clear hr1 hB1
  go_wp2_with fail
  have hB2 : Below w1.heap.size w1 (w1.alloc (.cells #[.string s, .int .i64 0] 53)) := (Below.refl _ _).alloc (Nat.le_refl _) _
  have hf2 : RefR (w1.alloc (.cells #[.string s, .int .i64 ((0 : Nat) : Int)] 53)) w1.heap.size s 0 := by
    have hb := heap_alloc_new w1 (.cells #[.string s, .int .i64 ((0 : Nat) : Int)] 53)
    exact ⟨cell_of_row _ _ 0 _ _ _ hb, cell_of_row _ _ 1 _ _ _ hb, frozen_new hb 1, Nat.zero_le _, by omega⟩
  rw [hs1] at hf2
  have HF2 : Hid (RefR (w1.alloc (.cells #[.string s, .int .i64 0] 53)) (w.heap.size + 1) s 0) := hf2
  have HR2 := Lib.hid (HR.out.keep hB2)
  have HB2 := Lib.hid (trans' HB1.out hB2)
  generalize w1.alloc (.cells #[.string s, .int .i64 0] 53) = W2 at HF2 HR2 HB2 ⊢
  have HHS := Lib.hid hsz
  clear HR HB1 hB2 hf2 hs1 hsl hmi hm5 HS hsz
  go_loopw [7, 8, 9, 10, 11, 12, 13, 14, 15, 16] (fun iv _ _ _ _ _ _ _ _ _ wr => ∃ (i t : Nat), i ≤ l.length ∧ i ≤ 40 ∧ iv = .int .i64 i ∧ Hid (Rdr wr w.heap.size (dropB s t) (t : Nat)) ∧ Hid (RefR wr (w.heap.size + 1) s t) ∧ Hid (Below w.heap.size w wr)) (fun iv _ _ _ _ _ _ _ _ _ _ => 40 - (intOf iv).toNat)
  case atStart => exact ⟨0, 0, by omega, by omega, rfl, by rw [dropB_zero]; exact HR2.out, HF2.out, HB2.out⟩
  case round =>
    clear HF2 HR2 HB2
    obtain ⟨i, t, hi, hi4, rfl, HR, HF, HB⟩ := hrel
    by_cases hlt : i < l.length ∧ i < 40
    · obtain ⟨hlt, hlt4⟩ := hlt
      obtain ⟨x, hx⟩ : ∃ x, l[i]? = some x := ⟨_, List.getElem?_eq_getElem hlt⟩
      obtain ⟨⟨hx0, hx1⟩, b, o, rfl, hc⟩ := HV.out i x hx
      have hc := keep_cell' HB.out hc
      have hpp : w.heap.size + 1 ≠ w.heap.size := by omega
      have hpp2 : w.heap.size ≤ w.heap.size + 1 := by omega
      clear hx
      have hK : (∃ (V : Value) (C : Int) (L : Nat) (k : Nat), k < 4 ∧ x = (k : Int)) ∨ ¬ (0 ≤ x ∧ x < 4) := by
        by_cases h : 0 ≤ x ∧ x < 4
        · exact .inl ⟨.nilIface, 0, 0, x.toNat, by omega, by omega⟩
        · exact .inr h
      rcases hK with ⟨_, _, _, k, hk, rfl⟩ | hK
      · rcases (show k = 0 ∨ k = 1 ∨ k = 2 ∨ k = 3 by omega) with rfl | rfl | rfl | rfl
        · have HN := Lib.hid (num_any 0 (by decide) HB.out (Nat.le_refl _) HR.out)
          have HM : Hid (∀ W, RefR W (w.heap.size + 1) s t → Calls Tryd.prog 24 #[.pointer (some ⟨w.heap.size + 1, 0, none⟩), .int .i64 ((2 ^ 0 : Nat) : Int)] W (RfP (w.heap.size + 1) s t W (.int .u64 (nmV (2 ^ 0) (dropB s t))) (nmC (2 ^ 0) (dropB s t)) (nmL (2 ^ 0) (dropB s t)))) := fun W hr => Num_any (2 ^ 0) (by decide) _ s t W hr
          obtain ⟨V, hV⟩ : ∃ V, V = nmV (2 ^ 0) (dropB s t) := ⟨_, rfl⟩
          obtain ⟨C, hC⟩ : ∃ C, C = nmC (2 ^ 0) (dropB s t) := ⟨_, rfl⟩
          obtain ⟨L, hL⟩ : ∃ L, L = nmL (2 ^ 0) (dropB s t) := ⟨_, rfl⟩
          rw [← hV, ← hC, ← hL] at HN HM
          clear hV hC hL HR
          go_wp2_with fail
          refine HN.out.mono ?_
          rintro e w1 ⟨v1, rfl, he1, hl1, hr1, hg1, hB1⟩
          have HE1 := Lib.hid he1
          have HF1 := Lib.hid (HF.out.other hg1 hpp)
          have HB1 := Lib.hid hB1
          have hr1b : Rdr w1 w.heap.size (dropB s (t + L)) ((t + L : Nat) : Int) := by rw [← dropB_dropB, Int.natCast_add]; exact hr1
          have HR1 := Lib.hid hr1b
          clear he1 hl1 hr1 hr1b hg1 hB1 HN HF HB
          go_wp2_with fail
          refine (HM.out _ HF1.out).mono ?_
          rintro e w2 ⟨rfl, hf2, hg2⟩
          replace HE1 := Lib.hid (HE1.out.other2 hg2 HF1.out.c0)
          have HR2 := Lib.hid (HR1.out.other hg2 hpp.symm)
          have HB2 := Lib.hid (below_grown HB1.out hg2 hpp2 HF1.out.lt)
          have HF2 := Lib.hid hf2
          clear hf2 hg2 HM HF1 HB1 HR1
          go_wp2_with fail
          refine (is_any v1 C (atF C t) _ ?_ ?_).mono ?_
          · exact HE1.out.keep ((Below.refl _ _).alloc (Nat.le_refl _) _)
          · exact hE.below (trans' HB2.out ((Below.refl _ _).alloc (Nat.le_refl _) _))
          rintro e w3 ⟨rfl, hB3⟩
          have hB4 := trans' ((Below.refl w2.heap.size w2).alloc (Nat.le_refl _) _) hB3
          obtain ⟨T1, hT1⟩ : ∃ T1, T1 = t + L := ⟨_, rfl⟩
          rw [← hT1] at HR2 HF2
          obtain ⟨wr, hwr⟩ : ∃ wr, wr = w3 := ⟨_, rfl⟩
          rw [← hwr] at hB4 ⊢
          have HR := Lib.hid (HR2.out.keep hB4)
          have HF := Lib.hid (HF2.out.keep hB4)
          have HB := Lib.hid (trans' HB2.out hB4)
          have HEt := Lib.hid (hE.below HB.out)
          clear hT1 hB3 hB4 hwr HR2 HF2 HB2 HE1
          have hw : IntKind.i64.wrap ((s.size : Int) - (T1 : Int)) = ((dropB s T1).size : Int) := by
            have z1 := HF.out.h0
            have z2 := HHS.out
            rw [IntWalk.i64_in _ (by omega), dropB_size]
            omega
          go_wp2_with fail
          have HS0 : wr.cell? ⟨w.heap.size + 1, 1, none⟩ = some (.int .i64 ((T1 : Nat) : Int)) ∧ Below wr.heap.size wr wr := ⟨HF.out.c1, Below.refl _ _⟩
          go_region_held3 (fun w' => w'.cell? ⟨w.heap.size + 1, 1, none⟩ = some (.int .i64 ((T1 : Nat) : Int)) ∧ Below wr.heap.size wr w') (first | assumption | (exact ⟨keep_cell' hBs (‹_ ∧ Below wr.heap.size wr _›).1, trans' (‹_ ∧ Below wr.heap.size wr _›).2 hBs⟩) | (exact ⟨(‹_ ∧ Below wr.heap.size wr _›).1, (‹_ ∧ Below wr.heap.size wr _›).2.drew⟩)) (first | (go_at_call 19; refine (Place_any _ _ _ _ (HR.out.keep (‹_ ∧ Below wr.heap.size wr _›).2).r).mono ?_; rintro e w1 ⟨rfl, rfl⟩) | (go_at_call 20; refine (Left_any _ _ _ _ (HR.out.keep (‹_ ∧ Below wr.heap.size wr _›).2).r).mono ?_; rintro e w1 ⟨rfl, rfl⟩) | (go_at_call 21; refine (End_any _ _ _ _ (HR.out.keep (‹_ ∧ Below wr.heap.size wr _›).2).r).mono ?_; rintro e w1 ⟨vE, rfl, heE, hBs⟩) | (go_at_call 26; refine (rEnd_any _ _ _ _ (HF.out.keep (‹_ ∧ Below wr.heap.size wr _›).2)).mono ?_; rintro e w1 ⟨rfl, hBs⟩; try (replace heE := heE.keep hBs)) | (go_at_call 18; refine (is_any _ _ _ _ heE (HEt.out.below (‹_ ∧ Below wr.heap.size wr _›).2)).mono ?_; rintro e w1 ⟨rfl, hBs⟩))
          go_wp2_with fail
          go_roundw
          case rel => exact ⟨i + 1, T1, by omega, by omega, by go_num, HR.out.keep (‹_ ∧ Below wr.heap.size wr _›).2, HF.out.keep (‹_ ∧ Below wr.heap.size wr _›).2, trans' HB.out (‹_ ∧ Below wr.heap.size wr _›).2⟩
          case measure => simp [intOf]; omega
        · have HN := Lib.hid (num_any 1 (by decide) HB.out (Nat.le_refl _) HR.out)
          have HM : Hid (∀ W, RefR W (w.heap.size + 1) s t → Calls Tryd.prog 24 #[.pointer (some ⟨w.heap.size + 1, 0, none⟩), .int .i64 ((2 ^ 1 : Nat) : Int)] W (RfP (w.heap.size + 1) s t W (.int .u64 (nmV (2 ^ 1) (dropB s t))) (nmC (2 ^ 1) (dropB s t)) (nmL (2 ^ 1) (dropB s t)))) := fun W hr => Num_any (2 ^ 1) (by decide) _ s t W hr
          obtain ⟨V, hV⟩ : ∃ V, V = nmV (2 ^ 1) (dropB s t) := ⟨_, rfl⟩
          obtain ⟨C, hC⟩ : ∃ C, C = nmC (2 ^ 1) (dropB s t) := ⟨_, rfl⟩
          obtain ⟨L, hL⟩ : ∃ L, L = nmL (2 ^ 1) (dropB s t) := ⟨_, rfl⟩
          rw [← hV, ← hC, ← hL] at HN HM
          clear hV hC hL HR
          go_wp2_with fail
          refine HN.out.mono ?_
          rintro e w1 ⟨v1, rfl, he1, hl1, hr1, hg1, hB1⟩
          have HE1 := Lib.hid he1
          have HF1 := Lib.hid (HF.out.other hg1 hpp)
          have HB1 := Lib.hid hB1
          have hr1b : Rdr w1 w.heap.size (dropB s (t + L)) ((t + L : Nat) : Int) := by rw [← dropB_dropB, Int.natCast_add]; exact hr1
          have HR1 := Lib.hid hr1b
          clear he1 hl1 hr1 hr1b hg1 hB1 HN HF HB
          go_wp2_with fail
          refine (HM.out _ HF1.out).mono ?_
          rintro e w2 ⟨rfl, hf2, hg2⟩
          replace HE1 := Lib.hid (HE1.out.other2 hg2 HF1.out.c0)
          have HR2 := Lib.hid (HR1.out.other hg2 hpp.symm)
          have HB2 := Lib.hid (below_grown HB1.out hg2 hpp2 HF1.out.lt)
          have HF2 := Lib.hid hf2
          clear hf2 hg2 HM HF1 HB1 HR1
          go_wp2_with fail
          refine (is_any v1 C (atF C t) _ ?_ ?_).mono ?_
          · exact HE1.out.keep ((Below.refl _ _).alloc (Nat.le_refl _) _)
          · exact hE.below (trans' HB2.out ((Below.refl _ _).alloc (Nat.le_refl _) _))
          rintro e w3 ⟨rfl, hB3⟩
          have hB4 := trans' ((Below.refl w2.heap.size w2).alloc (Nat.le_refl _) _) hB3
          obtain ⟨T1, hT1⟩ : ∃ T1, T1 = t + L := ⟨_, rfl⟩
          rw [← hT1] at HR2 HF2
          obtain ⟨wr, hwr⟩ : ∃ wr, wr = w3 := ⟨_, rfl⟩
          rw [← hwr] at hB4 ⊢
          have HR := Lib.hid (HR2.out.keep hB4)
          have HF := Lib.hid (HF2.out.keep hB4)
          have HB := Lib.hid (trans' HB2.out hB4)
          have HEt := Lib.hid (hE.below HB.out)
          clear hT1 hB3 hB4 hwr HR2 HF2 HB2 HE1
          have hw : IntKind.i64.wrap ((s.size : Int) - (T1 : Int)) = ((dropB s T1).size : Int) := by
            have z1 := HF.out.h0
            have z2 := HHS.out
            rw [IntWalk.i64_in _ (by omega), dropB_size]
            omega
          go_wp2_with fail
          have HS0 : wr.cell? ⟨w.heap.size + 1, 1, none⟩ = some (.int .i64 ((T1 : Nat) : Int)) ∧ Below wr.heap.size wr wr := ⟨HF.out.c1, Below.refl _ _⟩
          go_region_held3 (fun w' => w'.cell? ⟨w.heap.size + 1, 1, none⟩ = some (.int .i64 ((T1 : Nat) : Int)) ∧ Below wr.heap.size wr w') (first | assumption | (exact ⟨keep_cell' hBs (‹_ ∧ Below wr.heap.size wr _›).1, trans' (‹_ ∧ Below wr.heap.size wr _›).2 hBs⟩) | (exact ⟨(‹_ ∧ Below wr.heap.size wr _›).1, (‹_ ∧ Below wr.heap.size wr _›).2.drew⟩)) (first | (go_at_call 19; refine (Place_any _ _ _ _ (HR.out.keep (‹_ ∧ Below wr.heap.size wr _›).2).r).mono ?_; rintro e w1 ⟨rfl, rfl⟩) | (go_at_call 20; refine (Left_any _ _ _ _ (HR.out.keep (‹_ ∧ Below wr.heap.size wr _›).2).r).mono ?_; rintro e w1 ⟨rfl, rfl⟩) | (go_at_call 21; refine (End_any _ _ _ _ (HR.out.keep (‹_ ∧ Below wr.heap.size wr _›).2).r).mono ?_; rintro e w1 ⟨vE, rfl, heE, hBs⟩) | (go_at_call 26; refine (rEnd_any _ _ _ _ (HF.out.keep (‹_ ∧ Below wr.heap.size wr _›).2)).mono ?_; rintro e w1 ⟨rfl, hBs⟩; try (replace heE := heE.keep hBs)) | (go_at_call 18; refine (is_any _ _ _ _ heE (HEt.out.below (‹_ ∧ Below wr.heap.size wr _›).2)).mono ?_; rintro e w1 ⟨rfl, hBs⟩))
          go_wp2_with fail
          go_roundw
          case rel => exact ⟨i + 1, T1, by omega, by omega, by go_num, HR.out.keep (‹_ ∧ Below wr.heap.size wr _›).2, HF.out.keep (‹_ ∧ Below wr.heap.size wr _›).2, trans' HB.out (‹_ ∧ Below wr.heap.size wr _›).2⟩
          case measure => simp [intOf]; omega
        · have HN := Lib.hid (num_any 2 (by decide) HB.out (Nat.le_refl _) HR.out)
          have HM : Hid (∀ W, RefR W (w.heap.size + 1) s t → Calls Tryd.prog 24 #[.pointer (some ⟨w.heap.size + 1, 0, none⟩), .int .i64 ((2 ^ 2 : Nat) : Int)] W (RfP (w.heap.size + 1) s t W (.int .u64 (nmV (2 ^ 2) (dropB s t))) (nmC (2 ^ 2) (dropB s t)) (nmL (2 ^ 2) (dropB s t)))) := fun W hr => Num_any (2 ^ 2) (by decide) _ s t W hr
          obtain ⟨V, hV⟩ : ∃ V, V = nmV (2 ^ 2) (dropB s t) := ⟨_, rfl⟩
          obtain ⟨C, hC⟩ : ∃ C, C = nmC (2 ^ 2) (dropB s t) := ⟨_, rfl⟩
          obtain ⟨L, hL⟩ : ∃ L, L = nmL (2 ^ 2) (dropB s t) := ⟨_, rfl⟩
          rw [← hV, ← hC, ← hL] at HN HM
          clear hV hC hL HR
          go_wp2_with fail
          refine HN.out.mono ?_
          rintro e w1 ⟨v1, rfl, he1, hl1, hr1, hg1, hB1⟩
          have HE1 := Lib.hid he1
          have HF1 := Lib.hid (HF.out.other hg1 hpp)
          have HB1 := Lib.hid hB1
          have hr1b : Rdr w1 w.heap.size (dropB s (t + L)) ((t + L : Nat) : Int) := by rw [← dropB_dropB, Int.natCast_add]; exact hr1
          have HR1 := Lib.hid hr1b
          clear he1 hl1 hr1 hr1b hg1 hB1 HN HF HB
          go_wp2_with fail
          refine (HM.out _ HF1.out).mono ?_
          rintro e w2 ⟨rfl, hf2, hg2⟩
          replace HE1 := Lib.hid (HE1.out.other2 hg2 HF1.out.c0)
          have HR2 := Lib.hid (HR1.out.other hg2 hpp.symm)
          have HB2 := Lib.hid (below_grown HB1.out hg2 hpp2 HF1.out.lt)
          have HF2 := Lib.hid hf2
          clear hf2 hg2 HM HF1 HB1 HR1
          go_wp2_with fail
          refine (is_any v1 C (atF C t) _ ?_ ?_).mono ?_
          · exact HE1.out.keep ((Below.refl _ _).alloc (Nat.le_refl _) _)
          · exact hE.below (trans' HB2.out ((Below.refl _ _).alloc (Nat.le_refl _) _))
          rintro e w3 ⟨rfl, hB3⟩
          have hB4 := trans' ((Below.refl w2.heap.size w2).alloc (Nat.le_refl _) _) hB3
          obtain ⟨T1, hT1⟩ : ∃ T1, T1 = t + L := ⟨_, rfl⟩
          rw [← hT1] at HR2 HF2
          obtain ⟨wr, hwr⟩ : ∃ wr, wr = w3 := ⟨_, rfl⟩
          rw [← hwr] at hB4 ⊢
          have HR := Lib.hid (HR2.out.keep hB4)
          have HF := Lib.hid (HF2.out.keep hB4)
          have HB := Lib.hid (trans' HB2.out hB4)
          have HEt := Lib.hid (hE.below HB.out)
          clear hT1 hB3 hB4 hwr HR2 HF2 HB2 HE1
          have hw : IntKind.i64.wrap ((s.size : Int) - (T1 : Int)) = ((dropB s T1).size : Int) := by
            have z1 := HF.out.h0
            have z2 := HHS.out
            rw [IntWalk.i64_in _ (by omega), dropB_size]
            omega
          go_wp2_with fail
          have HS0 : wr.cell? ⟨w.heap.size + 1, 1, none⟩ = some (.int .i64 ((T1 : Nat) : Int)) ∧ Below wr.heap.size wr wr := ⟨HF.out.c1, Below.refl _ _⟩
          go_region_held3 (fun w' => w'.cell? ⟨w.heap.size + 1, 1, none⟩ = some (.int .i64 ((T1 : Nat) : Int)) ∧ Below wr.heap.size wr w') (first | assumption | (exact ⟨keep_cell' hBs (‹_ ∧ Below wr.heap.size wr _›).1, trans' (‹_ ∧ Below wr.heap.size wr _›).2 hBs⟩) | (exact ⟨(‹_ ∧ Below wr.heap.size wr _›).1, (‹_ ∧ Below wr.heap.size wr _›).2.drew⟩)) (first | (go_at_call 19; refine (Place_any _ _ _ _ (HR.out.keep (‹_ ∧ Below wr.heap.size wr _›).2).r).mono ?_; rintro e w1 ⟨rfl, rfl⟩) | (go_at_call 20; refine (Left_any _ _ _ _ (HR.out.keep (‹_ ∧ Below wr.heap.size wr _›).2).r).mono ?_; rintro e w1 ⟨rfl, rfl⟩) | (go_at_call 21; refine (End_any _ _ _ _ (HR.out.keep (‹_ ∧ Below wr.heap.size wr _›).2).r).mono ?_; rintro e w1 ⟨vE, rfl, heE, hBs⟩) | (go_at_call 26; refine (rEnd_any _ _ _ _ (HF.out.keep (‹_ ∧ Below wr.heap.size wr _›).2)).mono ?_; rintro e w1 ⟨rfl, hBs⟩; try (replace heE := heE.keep hBs)) | (go_at_call 18; refine (is_any _ _ _ _ heE (HEt.out.below (‹_ ∧ Below wr.heap.size wr _›).2)).mono ?_; rintro e w1 ⟨rfl, hBs⟩))
          go_wp2_with fail
          go_roundw
          case rel => exact ⟨i + 1, T1, by omega, by omega, by go_num, HR.out.keep (‹_ ∧ Below wr.heap.size wr _›).2, HF.out.keep (‹_ ∧ Below wr.heap.size wr _›).2, trans' HB.out (‹_ ∧ Below wr.heap.size wr _›).2⟩
          case measure => simp [intOf]; omega
        · have HN := Lib.hid (num_any 3 (by decide) HB.out (Nat.le_refl _) HR.out)
          have HM : Hid (∀ W, RefR W (w.heap.size + 1) s t → Calls Tryd.prog 24 #[.pointer (some ⟨w.heap.size + 1, 0, none⟩), .int .i64 ((2 ^ 3 : Nat) : Int)] W (RfP (w.heap.size + 1) s t W (.int .u64 (nmV (2 ^ 3) (dropB s t))) (nmC (2 ^ 3) (dropB s t)) (nmL (2 ^ 3) (dropB s t)))) := fun W hr => Num_any (2 ^ 3) (by decide) _ s t W hr
          obtain ⟨V, hV⟩ : ∃ V, V = nmV (2 ^ 3) (dropB s t) := ⟨_, rfl⟩
          obtain ⟨C, hC⟩ : ∃ C, C = nmC (2 ^ 3) (dropB s t) := ⟨_, rfl⟩
          obtain ⟨L, hL⟩ : ∃ L, L = nmL (2 ^ 3) (dropB s t) := ⟨_, rfl⟩
          rw [← hV, ← hC, ← hL] at HN HM
          clear hV hC hL HR
          go_wp2_with fail
          refine HN.out.mono ?_
          rintro e w1 ⟨v1, rfl, he1, hl1, hr1, hg1, hB1⟩
          have HE1 := Lib.hid he1
          have HF1 := Lib.hid (HF.out.other hg1 hpp)
          have HB1 := Lib.hid hB1
          have hr1b : Rdr w1 w.heap.size (dropB s (t + L)) ((t + L : Nat) : Int) := by rw [← dropB_dropB, Int.natCast_add]; exact hr1
          have HR1 := Lib.hid hr1b
          clear he1 hl1 hr1 hr1b hg1 hB1 HN HF HB
          go_wp2_with fail
          refine (HM.out _ HF1.out).mono ?_
          rintro e w2 ⟨rfl, hf2, hg2⟩
          replace HE1 := Lib.hid (HE1.out.other2 hg2 HF1.out.c0)
          have HR2 := Lib.hid (HR1.out.other hg2 hpp.symm)
          have HB2 := Lib.hid (below_grown HB1.out hg2 hpp2 HF1.out.lt)
          have HF2 := Lib.hid hf2
          clear hf2 hg2 HM HF1 HB1 HR1
          go_wp2_with fail
          refine (is_any v1 C (atF C t) _ ?_ ?_).mono ?_
          · exact HE1.out.keep ((Below.refl _ _).alloc (Nat.le_refl _) _)
          · exact hE.below (trans' HB2.out ((Below.refl _ _).alloc (Nat.le_refl _) _))
          rintro e w3 ⟨rfl, hB3⟩
          have hB4 := trans' ((Below.refl w2.heap.size w2).alloc (Nat.le_refl _) _) hB3
          obtain ⟨T1, hT1⟩ : ∃ T1, T1 = t + L := ⟨_, rfl⟩
          rw [← hT1] at HR2 HF2
          obtain ⟨wr, hwr⟩ : ∃ wr, wr = w3 := ⟨_, rfl⟩
          rw [← hwr] at hB4 ⊢
          have HR := Lib.hid (HR2.out.keep hB4)
          have HF := Lib.hid (HF2.out.keep hB4)
          have HB := Lib.hid (trans' HB2.out hB4)
          have HEt := Lib.hid (hE.below HB.out)
          clear hT1 hB3 hB4 hwr HR2 HF2 HB2 HE1
          have hw : IntKind.i64.wrap ((s.size : Int) - (T1 : Int)) = ((dropB s T1).size : Int) := by
            have z1 := HF.out.h0
            have z2 := HHS.out
            rw [IntWalk.i64_in _ (by omega), dropB_size]
            omega
          go_wp2_with fail
          have HS0 : wr.cell? ⟨w.heap.size + 1, 1, none⟩ = some (.int .i64 ((T1 : Nat) : Int)) ∧ Below wr.heap.size wr wr := ⟨HF.out.c1, Below.refl _ _⟩
          go_region_held3 (fun w' => w'.cell? ⟨w.heap.size + 1, 1, none⟩ = some (.int .i64 ((T1 : Nat) : Int)) ∧ Below wr.heap.size wr w') (first | assumption | (exact ⟨keep_cell' hBs (‹_ ∧ Below wr.heap.size wr _›).1, trans' (‹_ ∧ Below wr.heap.size wr _›).2 hBs⟩) | (exact ⟨(‹_ ∧ Below wr.heap.size wr _›).1, (‹_ ∧ Below wr.heap.size wr _›).2.drew⟩)) (first | (go_at_call 19; refine (Place_any _ _ _ _ (HR.out.keep (‹_ ∧ Below wr.heap.size wr _›).2).r).mono ?_; rintro e w1 ⟨rfl, rfl⟩) | (go_at_call 20; refine (Left_any _ _ _ _ (HR.out.keep (‹_ ∧ Below wr.heap.size wr _›).2).r).mono ?_; rintro e w1 ⟨rfl, rfl⟩) | (go_at_call 21; refine (End_any _ _ _ _ (HR.out.keep (‹_ ∧ Below wr.heap.size wr _›).2).r).mono ?_; rintro e w1 ⟨vE, rfl, heE, hBs⟩) | (go_at_call 26; refine (rEnd_any _ _ _ _ (HF.out.keep (‹_ ∧ Below wr.heap.size wr _›).2)).mono ?_; rintro e w1 ⟨rfl, hBs⟩; try (replace heE := heE.keep hBs)) | (go_at_call 18; refine (is_any _ _ _ _ heE (HEt.out.below (‹_ ∧ Below wr.heap.size wr _›).2)).mono ?_; rintro e w1 ⟨rfl, hBs⟩))
          go_wp2_with fail
          go_roundw
          case rel => exact ⟨i + 1, T1, by omega, by omega, by go_num, HR.out.keep (‹_ ∧ Below wr.heap.size wr _›).2, HF.out.keep (‹_ ∧ Below wr.heap.size wr _›).2, trans' HB.out (‹_ ∧ Below wr.heap.size wr _›).2⟩
          case measure => simp [intOf]; omega
      · have HN := Lib.hid (text_rd (x - 4) HB.out (Nat.le_refl _) HR.out)
        have HM : Hid (∀ W, RefR W (w.heap.size + 1) s t → Calls Tryd.prog 25 #[.pointer (some ⟨w.heap.size + 1, 0, none⟩), .int .i64 (x - 4)] W (RfP (w.heap.size + 1) s t W (.string (txV (x - 4) (dropB s t))) (tCode (x - 4) (dropB s t)) (txL (x - 4) (dropB s t)))) := fun W hr => rText_any (x - 4) _ s t W hr
        obtain ⟨V, hV⟩ : ∃ V, V = txV (x - 4) (dropB s t) := ⟨_, rfl⟩
        obtain ⟨C, hC⟩ : ∃ C, C = tCode (x - 4) (dropB s t) := ⟨_, rfl⟩
        obtain ⟨L, hL⟩ : ∃ L, L = txL (x - 4) (dropB s t) := ⟨_, rfl⟩
        rw [← hV, ← hC, ← hL] at HN HM
        clear hV hC hL HR
        by_cases hx00 : 0 ≤ x
        · have hx40 : ¬ x < 4 := by omega
          clear hK
          go_wp2_with fail
          refine HN.out.mono ?_
          rintro e w1 ⟨v1, rfl, he1, hl1, hr1, hg1, hB1⟩
          have HE1 := Lib.hid he1
          have HF1 := Lib.hid (HF.out.other hg1 hpp)
          have HB1 := Lib.hid hB1
          have hr1b : Rdr w1 w.heap.size (dropB s (t + L)) ((t + L : Nat) : Int) := by rw [← dropB_dropB, Int.natCast_add]; exact hr1
          have HR1 := Lib.hid hr1b
          clear he1 hl1 hr1 hr1b hg1 hB1 HN HF HB
          go_wp2_with fail
          refine (HM.out _ HF1.out).mono ?_
          rintro e w2 ⟨rfl, hf2, hg2⟩
          replace HE1 := Lib.hid (HE1.out.other2 hg2 HF1.out.c0)
          have HR2 := Lib.hid (HR1.out.other hg2 hpp.symm)
          have HB2 := Lib.hid (below_grown HB1.out hg2 hpp2 HF1.out.lt)
          have HF2 := Lib.hid hf2
          clear hf2 hg2 HM HF1 HB1 HR1
          go_wp2_with fail
          refine (is_any v1 C (atF C t) _ ?_ ?_).mono ?_
          · exact HE1.out.keep ((Below.refl _ _).alloc (Nat.le_refl _) _)
          · exact hE.below (trans' HB2.out ((Below.refl _ _).alloc (Nat.le_refl _) _))
          rintro e w3 ⟨rfl, hB3⟩
          have hB4 := trans' ((Below.refl w2.heap.size w2).alloc (Nat.le_refl _) _) hB3
          obtain ⟨T1, hT1⟩ : ∃ T1, T1 = t + L := ⟨_, rfl⟩
          rw [← hT1] at HR2 HF2
          obtain ⟨wr, hwr⟩ : ∃ wr, wr = w3 := ⟨_, rfl⟩
          rw [← hwr] at hB4 ⊢
          have HR := Lib.hid (HR2.out.keep hB4)
          have HF := Lib.hid (HF2.out.keep hB4)
          have HB := Lib.hid (trans' HB2.out hB4)
          have HEt := Lib.hid (hE.below HB.out)
          clear hT1 hB3 hB4 hwr HR2 HF2 HB2 HE1
          have hw : IntKind.i64.wrap ((s.size : Int) - (T1 : Int)) = ((dropB s T1).size : Int) := by
            have z1 := HF.out.h0
            have z2 := HHS.out
            rw [IntWalk.i64_in _ (by omega), dropB_size]
            omega
          go_wp2_with fail
          have HS0 : wr.cell? ⟨w.heap.size + 1, 1, none⟩ = some (.int .i64 ((T1 : Nat) : Int)) ∧ Below wr.heap.size wr wr := ⟨HF.out.c1, Below.refl _ _⟩
          go_region_held3 (fun w' => w'.cell? ⟨w.heap.size + 1, 1, none⟩ = some (.int .i64 ((T1 : Nat) : Int)) ∧ Below wr.heap.size wr w') (first | assumption | (exact ⟨keep_cell' hBs (‹_ ∧ Below wr.heap.size wr _›).1, trans' (‹_ ∧ Below wr.heap.size wr _›).2 hBs⟩) | (exact ⟨(‹_ ∧ Below wr.heap.size wr _›).1, (‹_ ∧ Below wr.heap.size wr _›).2.drew⟩)) (first | (go_at_call 19; refine (Place_any _ _ _ _ (HR.out.keep (‹_ ∧ Below wr.heap.size wr _›).2).r).mono ?_; rintro e w1 ⟨rfl, rfl⟩) | (go_at_call 20; refine (Left_any _ _ _ _ (HR.out.keep (‹_ ∧ Below wr.heap.size wr _›).2).r).mono ?_; rintro e w1 ⟨rfl, rfl⟩) | (go_at_call 21; refine (End_any _ _ _ _ (HR.out.keep (‹_ ∧ Below wr.heap.size wr _›).2).r).mono ?_; rintro e w1 ⟨vE, rfl, heE, hBs⟩) | (go_at_call 26; refine (rEnd_any _ _ _ _ (HF.out.keep (‹_ ∧ Below wr.heap.size wr _›).2)).mono ?_; rintro e w1 ⟨rfl, hBs⟩; try (replace heE := heE.keep hBs)) | (go_at_call 18; refine (is_any _ _ _ _ heE (HEt.out.below (‹_ ∧ Below wr.heap.size wr _›).2)).mono ?_; rintro e w1 ⟨rfl, hBs⟩))
          go_wp2_with fail
          go_roundw
          case rel => exact ⟨i + 1, T1, by omega, by omega, by go_num, HR.out.keep (‹_ ∧ Below wr.heap.size wr _›).2, HF.out.keep (‹_ ∧ Below wr.heap.size wr _›).2, trans' HB.out (‹_ ∧ Below wr.heap.size wr _›).2⟩
          case measure => simp [intOf]; omega
        · clear hK
          go_wp2_with fail
          refine HN.out.mono ?_
          rintro e w1 ⟨v1, rfl, he1, hl1, hr1, hg1, hB1⟩
          have HE1 := Lib.hid he1
          have HF1 := Lib.hid (HF.out.other hg1 hpp)
          have HB1 := Lib.hid hB1
          have hr1b : Rdr w1 w.heap.size (dropB s (t + L)) ((t + L : Nat) : Int) := by rw [← dropB_dropB, Int.natCast_add]; exact hr1
          have HR1 := Lib.hid hr1b
          clear he1 hl1 hr1 hr1b hg1 hB1 HN HF HB
          go_wp2_with fail
          refine (HM.out _ HF1.out).mono ?_
          rintro e w2 ⟨rfl, hf2, hg2⟩
          replace HE1 := Lib.hid (HE1.out.other2 hg2 HF1.out.c0)
          have HR2 := Lib.hid (HR1.out.other hg2 hpp.symm)
          have HB2 := Lib.hid (below_grown HB1.out hg2 hpp2 HF1.out.lt)
          have HF2 := Lib.hid hf2
          clear hf2 hg2 HM HF1 HB1 HR1
          go_wp2_with fail
          refine (is_any v1 C (atF C t) _ ?_ ?_).mono ?_
          · exact HE1.out.keep ((Below.refl _ _).alloc (Nat.le_refl _) _)
          · exact hE.below (trans' HB2.out ((Below.refl _ _).alloc (Nat.le_refl _) _))
          rintro e w3 ⟨rfl, hB3⟩
          have hB4 := trans' ((Below.refl w2.heap.size w2).alloc (Nat.le_refl _) _) hB3
          obtain ⟨T1, hT1⟩ : ∃ T1, T1 = t + L := ⟨_, rfl⟩
          rw [← hT1] at HR2 HF2
          obtain ⟨wr, hwr⟩ : ∃ wr, wr = w3 := ⟨_, rfl⟩
          rw [← hwr] at hB4 ⊢
          have HR := Lib.hid (HR2.out.keep hB4)
          have HF := Lib.hid (HF2.out.keep hB4)
          have HB := Lib.hid (trans' HB2.out hB4)
          have HEt := Lib.hid (hE.below HB.out)
          clear hT1 hB3 hB4 hwr HR2 HF2 HB2 HE1
          have hw : IntKind.i64.wrap ((s.size : Int) - (T1 : Int)) = ((dropB s T1).size : Int) := by
            have z1 := HF.out.h0
            have z2 := HHS.out
            rw [IntWalk.i64_in _ (by omega), dropB_size]
            omega
          go_wp2_with fail
          have HS0 : wr.cell? ⟨w.heap.size + 1, 1, none⟩ = some (.int .i64 ((T1 : Nat) : Int)) ∧ Below wr.heap.size wr wr := ⟨HF.out.c1, Below.refl _ _⟩
          go_region_held3 (fun w' => w'.cell? ⟨w.heap.size + 1, 1, none⟩ = some (.int .i64 ((T1 : Nat) : Int)) ∧ Below wr.heap.size wr w') (first | assumption | (exact ⟨keep_cell' hBs (‹_ ∧ Below wr.heap.size wr _›).1, trans' (‹_ ∧ Below wr.heap.size wr _›).2 hBs⟩) | (exact ⟨(‹_ ∧ Below wr.heap.size wr _›).1, (‹_ ∧ Below wr.heap.size wr _›).2.drew⟩)) (first | (go_at_call 19; refine (Place_any _ _ _ _ (HR.out.keep (‹_ ∧ Below wr.heap.size wr _›).2).r).mono ?_; rintro e w1 ⟨rfl, rfl⟩) | (go_at_call 20; refine (Left_any _ _ _ _ (HR.out.keep (‹_ ∧ Below wr.heap.size wr _›).2).r).mono ?_; rintro e w1 ⟨rfl, rfl⟩) | (go_at_call 21; refine (End_any _ _ _ _ (HR.out.keep (‹_ ∧ Below wr.heap.size wr _›).2).r).mono ?_; rintro e w1 ⟨vE, rfl, heE, hBs⟩) | (go_at_call 26; refine (rEnd_any _ _ _ _ (HF.out.keep (‹_ ∧ Below wr.heap.size wr _›).2)).mono ?_; rintro e w1 ⟨rfl, hBs⟩; try (replace heE := heE.keep hBs)) | (go_at_call 18; refine (is_any _ _ _ _ heE (HEt.out.below (‹_ ∧ Below wr.heap.size wr _›).2)).mono ?_; rintro e w1 ⟨rfl, hBs⟩))
          go_wp2_with fail
          go_roundw
          case rel => exact ⟨i + 1, T1, by omega, by omega, by go_num, HR.out.keep (‹_ ∧ Below wr.heap.size wr _›).2, HF.out.keep (‹_ ∧ Below wr.heap.size wr _›).2, trans' HB.out (‹_ ∧ Below wr.heap.size wr _›).2⟩
          case measure => simp [intOf]; omega
    · have hend : ¬ ((i : Int) < (l.length : Int)) ∨ ¬ ((i : Int) < 40) := by omega
      have HEt := Lib.hid (hE.below HB.out)
      by_cases h1 : (i : Int) < (l.length : Int)
      · have h2 : ¬ ((i : Int) < 40) := by omega
        clear hend hlt
        go_wp2_with fail
        refine (works_any _ HEt.out).mono ?_
        rintro e w2 ⟨rfl, hB⟩
        go_wp2_with fail
        go_ret
        exact ⟨rfl, trans' HB.out hB⟩
      · clear hend hlt
        go_wp2_with fail
        refine (works_any _ HEt.out).mono ?_
        rintro e w2 ⟨rfl, hB⟩
        go_wp2_with fail
        go_ret
        exact ⟨rfl, trans' HB.out hB⟩
end Go.Proofs.YtbnnemiiodhjbaaDoor
