/- The chapter's first row. -/
import Derived.Test.YtemngdhbicndlaaDoorVc5
import Derived.Test.YtemngdhbicndlaaDoorTo3v
namespace Go.Proofs.YtemngdhbicndlaaDoor
open Go.RowKit
set_option linter.unusedVariables false
set_option linter.unusedSimpArgs false

theorem numL_0 : numL 0 = [0] := by unfold numL; rw [nb_zero]; rfl
theorem numL_2 : numL 2 = [1, 2] := by unfold numL; rw [nb_small (by decide)]; rfl
theorem numL_256 : numL 256 = [2, 1, 0] := by unfold numL; rw [nb_pos (by decide), show 256 / 256 = 1 from rfl, nb_small (by decide)]; rfl
def exL : List Fd := [⟨1, false, 0, ⟨#[]⟩⟩, ⟨2, true, 0, ⟨#[97, 98]⟩⟩, ⟨63, false, 256, ⟨#[]⟩⟩]
theorem exL_c : putC exL = 0 := by decide
theorem exL_flat : flatL exL = [2, 0, 5, 1, 2, 97, 98, 126, 2, 1, 0] := by
  show fieldL ⟨1, false, 0, ⟨#[]⟩⟩ ++ (fieldL ⟨2, true, 0, ⟨#[97, 98]⟩⟩ ++ (fieldL ⟨63, false, 256, ⟨#[]⟩⟩ ++ [])) = _
  have e1 : fieldL ⟨1, false, 0, ⟨#[]⟩⟩ = 2 :: numL 0 := rfl
  have e2 : fieldL ⟨2, true, 0, ⟨#[97, 98]⟩⟩ = 5 :: (numL 2 ++ [97, 98]) := rfl
  have e3 : fieldL ⟨63, false, 256, ⟨#[]⟩⟩ = 126 :: numL 256 := rfl
  rw [e1, e2, e3, numL_0, numL_2, numL_256]
  rfl
theorem exL_n : ∀ f ∈ exL, f.n < 18446744073709551616 := by decide
/-- Fields of a literal. -/
theorem RdV.lit (w : World) (l : List Fd) (t : TypeId) : RdV (w.alloc (.cells (l.flatMap fdC).toArray t)) (.slice (some ⟨w.heap.size, 0, none⟩) l.length l.length) l := by
  refine ⟨some (w.heap.size, 0), l.length, rfl, Nat.le_refl _, (fun h => by cases h), fun p hp k f hf j u hu => ?_⟩
  obtain rfl : (w.heap.size, 0) = p := by simpa using hp
  have hj : j < 4 := (List.getElem?_eq_some_iff.1 hu).1
  rw [cell_of_row _ _ _ _ _ _ (heap_alloc_new w _), Nat.zero_add]
  have h := flat_at fdC 4 (fun _ => rfl) j hj l k f hf
  rw [hu] at h
  simpa using h
theorem told_is {v : Value} {c t : Int} {w : World} (h : ErrIs w v c t) (hE : EtP w) : Calls Tryd.prog 13 #[v, .agg #[.int .i64 c, .int .i64 t]] w fun e w' => e = .returned (.bool true) ∧ Below w.heap.size w w' := by
  rcases h with ⟨rfl, rfl, rfl⟩ | ⟨hc, a, rfl, h0, h1⟩
  · exact told_nil 0 0 w
  · exact told_yes a c t w (by rw [beq_eq_false_iff_ne]; exact hc) h0 h1 hE
set_option maxRecDepth 100000 in
set_option maxHeartbeats 1000000 in
theorem works_any (w : World) (hE : EtP w) : Calls Tryd.prog 15 #[] w fun e w' => e = .returned (.bool true) ∧ Below w.heap.size w w' := by
  have hv : RdV (w.alloc (.cells #[.int .i64 1, .bool false, .int .u64 0, .string ⟨#[]⟩, .int .i64 2, .bool true, .int .u64 0, .string ⟨#[97, 98]⟩, .int .i64 63, .bool false, .int .u64 256, .string ⟨#[]⟩] 50)) (.slice (some ⟨w.heap.size, 0, none⟩) 3 3) exL := RdV.lit w exL 50
  have HP := Lib.hid (put_any exL _ _ hv exL_n (by decide))
  have he : (⟨(putL exL).toArray⟩ : ByteArray) = ⟨#[2, 0, 5, 1, 2, 97, 98, 126, 2, 1, 0]⟩ := by rw [putL_of exL_c, exL_flat]
  rw [he, exL_c] at HP
  have h2 : (⟨#[2, 0, 5, 1, 2, 97, 98, 126, 2, 1, 0]⟩ : ByteArray).data.toList = flatL exL := by rw [exL_flat]
  obtain ⟨r1, r2, r3⟩ := read_flat exL_n exL_c
  have HR1 : Hid (∀ W, Calls Tryd.prog 11 #[.string ⟨#[2, 0, 5, 1, 2, 97, 98, 126, 2, 1, 0]⟩] W fun e w' => ∃ v1 v2, e = .returned (.tuple #[v1, v2]) ∧ RdV w' v1 exL ∧ ErrIs w' v2 0 0 ∧ Below W.heap.size W w') := fun W => by
    have q := read_any ⟨#[2, 0, 5, 1, 2, 97, 98, 126, 2, 1, 0]⟩ W (by decide)
    rw [h2, r1, r2, r3] at q
    exact q
  have s1 : readC [2, 1, 0] = 5 := by decide
  have s2 : readT [2, 1, 0] = 0 := by decide
  have s3 : readF [2, 1, 0] = [] := by decide
  have HR2 : Hid (∀ W, Calls Tryd.prog 11 #[.string ⟨#[2, 1, 0]⟩] W fun e w' => ∃ v1 v2, e = .returned (.tuple #[v1, v2]) ∧ RdV w' v1 [] ∧ ErrIs w' v2 5 0 ∧ Below W.heap.size W w') := fun W => by
    have q := read_any ⟨#[2, 1, 0]⟩ W (by decide)
    rw [show (⟨#[2, 1, 0]⟩ : ByteArray).data.toList = [2, 1, 0] from rfl, s1, s2, s3] at q
    exact q
  clear h2 r1 r2 r3 s1 s2 s3 he hv
  go_enter Tryd.func15, Tryd.ntmps15
  go_wp2_with fail
  refine HP.out.mono ?_
  rintro e w1 ⟨rfl, hB1⟩
  have HB1 : Hid (Below w.heap.size w w1) := ((Below.refl _ _).alloc (Nat.le_refl _) _).trans (hB1.mono (by simp))
  clear hB1 HP
  go_wp2_with fail
  refine (HR1.out _).mono ?_
  rintro e w2 ⟨v2, e2, rfl, hr2, he2, hB2⟩
  obtain ⟨a, c, rfl, hc, hcs⟩ := hr2.opn
  obtain ⟨_, _, rfl⟩ | ⟨h0, _⟩ := he2
  rotate_left
  · exact absurd rfl h0
  obtain ⟨b, o, rfl, k1⟩ := hcs 1 ⟨2, true, 0, ⟨#[97, 98]⟩⟩ rfl
  obtain ⟨b', o', e', k2⟩ := hcs 2 ⟨63, false, 256, ⟨#[]⟩⟩ rfl
  obtain ⟨rfl, rfl⟩ : b = b' ∧ o = o' := by simpa using e'
  have c3 := k1 3 _ rfl
  have c6 := k2 2 _ rfl
  have HB2 := Lib.hid (bstep7 HB1.out hB2)
  clear hB2 hr2 hcs k1 k2 e'
  go_wp2_with fail
  refine (HR2.out _).mono ?_
  rintro e w3 ⟨v3, e3, rfl, hr3, he3, hB3⟩
  have c3 := keepC hB3 c3
  have c6 := keepC hB3 c6
  have HE3 := Lib.hid he3
  have HB3 := Lib.hid (bstep7 HB2.out hB3)
  clear hB3 hr3 he3
  go_wp2_with fail
  refine (told_is HE3.out (hE.below HB3.out)).mono ?_
  rintro e w4 ⟨rfl, hB4⟩
  have HB4 := Lib.hid (bstep7 HB3.out hB4)
  clear hB4
  go_wp2_with fail
  go_ret
  exact ⟨rfl, HB4.out⟩
end Go.Proofs.YtemngdhbicndlaaDoor
