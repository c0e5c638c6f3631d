/- keys.ReadId, ReadNumber. -/
import Derived.Test.YtdnnbnohemkfkaaDoorP7
import Derived.Test.YtdnnbnohemkfkaaDoorG
namespace Go.Proofs.YtdnnbnohemkfkaaDoor
open Go.RowKit
set_option linter.unusedVariables false

/-- Of what a number's key is. -/
def rdNumber (q : ByteArray) : Option Int := if q.size = 4 then some (be4 q) else none
set_option maxRecDepth 100000 in
set_option maxHeartbeats 2000000 in
theorem ReadNumber_any (q : ByteArray) (w : World) : Calls Tryd.prog 28 #[.string q] w fun e w' => e = .returned (.tuple #[.int .u32 ((rdNumber q).getD 0), .bool (rdNumber q).isSome]) ∧ Below w.heap.size w w' := by
  by_cases h1 : q.size < 4
  · have HE : Hid (rdNumber q = none) := if_neg (by omega)
    go_enter Tryd.func28, Tryd.ntmps28
    go_wp2_with fail
    refine (New_any q _).mono ?_
    rintro e w1 ⟨rfl, hr, hB, hs⟩
    go_wp2_with fail
    refine (U32_no _ q 0 _ hr h1).mono ?_
    rintro e w2 ⟨rfl, rfl⟩
    dsimp only [FV]
    go_wp2_with fail
    go_ret2
    exact ⟨by rw [HE.out]; rfl, hB.alloc hB.size _⟩
  · have h4 : 4 ≤ q.size := by omega
    have hds := dropB_size q 4
    by_cases h2 : q.size = 4
    · have HE : Hid (rdNumber q = some (be4 q)) := if_pos h2
      have h0 : ((dropB q 4).size : Int) = 0 := by omega
      clear h1 h2
      go_enter Tryd.func28, Tryd.ntmps28
      go_wp2_with fail
      refine (New_any q _).mono ?_
      rintro e w1 ⟨rfl, hr, hB, hs⟩
      go_wp2_with fail
      refine (U32_is _ q 0 _ hr h4 (by omega) (by omega)).mono ?_
      rintro e w2 ⟨rfl, hr2, hB2⟩
      go_wp2_with (go_at_call 49; refine (Left_any _ _ _ _ hr2).mono ?_; rintro e w3 ⟨rfl, rfl⟩)
      go_ret2
      exact ⟨by rw [HE.out]; rfl, below_grown hB hB2 (Nat.le_refl _) (by omega)⟩
    · have HE : Hid (rdNumber q = none) := if_neg h2
      have h0 : (0 : Int) < ((dropB q 4).size : Int) := by omega
      clear h1 h2
      go_enter Tryd.func28, Tryd.ntmps28
      go_wp2_with fail
      refine (New_any q _).mono ?_
      rintro e w1 ⟨rfl, hr, hB, hs⟩
      go_wp2_with fail
      refine (U32_is _ q 0 _ hr h4 (by omega) (by omega)).mono ?_
      rintro e w2 ⟨rfl, hr2, hB2⟩
      go_wp2_with (go_at_call 49; refine (Left_any _ _ _ _ hr2).mono ?_; rintro e w3 ⟨rfl, rfl⟩)
      go_ret2
      exact ⟨by rw [HE.out]; rfl, below_grown hB hB2 (Nat.le_refl _) (by omega)⟩

/-- Of what an id's key is. -/
def rdId (q : ByteArray) : Option (Int × Int) := if 5 ≤ q.size ∧ q.toList = kId (be1 q) (be4 (dropB q 1)) then some (be1 q, be4 (dropB q 1)) else none
def fst0 (o : Option (Int × Int)) : Int := match o with | some x => x.1 | none => 0
def snd0 (o : Option (Int × Int)) : Int := match o with | some x => x.2 | none => 0
theorem be4_bounds (q : ByteArray) : 0 ≤ be4 q ∧ be4 q < 4294967296 := by
  unfold be4
  have h0 := (q.data.toList.getD 0 0).toNat_lt
  have h1 := (q.data.toList.getD 1 0).toNat_lt
  have h2 := (q.data.toList.getD 2 0).toNat_lt
  have h3 := (q.data.toList.getD 3 0).toNat_lt
  omega

set_option maxRecDepth 100000 in
set_option maxHeartbeats 2000000 in
theorem ReadId_any (q : ByteArray) (w : World) : Calls Tryd.prog 26 #[.string q] w fun e w' => e = .returned (.tuple #[.int .i64 (fst0 (rdId q)), .int .u32 (snd0 (rdId q)), .bool (rdId q).isSome]) ∧ Below w.heap.size w w' := by
  have hds := dropB_size q 1
  by_cases h1 : q.size < 1
  · have HE : Hid (rdId q = none) := if_neg (by omega)
    go_enter Tryd.func26, Tryd.ntmps26
    go_wp2_with fail
    refine (New_any q _).mono ?_
    rintro e w1 ⟨rfl, hr, hB, hs⟩
    go_wp2_with fail
    refine (U8_no _ q 0 _ hr h1).mono ?_
    rintro e w2 ⟨rfl, rfl⟩
    dsimp only [FV]
    go_wp2_with fail
    go_returns
    exact ⟨by rw [HE.out]; rfl, hB.alloc hB.size _⟩
  · have h1' : 1 ≤ q.size := by omega
    have hb := be1_bounds q
    by_cases h5 : q.size < 5
    · have HE : Hid (rdId q = none) := if_neg (by omega)
      have h4 : (dropB q 1).size < 4 := by omega
      clear h1 h5
      go_enter Tryd.func26, Tryd.ntmps26
      go_wp2_with fail
      refine (New_any q _).mono ?_
      rintro e w1 ⟨rfl, hr, hB, hs⟩
      go_wp2_with fail
      refine (U8_is _ q 0 _ hr h1' (by omega) (by omega)).mono ?_
      rintro e w2 ⟨rfl, hr2, hB2⟩
      go_wp2_with fail
      refine (U32_no _ _ _ _ hr2 h4).mono ?_
      rintro e w3 ⟨rfl, rfl⟩
      dsimp only [FV]
      replace hB2 := below_grown hB hB2 (Nat.le_refl _) (by omega)
      go_wp2_with fail
      go_returns
      exact ⟨by rw [HE.out]; rfl, hB2.alloc hB2.size _⟩
    · have h4 : 4 ≤ (dropB q 1).size := by omega
      have hb4 := be4_bounds (dropB q 1)
      cases hE : (q.toList == kId (be1 q) (be4 (dropB q 1))) with
      | true =>
        have HE : Hid (rdId q = some (be1 q, be4 (dropB q 1))) := if_pos ⟨by omega, by simpa using hE⟩
        clear h1 h5
        go_enter Tryd.func26, Tryd.ntmps26
        go_wp2_with fail
        refine (New_any q _).mono ?_
        rintro e w1 ⟨rfl, hr, hB, hs⟩
        go_wp2_with fail
        refine (U8_is _ q 0 _ hr h1' (by omega) (by omega)).mono ?_
        rintro e w2 ⟨rfl, hr2, hB2⟩
        have hs2 := hB2.size
        go_wp2_with fail
        refine (U32_is _ _ _ _ hr2 h4 (by omega) (by omega)).mono ?_
        rintro e w3 ⟨rfl, hr3, hB3⟩
        replace hB3 := below_grown (below_grown hB hB2 (Nat.le_refl _) (by omega)) hB3 (Nat.le_refl _) (by omega)
        go_wp2_with (go_at_call 8; refine (Id_any _ _ _ hb4.1 hb4.2).mono ?_; rintro e w4 ⟨rfl, hB4⟩)
        go_returns
        exact ⟨by rw [HE.out]; rfl, bstep' hB3 (Nat.le_refl _) hB4⟩
      | false =>
        have HE : Hid (rdId q = none) := if_neg (by rintro ⟨_, h⟩; rw [h] at hE; simp at hE)
        clear h1 h5
        go_enter Tryd.func26, Tryd.ntmps26
        go_wp2_with fail
        refine (New_any q _).mono ?_
        rintro e w1 ⟨rfl, hr, hB, hs⟩
        go_wp2_with fail
        refine (U8_is _ q 0 _ hr h1' (by omega) (by omega)).mono ?_
        rintro e w2 ⟨rfl, hr2, hB2⟩
        have hs2 := hB2.size
        go_wp2_with fail
        refine (U32_is _ _ _ _ hr2 h4 (by omega) (by omega)).mono ?_
        rintro e w3 ⟨rfl, hr3, hB3⟩
        replace hB3 := below_grown (below_grown hB hB2 (Nat.le_refl _) (by omega)) hB3 (Nat.le_refl _) (by omega)
        go_wp2_with (go_at_call 8; refine (Id_any _ _ _ hb4.1 hb4.2).mono ?_; rintro e w4 ⟨rfl, hB4⟩)
        go_returns
        exact ⟨by rw [HE.out]; rfl, bstep' hB3 (Nat.le_refl _) hB4⟩
end Go.Proofs.YtdnnbnohemkfkaaDoor
