/- The references of layer 17: keys. -/
import Derived.Test.YtdnnbnohemkfkaaDoorI
namespace Go.Proofs.YtdnnbnohemkfkaaDoor
open Go.RowKit
set_option linter.unusedVariables false

set_option maxRecDepth 100000 in
set_option maxHeartbeats 2000000 in
theorem rMap_any (n m : Int) (w : World) : Calls Tryd.prog 19 #[.int .i64 n, .int .i64 m] w fun e w' => e = .returned (.string ⟨(rMap n m).toArray⟩) ∧ Below w.heap.size w w' := by
  have hl1 : (rEvent n).length ≤ 1 := by unfold rEvent rOne; split <;> simp
  have hl2 : (rOne m 1 2).length ≤ 1 := by unfold rOne; split <;> simp
  by_cases h : rEvent n = []
  · have HE : Hid (rMap n m = []) := if_pos (.inl h)
    go_enter Tryd.func19, Tryd.ntmps19
    go_wp2_with fail
    refine (rEvent_any _ _).mono ?_; rintro e w1 ⟨rfl, hB1⟩
    go_wp2_with fail
    refine (rone_any _ _ _ _).mono ?_; rintro e w2 ⟨rfl, hB2⟩
    go_wp2
    go_ret
    have hB12 := (hB1).trans (hB2.mono (hB1).size)
    exact ⟨by rw [HE.out]; rfl, hB12⟩
  · have hE : (rEvent n).isEmpty = false := by simpa using h
    by_cases h2 : rOne m 1 2 = []
    · have HE : Hid (rMap n m = []) := if_pos (.inr h2)
      clear h
      go_enter Tryd.func19, Tryd.ntmps19
      go_wp2_with fail
      refine (rEvent_any _ _).mono ?_; rintro e w1 ⟨rfl, hB1⟩
      go_wp2_with fail
      refine (rone_any _ _ _ _).mono ?_; rintro e w2 ⟨rfl, hB2⟩
      go_wp2
      go_ret
      have hB12 := (hB1).trans (hB2.mono (hB1).size)
      exact ⟨by rw [HE.out]; rfl, hB12⟩
    · have hE2 : (rOne m 1 2).isEmpty = false := by simpa using h2
      have HE : Hid (rMap n m = rEvent n ++ rOne m 1 2) := if_neg (by simp [h, h2])
      clear h h2
      go_enter Tryd.func19, Tryd.ntmps19
      go_wp2_with fail
      refine (rEvent_any _ _).mono ?_; rintro e w1 ⟨rfl, hB1⟩
      go_wp2_with fail
      refine (rone_any _ _ _ _).mono ?_; rintro e w2 ⟨rfl, hB2⟩
      go_wp2
      go_ret
      have hB12 := (hB1).trans (hB2.mono (hB1).size)
      exact ⟨ret_app HE.out, hB12⟩

set_option maxRecDepth 100000 in
set_option maxHeartbeats 2000000 in
theorem rPersons_any (n : Int) (s : ByteArray) (w : World) (hs : s.size ≤ 140737488351232) : Calls Tryd.prog 21 #[.int .i64 n, .string s] w fun e w' => e = .returned (.string ⟨(rPersons n s.data.toList).toArray⟩) ∧ Below w.heap.size w w' := by
  have hl1 : (rEvent n).length ≤ 1 := by unfold rEvent rOne; split <;> simp
  have hl2 : (textB s.data.toList).length ≤ 256 := textB_len _
  by_cases h : rEvent n = []
  · have HE : Hid (rPersons n s.data.toList = []) := if_pos (.inl h)
    go_enter Tryd.func21, Tryd.ntmps21
    go_wp2_with fail
    refine (rEvent_any _ _).mono ?_; rintro e w1 ⟨rfl, hB1⟩
    go_wp2
    go_ret
    exact ⟨by rw [HE.out]; rfl, hB1⟩
  · have hE : (rEvent n).isEmpty = false := by simpa using h
    by_cases h2 : personB s.data.toList = false
    · have HE : Hid (rPersons n s.data.toList = []) := if_pos (.inr h2)
      clear h
      go_enter Tryd.func21, Tryd.ntmps21
      go_wp2_with fail
      refine (rEvent_any _ _).mono ?_; rintro e w1 ⟨rfl, hB1⟩
      go_wp2_with fail
      refine (rperson_any _ _ hs).mono ?_; rintro e w2 ⟨rfl, hB2⟩
      go_wp2
      go_ret
      have hB12 := (hB1).trans (hB2.mono (hB1).size)
      exact ⟨by rw [HE.out]; rfl, hB12⟩
    · have hE2 : personB s.data.toList = true := by simpa using h2
      have HE : Hid (rPersons n s.data.toList = rEvent n ++ textB s.data.toList) := if_neg (by simp [h, h2])
      clear h h2
      go_enter Tryd.func21, Tryd.ntmps21
      go_wp2_with fail
      refine (rEvent_any _ _).mono ?_; rintro e w1 ⟨rfl, hB1⟩
      go_wp2_with fail
      refine (rperson_any _ _ hs).mono ?_; rintro e w2 ⟨rfl, hB2⟩
      go_wp2_with fail
      refine (rEvent_any _ _).mono ?_; rintro e w3 ⟨rfl, hB3⟩
      go_wp2_with fail
      refine (rtext_any _ _ hs).mono ?_; rintro e w4 ⟨rfl, hB4⟩
      go_wp2
      go_ret
      have hB12 := (hB1).trans (hB2.mono (hB1).size)
      have hB13 := (hB12).trans (hB3.mono (hB12).size)
      have hB14 := (hB13).trans (hB4.mono (hB13).size)
      exact ⟨ret_app HE.out, hB14⟩

set_option maxRecDepth 100000 in
set_option maxHeartbeats 2000000 in
theorem rId_any (n id : Int) (w : World) (h0 : 0 ≤ id) (h1 : id < 4294967296) : Calls Tryd.prog 9 #[.int .i64 n, .int .u32 id] w fun e w' => e = .returned (.string ⟨(rId n id).toArray⟩) ∧ Below w.heap.size w w' := by
  have hl1 : (rEvent n).length ≤ 1 := by unfold rEvent rOne; split <;> simp
  have hl2 : (beB 4 id.toNat).length ≤ 4 := by rw [beB_len]; omega
  by_cases h : rEvent n = []
  · have HE : Hid (rId n id = []) := if_pos h
    go_enter Tryd.func9, Tryd.ntmps9
    go_wp2_with fail
    refine (rEvent_any _ _).mono ?_; rintro e w1 ⟨rfl, hB1⟩
    go_wp2
    go_ret
    exact ⟨by rw [HE.out]; rfl, hB1⟩
  · have hE : (rEvent n).isEmpty = false := by simpa using h
    have HE : Hid (rId n id = rEvent n ++ beB 4 id.toNat) := if_neg h
    clear h
    go_enter Tryd.func9, Tryd.ntmps9
    go_wp2_with fail
    refine (rEvent_any _ _).mono ?_; rintro e w1 ⟨rfl, hB1⟩
    go_wp2_with fail
    refine (rEvent_any _ _).mono ?_; rintro e w2 ⟨rfl, hB2⟩
    go_wp2_with fail
    refine (four_any _ _ h0 h1).mono ?_; rintro e w3 ⟨rfl, hB3⟩
    go_wp2
    go_ret
    have hB12 := (hB1).trans (hB2.mono (hB1).size)
    have hB13 := (hB12).trans (hB3.mono (hB12).size)
    exact ⟨ret_app HE.out, hB13⟩

set_option maxRecDepth 100000 in
set_option maxHeartbeats 2000000 in
theorem rSeat_any (n m s : Int) (w : World) : Calls Tryd.prog 11 #[.int .i64 n, .int .i64 m, .int .i64 s] w fun e w' => e = .returned (.string ⟨(rSeat n m s).toArray⟩) ∧ Below w.heap.size w w' := by
  have hl1 : (rMap n m).length ≤ 2 := by unfold rMap rEvent rOne; split <;> (try split) <;> (try split) <;> simp
  have hl2 : (rOne s 0 63).length ≤ 1 := by unfold rOne; split <;> simp
  by_cases h : rMap n m = []
  · have HE : Hid (rSeat n m s = []) := if_pos (.inl h)
    go_enter Tryd.func11, Tryd.ntmps11
    go_wp2_with fail
    refine (rMap_any _ _ _).mono ?_; rintro e w1 ⟨rfl, hB1⟩
    go_wp2_with fail
    refine (rone_any _ _ _ _).mono ?_; rintro e w2 ⟨rfl, hB2⟩
    go_wp2
    go_ret
    have hB12 := (hB1).trans (hB2.mono (hB1).size)
    exact ⟨by rw [HE.out]; rfl, hB12⟩
  · have hE : (rMap n m).isEmpty = false := by simpa using h
    by_cases h2 : rOne s 0 63 = []
    · have HE : Hid (rSeat n m s = []) := if_pos (.inr h2)
      clear h
      go_enter Tryd.func11, Tryd.ntmps11
      go_wp2_with fail
      refine (rMap_any _ _ _).mono ?_; rintro e w1 ⟨rfl, hB1⟩
      go_wp2_with fail
      refine (rone_any _ _ _ _).mono ?_; rintro e w2 ⟨rfl, hB2⟩
      go_wp2
      go_ret
      have hB12 := (hB1).trans (hB2.mono (hB1).size)
      exact ⟨by rw [HE.out]; rfl, hB12⟩
    · have hE2 : (rOne s 0 63).isEmpty = false := by simpa using h2
      have HE : Hid (rSeat n m s = rMap n m ++ rOne s 0 63) := if_neg (by simp [h, h2])
      clear h h2
      go_enter Tryd.func11, Tryd.ntmps11
      go_wp2_with fail
      refine (rMap_any _ _ _).mono ?_; rintro e w1 ⟨rfl, hB1⟩
      go_wp2_with fail
      refine (rone_any _ _ _ _).mono ?_; rintro e w2 ⟨rfl, hB2⟩
      go_wp2
      go_ret
      have hB12 := (hB1).trans (hB2.mono (hB1).size)
      exact ⟨ret_app HE.out, hB12⟩

set_option maxRecDepth 100000 in
set_option maxHeartbeats 2000000 in
theorem rPerson_any (n : Int) (s : ByteArray) (id : Int) (w : World) (h0 : 0 ≤ id) (h1 : id < 4294967296) (hs : s.size ≤ 140737488351232) : Calls Tryd.prog 13 #[.int .i64 n, .string s, .int .u32 id] w fun e w' => e = .returned (.string ⟨(rPerson n s.data.toList id).toArray⟩) ∧ Below w.heap.size w w' := by
  have hl1 : (rPersons n s.data.toList).length ≤ 300 := by
    have h1 : (rEvent n).length ≤ 1 := by unfold rEvent rOne; split <;> simp
    have h2 : (textB s.data.toList).length ≤ 256 := textB_len _
    unfold rPersons; split <;> simp; omega
  have hl2 : (beB 4 id.toNat).length ≤ 4 := by rw [beB_len]; omega
  by_cases h : rPersons n s.data.toList = []
  · have HE : Hid (rPerson n s.data.toList id = []) := if_pos h
    go_enter Tryd.func13, Tryd.ntmps13
    go_wp2_with fail
    refine (rPersons_any _ _ _ hs).mono ?_; rintro e w1 ⟨rfl, hB1⟩
    go_wp2
    go_ret
    exact ⟨by rw [HE.out]; rfl, hB1⟩
  · have hE : (rPersons n s.data.toList).isEmpty = false := by simpa using h
    have HE : Hid (rPerson n s.data.toList id = rPersons n s.data.toList ++ beB 4 id.toNat) := if_neg h
    clear h
    go_enter Tryd.func13, Tryd.ntmps13
    go_wp2_with fail
    refine (rPersons_any _ _ _ hs).mono ?_; rintro e w1 ⟨rfl, hB1⟩
    go_wp2_with fail
    refine (four_any _ _ h0 h1).mono ?_; rintro e w2 ⟨rfl, hB2⟩
    go_wp2
    go_ret
    have hB12 := (hB1).trans (hB2.mono (hB1).size)
    exact ⟨ret_app HE.out, hB12⟩

set_option maxHeartbeats 1000000 in
theorem rNumber_any (id : Int) (w : World) (h0 : 0 ≤ id) (h1 : id < 4294967296) : Calls Tryd.prog 15 #[.int .u32 id] w fun e w' => e = .returned (.string ⟨(beB 4 id.toNat).toArray⟩) ∧ Below w.heap.size w w' := by
  go_enter Tryd.func15, Tryd.ntmps15
  go_wp2_with (go_at_call 34; refine (four_any _ _ h0 h1).mono ?_; rintro e w' ⟨rfl, hB⟩)
  go_ret
  exact ⟨rfl, hB⟩
end Go.Proofs.YtdnnbnohemkfkaaDoor
