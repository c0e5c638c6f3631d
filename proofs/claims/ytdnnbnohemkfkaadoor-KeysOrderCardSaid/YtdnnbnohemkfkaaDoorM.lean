/- KeysLaid: the walk. -/
import Derived.Test.YtdnnbnohemkfkaaDoorJ
import Derived.Test.YtdnnbnohemkfkaaDoorL
namespace Go.Proofs.YtdnnbnohemkfkaaDoor
open Go.RowKit
set_option linter.unusedVariables false

theorem beB_one (n : Int) : beB 1 (n % 256).toNat = [UInt8.ofNat (n % 256).toNat] := by
  have : (n % 256).toNat < 256 := by omega
  simp [beB, Nat.mod_eq_of_lt this]

theorem rOne_in (n lo hi : Int) : rOne n lo hi = if inB lo hi n = true then beB 1 (n % 256).toNat else [] := by
  unfold rOne inB
  rw [beB_one]
  by_cases h : lo ≤ n ∧ n ≤ hi
  · rw [if_neg (by omega), if_pos (by simpa using h)]
  · rw [if_pos (by omega), if_neg (by simpa using h)]

theorem beB_ne (k n : Nat) : beB (k + 1) n ≠ [] := by simp [beB]

theorem keyB_two (a : List UInt8) (p : Bool) (b : List UInt8) (q : Bool) : keyB [(a, p), (b, q)] = if p = true ∧ q = true then a ++ b else [] := by
  cases p <;> cases q <;> simp [keyB]
theorem keyB_three (a : List UInt8) (p : Bool) (b : List UInt8) (q : Bool) (c : List UInt8) (r : Bool) : keyB [(a, p), (b, q), (c, r)] = if p = true ∧ q = true ∧ r = true then a ++ (b ++ c) else [] := by
  cases p <;> cases q <;> cases r <;> simp [keyB]

theorem rEvent_eq (e : Int) : rEvent e = kEvent e := by
  unfold rEvent kEvent keyB
  rw [rOne_in]
  cases inB 0 3 e <;> simp
theorem rId_eq (e id : Int) : rId e id = kId e id := by
  unfold rId kId rEvent
  rw [rOne_in, keyB_two]
  cases inB 0 3 e <;> simp [beB_ne]
theorem rMap_eq (e m : Int) : rMap e m = kMap e m := by
  unfold rMap kMap rEvent
  rw [rOne_in, rOne_in, keyB_two]
  cases inB 0 3 e <;> cases inB 1 2 m <;> simp [beB_ne]
theorem rSeat_eq (e m s : Int) : rSeat e m s = kSeat e m s := by
  unfold rSeat rMap kSeat rEvent
  rw [rOne_in, rOne_in, rOne_in, keyB_three]
  cases inB 0 3 e <;> cases inB 1 2 m <;> cases inB 0 63 s <;> simp [beB_ne]
theorem rPersons_eq (e : Int) (s : List UInt8) : rPersons e s = kPersons e s := by
  unfold rPersons kPersons rEvent
  rw [rOne_in, keyB_two]
  cases inB 0 3 e <;> cases personB s <;> simp [beB_ne]
theorem rPerson_eq (e : Int) (s : List UInt8) (id : Int) : rPerson e s id = kPerson e s id := by
  unfold rPerson rPersons kPerson rEvent
  rw [rOne_in, keyB_three]
  cases inB 0 3 e <;> cases personB s <;> simp [beB_ne]
theorem rNumber_eq (id : Int) : beB 4 id.toNat = kNumber id := by
  unfold kNumber keyB
  simp

set_option maxRecDepth 100000 in
set_option maxHeartbeats 8000000 in
theorem laid_any (a b c : Int) (s : ByteArray) (id : Int) (w : World) (hG : GP w) (hs : s.size ≤ 140737488351232) (h0 : 0 ≤ id) (h1 : id < 4294967296) :
    Calls Tryd.prog 3 #[.agg #[.int .i64 a, .int .i64 b, .int .i64 c], .string s, .int .u32 id] w fun e w' => e = .returned (.bool true) ∧ Below w.heap.size w w' := by
  have HB := Below.refl w.heap.size w
  have e1 := rId_eq a id
  have e2 := rSeat_eq a b c
  have e3 := rPerson_eq a s.data.toList id
  have e4 := rNumber_eq id
  have e5 := rEvent_eq a
  have e6 := rMap_eq a b
  have e7 := rPersons_eq a s.data.toList
  go_enter Tryd.func3, Tryd.ntmps3
  go_wp2_with fail
  go_quiet (fail)
  replace HB : Below w.heap.size w ((w.alloc (.cells #[.int .i64 a, .int .i64 b, .int .i64 c] 22)).drewN nq) := below_drewN (HB.alloc (Nat.le_refl _) _) nq
  generalize ((w.alloc (.cells #[.int .i64 a, .int .i64 b, .int .i64 c] 22)).drewN nq) = w1 at HB ⊢
  go_wp2_with (first | (go_at_call 8; refine (Id_any _ _ _ h0 h1).mono ?_; rintro e w' ⟨rfl, hB⟩; replace HB := bstep HB hB; clear hB) | (go_at_call 9; refine (rId_any _ _ _ h0 h1).mono ?_; rintro e w' ⟨rfl, hB⟩; replace HB := bstep HB hB; clear hB) | (go_at_call 10; refine (Seat_any _ _ _ _).mono ?_; rintro e w' ⟨rfl, hB⟩; replace HB := bstep HB hB; clear hB) | (go_at_call 11; refine (rSeat_any _ _ _ _).mono ?_; rintro e w' ⟨rfl, hB⟩; replace HB := bstep HB hB; clear hB) | (go_at_call 12; refine (Person_any _ _ _ _ h0 h1 (hG.below HB) hs).mono ?_; rintro e w' ⟨rfl, hB⟩; replace HB := bstep HB hB; clear hB) | (go_at_call 13; refine (rPerson_any _ _ _ _ h0 h1 hs).mono ?_; rintro e w' ⟨rfl, hB⟩; replace HB := bstep HB hB; clear hB) | (go_at_call 14; refine (Number_any _ _ h0 h1).mono ?_; rintro e w' ⟨rfl, hB⟩; replace HB := bstep HB hB; clear hB) | (go_at_call 15; refine (rNumber_any _ _ h0 h1).mono ?_; rintro e w' ⟨rfl, hB⟩; replace HB := bstep HB hB; clear hB) | (go_at_call 16; refine (Event_any _ _).mono ?_; rintro e w' ⟨rfl, hB⟩; replace HB := bstep HB hB; clear hB) | (go_at_call 17; refine (rEvent_any _ _).mono ?_; rintro e w' ⟨rfl, hB⟩; replace HB := bstep HB hB; clear hB) | (go_at_call 18; refine (Map_any _ _ _).mono ?_; rintro e w' ⟨rfl, hB⟩; replace HB := bstep HB hB; clear hB) | (go_at_call 19; refine (rMap_any _ _ _).mono ?_; rintro e w' ⟨rfl, hB⟩; replace HB := bstep HB hB; clear hB) | (go_at_call 20; refine (Persons_any _ _ _ (hG.below HB) hs).mono ?_; rintro e w' ⟨rfl, hB⟩; replace HB := bstep HB hB; clear hB) | (go_at_call 21; refine (rPersons_any _ _ _ hs).mono ?_; rintro e w' ⟨rfl, hB⟩; replace HB := bstep HB hB; clear hB) | (go_at_call 22; refine (works_any _ (hG.below HB)).mono ?_; rintro e w' ⟨rfl, hB⟩; replace HB := bstep HB hB; clear hB))
  go_ret
  exact ⟨rfl, HB⟩
end Go.Proofs.YtdnnbnohemkfkaaDoor
