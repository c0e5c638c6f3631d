/- KeysKnown: the walk. -/
import Derived.Test.YtdnnbnohemkfkaaDoorQ8
import Derived.Test.YtdnnbnohemkfkaaDoorL
namespace Go.Proofs.YtdnnbnohemkfkaaDoor
open Go.RowKit
set_option linter.unusedVariables false

def longB : List UInt8 := [97, 98, 99, 100, 101, 102, 103, 104, 105, 106, 107, 108, 109, 110, 111, 112, 113, 114, 115, 116, 117, 118, 119, 120]
theorem kPerson_len (e : Int) (s : List UInt8) (id : Int) : (kPerson e s id).length ≤ 140737488351232 := by
  rcases kPerson_cases e s id with h | ⟨_, _, h⟩
  · rw [h]; simp
  · rw [h]
    have := textB_len s
    simp [beB_len]
    omega
theorem mk_size' (l : List UInt8) : (ByteArray.mk l.toArray).size = l.length := by show l.toArray.size = _; simp

set_option maxRecDepth 100000 in
set_option maxHeartbeats 8000000 in
theorem known_any (w : World) (hG : GP w) : Calls Tryd.prog 7 #[] w fun e w' => e = .returned (.bool true) ∧ Below w.heap.size w w' := by
  have HB := Below.refl w.heap.size w
  have p1 : ∀ a b c, pn (some (a, b, c)) = b := fun _ _ _ => rfl
  have p2 : ∀ a b c, pi (some (a, b, c)) = c := fun _ _ _ => rfl
  have g0 : kId (4) 1 = [] := by decide
  have g1 : kId (-1) 1 = [] := by decide
  have g2 : kSeat 0 0 (1) = [] := by decide
  have g3 : kSeat 0 3 (1) = [] := by decide
  have g4 : kSeat 0 1 (64) = [] := by decide
  have g5 : kSeat 0 1 (-1) = [] := by decide
  have g6 : kSeat 4 1 (1) = [] := by decide
  have g7 : kPerson 0 [] 1 = [] := by decide
  have g8 : kPerson 0 [97, 98, 99, 100, 101, 102, 103, 104, 105, 106, 107, 108, 109, 110, 111, 112, 113, 114, 115, 116, 117, 118, 119, 120, 121] 1 = [] := by decide
  have g9 : kPerson 0 [97, 32, 98] 1 = [] := by decide
  have g10 : kPerson 4 [97] 1 = [] := by decide
  have g11 : kEvent 4 = [] := by decide
  have g12 : kEvent (-1) = [] := by decide
  have g13 : kMap 0 0 = [] := by decide
  have g14 : kMap 0 3 = [] := by decide
  have g15 : kPersons 0 [] = [] := by decide
  have g16 : rdId ⟨#[4, 0, 0, 0, 1]⟩ = none := by unfold rdId; rw [tl]; decide
  have g17 : rdId ⟨#[0, 0, 0, 0]⟩ = none := by unfold rdId; rw [tl]; decide
  have g18 : rdId ⟨#[0, 0, 0, 0, 0, 0]⟩ = none := by unfold rdId; rw [tl]; decide
  have g19 : rdSeat ⟨#[0, 0, 0]⟩ = none := by unfold rdSeat; rw [tl]; decide
  have g20 : rdSeat ⟨#[0, 1, 64]⟩ = none := by unfold rdSeat; rw [tl]; decide
  have g21 : rdSeat ⟨#[0, 1]⟩ = none := by unfold rdSeat; rw [tl]; decide
  have g22 : rdPer ⟨#[0, 0, 0, 0, 0, 1]⟩ = none := by unfold rdPer; rw [tl]; decide
  have g23 : rdPer ⟨#[0, 2, 97, 0, 0, 0, 1]⟩ = none := by unfold rdPer; rw [tl]; decide
  have g24 : rdPer ⟨(kPerson 3 [97, 98, 99, 100, 101, 102, 103, 104, 105, 106, 107, 108, 109, 110, 111, 112, 113, 114, 115, 116, 117, 118, 119, 120] 4294967295).toArray⟩ = some (3, ⟨#[97, 98, 99, 100, 101, 102, 103, 104, 105, 106, 107, 108, 109, 110, 111, 112, 113, 114, 115, 116, 117, 118, 119, 120]⟩, 4294967295) := by unfold rdPer; rw [tl]; decide +kernel
  have g25 : rdNumber ⟨#[0, 0, 0]⟩ = none := by decide
  have g26 : rdNumber ⟨#[0, 0, 0, 0, 0]⟩ = none := by decide
  have g27 : kEnd [97] = [98] := by decide
  have g28 : kEnd [128] = [129] := by decide
  have g29 : kEnd [97, 255, 255] = [98] := by decide
  have g30 : kEnd [0] = [1] := by decide
  go_enter Tryd.func7, Tryd.ntmps7
  go_wp2_with (first | (go_at_call 8; refine (Id_any _ _ _ (by decide) (by decide)).mono ?_; rintro e w1 ⟨rfl, hB⟩; replace HB := HB.trans (hB.mono HB.size); clear hB) | (go_at_call 10; refine (Seat_any _ _ _ _).mono ?_; rintro e w1 ⟨rfl, hB⟩; replace HB := HB.trans (hB.mono HB.size); clear hB) | (go_at_call 12; refine (Person_any _ _ _ _ (by omega) (by omega) (hG.below HB) (by decide)).mono ?_; rintro e w1 ⟨rfl, hB⟩; replace HB := HB.trans (hB.mono HB.size); clear hB) | (go_at_call 16; refine (Event_any _ _).mono ?_; rintro e w1 ⟨rfl, hB⟩; replace HB := HB.trans (hB.mono HB.size); clear hB) | (go_at_call 18; refine (Map_any _ _ _).mono ?_; rintro e w1 ⟨rfl, hB⟩; replace HB := HB.trans (hB.mono HB.size); clear hB) | (go_at_call 20; refine (Persons_any _ _ _ (hG.below HB) (by decide)).mono ?_; rintro e w1 ⟨rfl, hB⟩; replace HB := HB.trans (hB.mono HB.size); clear hB))
  replace HB := HB.alloc HB.size (.cells #[.string ⟨#[]⟩, .string ⟨#[]⟩, .string ⟨#[]⟩, .string ⟨#[]⟩, .string ⟨#[]⟩, .string ⟨#[]⟩, .string ⟨#[]⟩, .string ⟨#[]⟩, .string ⟨#[]⟩, .string ⟨#[]⟩, .string ⟨#[]⟩, .string ⟨#[]⟩, .string ⟨#[]⟩, .string ⟨#[]⟩, .string ⟨#[]⟩, .string ⟨#[]⟩] 9)
  refine wp_loop_rounds 17 ?_
  repeat (rw [rounds_succ]; go_wp2_with (first | (go_at_call 26; refine (ReadId_any _ _).mono ?_; rintro e w1 ⟨rfl, hB⟩; replace HB := HB.trans (hB.mono HB.size); clear hB) | (go_at_call 27; refine (ReadSeat_any _ _ (by decide)).mono ?_; rintro e w1 ⟨he, hB⟩; rw [stV_eq] at he; subst he; replace HB := HB.trans (hB.mono HB.size); clear hB) | (go_at_call 30; refine (ReadPerson_any _ _ (hG.below HB) (by first | decide | (rw [mk_size']; have := kPerson_len 3 longB 4294967295; exact this))).mono ?_; rintro e w1 ⟨he, hB⟩; rw [perV_eq] at he; unfold perV at he; subst he; replace HB := HB.trans (hB.mono HB.size); clear hB) | (go_at_call 28; refine (ReadNumber_any _ _).mono ?_; rintro e w1 ⟨rfl, hB⟩; replace HB := HB.trans (hB.mono HB.size); clear hB) | (go_at_call 23; refine (end_any _ _ (by decide)).mono ?_; rintro e w1 ⟨rfl, hB⟩; replace HB := HB.trans (hB.mono HB.size); clear hB) | (go_at_call 12; refine (Person_any _ _ _ _ (by omega) (by omega) (hG.below HB) (by decide)).mono ?_; rintro e w1 ⟨rfl, hB⟩; replace HB := HB.trans (hB.mono HB.size); clear hB) | (go_at_call 22; refine (works_any _ (hG.below HB)).mono ?_; rintro e w1 ⟨rfl, hB⟩; replace HB := HB.trans (hB.mono HB.size))))
  go_returns
  exact ⟨rfl, HB⟩
end Go.Proofs.YtdnnbnohemkfkaaDoor
