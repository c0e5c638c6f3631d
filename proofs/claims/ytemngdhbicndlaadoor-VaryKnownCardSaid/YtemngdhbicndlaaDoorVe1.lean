/- VaryKnown: the closed tables, plain. -/
import Derived.Test.YtemngdhbicndlaaDoorVc8
namespace Go.Proofs.YtemngdhbicndlaaDoor
open Go.RowKit
set_option linter.unusedVariables false
set_option linter.unusedSimpArgs false

def manyF (i : Nat) : Fd := ⟨(i : Int) + 1, false, i + 1, ⟨#[]⟩⟩
def manyL : List Fd := (List.range 33).map manyF
def tabP (long cut : ByteArray) : List (List Fd × Int) :=
  [([], 0), (manyL.take 32, 0), (manyL, 4), ([⟨0, false, 0, ⟨#[]⟩⟩], 2), ([⟨64, false, 0, ⟨#[]⟩⟩], 2), ([⟨-1, false, 0, ⟨#[]⟩⟩], 2), ([⟨1, false, 0, ⟨#[97]⟩⟩], 2), ([⟨1, true, 1, ⟨#[]⟩⟩], 2),
   ([⟨2, false, 1, ⟨#[]⟩⟩, ⟨2, false, 1, ⟨#[]⟩⟩], 7), ([⟨1, true, 0, long⟩], 4), ([⟨1, true, 0, cut⟩], 0), ([⟨1, false, 18446744073709551615, ⟨#[]⟩⟩], 0)]
theorem many32 : putC (manyL.take 32) = 0 := by decide
theorem many33 : putC manyL = 4 := by decide
theorem many_n : ∀ f ∈ manyL, f.n < 18446744073709551616 := by decide
theorem many_n32 : ∀ f ∈ manyL.take 32, f.n < 18446744073709551616 := by decide
theorem tabP_ok (long cut : ByteArray) (h1 : long.size = 2001) (h2 : cut.size = 2000) : ∀ p ∈ tabP long cut, putC p.1 = p.2 ∧ p.1.length ≤ 33 ∧ ∀ f ∈ p.1, f.n < 18446744073709551616 := by
  intro p hp
  unfold tabP at hp
  simp only [List.mem_cons, List.not_mem_nil, or_false] at hp
  rcases hp with rfl | rfl | rfl | rfl | rfl | rfl | rfl | rfl | rfl | rfl | rfl | rfl
  · exact ⟨by decide, by decide, by decide⟩
  · exact ⟨many32, by decide, many_n32⟩
  · exact ⟨many33, by decide, many_n⟩
  · exact ⟨by decide, by decide, by decide⟩
  · exact ⟨by decide, by decide, by decide⟩
  · exact ⟨by decide, by decide, by decide⟩
  · exact ⟨by decide, by decide, by decide⟩
  · exact ⟨by decide, by decide, by decide⟩
  · exact ⟨by decide, by decide, by decide⟩
  · refine ⟨by simp [putC, codeL, mayF, h1], by simp, by simp⟩
  · refine ⟨by simp [putC, codeL, mayF, h2], by simp, by simp⟩
  · exact ⟨by decide, by decide, by decide⟩
def tabR : List (ByteArray × Int × Int) :=
  [(⟨#[]⟩, 0, 0), (⟨#[0]⟩, 2, 0), (⟨#[1, 0]⟩, 2, 0), (⟨#[128, 0]⟩, 2, 0), (⟨#[2]⟩, 3, 0), (⟨#[2, 9]⟩, 5, 0), (⟨#[2, 2, 1]⟩, 3, 0), (⟨#[2, 0, 2, 0]⟩, 7, 2), (⟨#[2, 0, 3, 0]⟩, 7, 2), (⟨#[3, 1, 5, 97]⟩, 3, 0), (⟨#[3, 2, 7, 209]⟩, 4, 0),
   (⟨#[3, 8, 255, 255, 255, 255, 255, 255, 255, 255]⟩, 4, 0), (⟨#[2, 8, 255, 255, 255, 255, 255, 255, 255, 255]⟩, 0, 0), (⟨#[2, 8, 0, 255, 255, 255, 255, 255, 255, 255]⟩, 5, 0), (⟨#[2, 0, 4, 1]⟩, 3, 2), (⟨#[5, 0, 127, 0]⟩, 0, 0)]
theorem tabR_ok : ∀ p ∈ tabR, readC p.1.data.toList = p.2.1 ∧ readT p.1.data.toList = p.2.2 ∧ (p.2.1 ≠ 0 → readF p.1.data.toList = []) ∧ p.1.size ≤ 10 := by decide
theorem numL_one (i : Nat) (h0 : 0 < i) (h1 : i < 256) : numL i = [1, UInt8.ofNat i] := by
  have e : nb i = 1 := by
    rw [nb_pos (by omega), show i / 256 = 0 by omega, nb_zero]
  unfold numL
  rw [e]
  simp [beB, Nat.mod_eq_of_lt h1]
def s96 : List UInt8 := (List.range 32).flatMap fun i => [UInt8.ofNat (2 * (i + 1)), 1, UInt8.ofNat (i + 1)]
theorem many_flat : putL (manyL.take 32) = s96 := by
  have h : manyL.take 32 = (List.range 32).map manyF := by unfold manyL; rw [← List.map_take]; congr 1
  have h2 : ∀ i, i < 32 → fieldL (manyF i) = [UInt8.ofNat (2 * (i + 1)), 1, UInt8.ofNat (i + 1)] := fun i hi => by
    unfold fieldL manyF
    rw [if_neg (by simp), numL_one (i + 1) (by omega) (by omega), show (2 * ((i : Int) + 1)).toNat = 2 * (i + 1) by omega]
  unfold putL
  rw [if_pos many32, h, List.map_map, s96, List.flatMap_def]
  congr 1
  apply List.map_congr_left
  intro i hi
  exact h2 i (by simpa using hi)
theorem more_is : readC (s96 ++ [66, 0]) = 4 ∧ readT (s96 ++ [66, 0]) = 96 := by decide
end Go.Proofs.YtemngdhbicndlaaDoor
