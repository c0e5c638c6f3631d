/- HallKnown: its texts, told. -/
import Derived.Test.YtpbfabcihoiiiaaDoorHp
import Derived.Test.YtpbfabcihoiiiaaDoorHl3
namespace Go.Proofs.YtpbfabcihoiiiaaDoor
open Go.RowKit
set_option linter.unusedVariables false
set_option linter.unusedSimpArgs false

abbrev KnX := ByteArray × Int × Nat
def knL : List KnX := [(⟨#[]⟩, 5, 0), (⟨#[48]⟩, 5, 1), (⟨#[51, 35, 35, 35, 35, 35, 35, 35, 35]⟩, 5, 0), (⟨#[48, 35, 35, 35, 35, 35, 35, 35]⟩, 5, 8), (⟨#[48, 35, 35, 35, 35, 46, 46, 46, 46]⟩, 0, 0), (⟨#[48, 35, 35, 35, 35, 46, 46, 46, 46, 47]⟩, 5, 10), (⟨#[48, 35, 35, 35, 35, 46, 46, 46, 46, 120]⟩, 5, 9), (⟨#[48, 35, 35, 35, 35, 46, 46, 46, 46, 120, 49, 35, 46, 46, 46, 46, 46, 46, 46]⟩, 5, 9), (⟨#[48, 46, 46, 46, 46, 46, 46, 46, 46]⟩, 23, 0), (⟨#[48, 46, 46, 46, 46, 46, 46, 46, 46, 120]⟩, 5, 9), (⟨#[48, 35, 46, 46, 46, 46, 46, 46, 46, 47, 49, 46, 46, 46, 46, 46, 46, 46, 46]⟩, 23, 10), (⟨#[48, 35, 46, 46, 46, 46, 46, 46, 46, 47, 49, 46, 46, 46, 46, 46, 46, 46, 120]⟩, 5, 18), (⟨#[48, 35, 46, 46, 46, 46, 46, 46, 46, 47, 49, 46, 46, 46, 46, 46, 46]⟩, 5, 17), (⟨#[97]⟩, 5, 0)]
def knC (x : KnX) : List Value := [.string x.1, .int .i64 x.2.1, .int .i64 (x.2.2 : Nat)]
def KnOk (x : KnX) : Prop := x.1.size ≤ 100 ∧ ((x.2.1 ≠ 0 ∧ readT 8 0 x.1.data.toList = .inr (x.2.1, x.2.2)) ∨ (x.2.1 = 0 ∧ x.2.2 = 0 ∧ ∃ r, readT 8 0 x.1.data.toList = .inl r))
set_option maxRecDepth 10000 in
theorem kn_ok : ∀ x ∈ knL, KnOk x := by
  intro x hx
  simp only [knL, List.mem_cons, List.not_mem_nil, or_false] at hx
  rcases hx with rfl | rfl | rfl | rfl | rfl | rfl | rfl | rfl | rfl | rfl | rfl | rfl | rfl | rfl
  all_goals first
    | exact ⟨by decide, .inl ⟨by decide, by decide⟩⟩
    | exact ⟨by decide, .inr ⟨rfl, rfl, [(0, 15)], by decide⟩⟩
def e8S : Nat → ByteArray
  | 0 => ⟨#[48, 35, 46, 46, 46, 46, 46, 46, 46]⟩
  | k + 1 => e8S k ++ ⟨#[47, 49, 46, 46, 46, 46, 46, 46, 46, 35]⟩
theorem e8_size (k : Nat) : (e8S k).size = 9 + 10 * k := by
  induction k with
  | zero => rfl
  | succ k ih => rw [e8S, ByteArray.size_append, ih]; show 9 + 10 * k + 10 = _; omega
def e8R : List HRow := [(0, 1), (1, 128), (1, 128), (1, 128), (1, 128), (1, 128), (1, 128), (1, 128)]
set_option maxRecDepth 10000 in
theorem e8_read : readT 8 0 (e8S 7).data.toList = .inl e8R := by decide +kernel
set_option maxRecDepth 10000 in
theorem e9_read : readT 8 0 (e8S 7 ++ ⟨#[47, 120]⟩ : ByteArray).data.toList = .inr (2, 80) := by decide +kernel
theorem e8_sts : (sts e8R).length = 8 := by decide
/-- The five that may not be. -/
def noL : List (List HRow) := [[], List.replicate 9 (0, 0), [(3, 1)], [(-1, 1)], [(0, 0)]]
theorem no_ok : ∀ l ∈ noL, okH l = false ∧ l.length ≤ 9 := by decide
theorem fu_run : (rnF 0 (fun _ => false) (sts [(0, 255), (0, 255), (0, 90)])).1 = [(0, 8), (8, 8), (17, 1), (19, 2), (22, 1)] := by decide +kernel
theorem nn_run : (rnF 2 (fun _ => false) (sts [(-1, 1)])).1 = [] := by decide +kernel
theorem sm_no1 : hasS smR (-1) = false := by decide
theorem sm_no2 : hasS smR 64 = false := by decide
theorem cl_no : clsS [] 0 = -1 := by decide
end Go.Proofs.YtpbfabcihoiiiaaDoor
