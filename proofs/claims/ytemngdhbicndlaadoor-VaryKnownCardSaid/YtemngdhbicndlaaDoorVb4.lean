/- A field in memory; may it be? -/
import Derived.Test.YtemngdhbicndlaaDoorVb2
import Derived.Test.YtemngdhbicndlaaDoorVb3
import Derived.Test.YtemngdhbicndlaaDoorAp
namespace Go.Proofs.YtemngdhbicndlaaDoor
open Go.RowKit
set_option linter.unusedVariables false
set_option linter.unusedSimpArgs false

/-- A field as a value, and its cells. -/
def fdC (f : Fd) : List Value := [.int .i64 f.tag, .bool f.isT, .int .u64 (f.n : Nat), .string f.s]
def Fd.val (f : Fd) : Value := .agg #[.int .i64 f.tag, .bool f.isT, .int .u64 (f.n : Nat), .string f.s]
theorem fd_agg (a : Int) (b : Bool) (c : Int) (d : ByteArray) (a' : Int) (b' : Bool) (c' : Int) (d' : ByteArray) (W : World) : (Op.equalIn 10000 50 (.agg #[.int .i64 a, .bool b, .int .u64 c, .string d]) (.agg #[.int .i64 a', .bool b', .int .u64 c', .string d'])).run Tryd.prog W = .ok (a == a' && b == b' && c == c' && d.toList == d'.toList) W := by
  rw [show (10000 : Nat) = 9999 + 1 from rfl, run_equalIn_struct (P := Tryd.prog) W 9999 50 _ _ (by kernel_rfl) (by kernel_rfl)]
  simp [Op.eqFields, Program.fieldsOf, Tryd.underlying50, go_sem]
  by_cases h1 : a = a'
  · by_cases h2 : b = b'
    · by_cases h3 : c = c'
      · by_cases h4 : d.toList = d'.toList <;> simp [h1, h2, h3, h4]
      · simp [h1, h2, h3]
    · simp [h1, h2]
  · simp [h1]
theorem fd_eql (a : Int) (b : Bool) (c : Int) (d : ByteArray) (a' : Int) (b' : Bool) (c' : Int) (d' : ByteArray) (W : World) : (binOp .eql 50 (.agg #[.int .i64 a, .bool b, .int .u64 c, .string d]) (.agg #[.int .i64 a', .bool b', .int .u64 c', .string d'])).run Tryd.prog W = .ok (.bool (a == a' && b == b' && c == c' && d.toList == d'.toList)) W := by
  rw [run_eql_struct, fd_agg]; rfl
theorem fd_neq (a : Int) (b : Bool) (c : Int) (d : ByteArray) (a' : Int) (b' : Bool) (c' : Int) (d' : ByteArray) (W : World) : (binOp .neq 50 (.agg #[.int .i64 a, .bool b, .int .u64 c, .string d]) (.agg #[.int .i64 a', .bool b', .int .u64 c', .string d'])).run Tryd.prog W = .ok (.bool (!(a == a' && b == b' && c == c' && d.toList == d'.toList))) W := by
  rw [run_neq_struct, fd_agg]; rfl
theorem list_empty (s : ByteArray) : (s.toList == (⟨#[]⟩ : ByteArray).toList) = (s.size == 0) := by
  rw [ByteArray.toList_eq, ByteArray.toList_eq]
  have h := size_list s
  cases hs : s.data.toList with
  | nil => rw [hs] at h; rw [← h]; rfl
  | cons a l => rw [hs] at h; rw [← h]; rfl
theorem list_isEmpty (s : ByteArray) : s.toList.isEmpty = (s.size == 0) := by
  rw [ByteArray.toList_eq]
  have h := size_list s
  cases hs : s.data.toList with
  | nil => rw [hs] at h; rw [← h]; rfl
  | cons a l => rw [hs] at h; rw [← h]; rfl
theorem may_t (tag : Int) (n : Nat) (s : ByteArray) : mayF ⟨tag, true, n, s⟩ = (decide (1 ≤ tag) && decide (tag ≤ 63) && ((n : Int) == 0)) := by
  unfold mayF
  by_cases h : n = 0
  · subst h; simp
  · have : ((n : Int) == 0) = false := by simp [h]
    simp [this, h]
theorem may_n (tag : Int) (n : Nat) (s : ByteArray) : mayF ⟨tag, false, n, s⟩ = (decide (1 ≤ tag) && decide (tag ≤ 63) && s.toList.isEmpty) := by
  unfold mayF
  rw [list_isEmpty]
  simp
set_option maxRecDepth 100000 in
set_option maxHeartbeats 4000000 in
theorem may_any (f : Fd) (w : World) : Calls Tryd.prog 29 #[f.val] w fun e w' => e = .returned (.bool (mayF f)) ∧ Below w.heap.size w w' := by
  obtain ⟨tag, isT, n, s⟩ := f
  have q := fun a b c d a' b' c' d' W => fd_eql a b c d a' b' c' d' W
  unfold Fd.val
  cases isT with
  | true =>
    rw [may_t tag n s]
    go_enter Tryd.func29, Tryd.ntmps29
    go_wp2_with fail
    all_goals
      go_ret
      exact ⟨by first | rfl | (simp_all; done) | (simp_all; omega), by go_grown⟩
  | false =>
    rw [may_n tag n s]
    go_enter Tryd.func29, Tryd.ntmps29
    go_wp2_with fail
    all_goals
      go_ret
      exact ⟨by first | rfl | (simp_all; done) | (simp_all; omega), by go_grown⟩
set_option maxRecDepth 100000 in
set_option maxHeartbeats 4000000 in
theorem rmay_any (f : Fd) (w : World) : Calls Tryd.prog 22 #[f.val] w fun e w' => e = .returned (.bool (mayF f)) ∧ Below w.heap.size w w' := by
  obtain ⟨tag, isT, n, s⟩ := f
  unfold Fd.val
  cases isT with
  | true =>
    rw [may_t tag n s]
    go_enter Tryd.func22, Tryd.ntmps22
    go_wp2_with fail
    all_goals
      go_ret
      exact ⟨by first | rfl | (simp_all; done) | (simp_all; omega), by go_grown⟩
  | false =>
    rw [may_n tag n s]
    go_enter Tryd.func22, Tryd.ntmps22
    go_wp2_with fail
    all_goals
      go_ret
      exact ⟨by first | rfl | (simp_all; done) | (simp_all; omega), by go_grown⟩
end Go.Proofs.YtemngdhbicndlaaDoor
