/- HallRuns, plain: what a round over the runs finds. -/
import Derived.Test.YtpbfabcihoiiiaaHs3
namespace Go.Proofs.Ytpbfabcihoiiiaa
set_option linter.unusedVariables false
set_option linter.unusedSimpArgs false

/-- Is the seat in one of the runs? -/
def covB (l : List (Int × Int)) (j : Nat) : Bool := l.any (fun x => decide (x.1 ≤ (j : Int)) && decide ((j : Int) < x.1 + x.2))
/-- The last seat of the runs. -/
def lastR (l : List (Int × Int)) : Int := match l.getLast? with | some x => x.1 + x.2 - 1 | none => -1
theorem lastR_nil : lastR [] = -1 := rfl
theorem lastR_snoc (l : List (Int × Int)) (x : Int × Int) : lastR (l ++ [x]) = x.1 + x.2 - 1 := by unfold lastR; simp
theorem covB_iff (l : List (Int × Int)) (j : Nat) : covB l j = true ↔ ∃ x ∈ l, x.1 ≤ (j : Int) ∧ (j : Int) < x.1 + x.2 := by
  unfold covB
  rw [List.any_eq_true]
  simp only [Bool.and_eq_true, decide_eq_true_eq]
theorem take_snoc {l : List (Int × Int)} {k : Nat} {x : Int × Int} (h : l[k]? = some x) : l.take (k + 1) = l.take k ++ [x] := by
  rw [List.take_add_one, h]
  rfl
theorem RnL.rise {F : Nat → Bool} {n : Nat} {st : RnS} (h : RnL F n st) {k : Nat} {x : Int × Int} (hx : st.1[k]? = some x) : lastR (st.1.take k) < x.1 := by
  have hm := List.mem_of_getElem? hx
  have h1 := h.each x hm
  rcases List.eq_nil_or_concat (st.1.take k) with e | ⟨q, y, e⟩
  · rw [e, lastR_nil]
    omega
  · rw [List.concat_eq_append] at e
    rw [e, lastR_snoc]
    have ht := take_snoc hx
    have hp : (st.1.take (k + 1)).Pairwise (fun a b => a.1 + a.2 ≤ b.1) := h.ord.sublist (List.take_sublist _ _)
    rw [ht, e, List.pairwise_append] at hp
    have := hp.2.2 y (by simp) x (by simp)
    omega
theorem cov_all {F : Nat → Bool} {st : RnS} (h : RnL F 64 st) {j : Nat} (hj : j < 64) : covB st.1 j = F j := by
  cases e : F j with
  | true => exact (covB_iff _ _).2 ((h.cov j hj).1 e)
  | false =>
    cases e2 : covB st.1 j with
    | false => rfl
    | true =>
      have := (h.cov j hj).2 ((covB_iff _ _).1 e2)
      rw [e] at this
      cases this
theorem cov_snoc (l : List (Int × Int)) (x : Int × Int) (j : Nat) : covB (l ++ [x]) j = (covB l j || (decide (x.1 ≤ (j : Int)) && decide ((j : Int) < x.1 + x.2))) := by
  unfold covB
  simp [List.any_append]
end Go.Proofs.Ytpbfabcihoiiiaa
