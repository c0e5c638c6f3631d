/- FreemapBack: the plain law; lists of runs in memory. -/
import Derived.Test.YtdaeibbjoefofaaDoorFmc
import Derived.Test.YtdaeibbjoefofaaDoorAp
namespace Go.Proofs.YtdaeibbjoefofaaDoor
open Go.RowKit
set_option linter.unusedVariables false
set_option linter.unusedSimpArgs false

/-- What holds of the runs of the first k. -/
structure RunsI (T : Nat → Bool) (k : Nat) (l : List (Nat × Nat)) : Prop where
  one : ∀ (i : Nat) (x : Nat × Nat), l[i]? = some x → 1 ≤ x.2 ∧ x.1 + x.2 ≤ k ∧ ∀ j, x.1 ≤ j → j < x.1 + x.2 → T j = false
  two : ∀ (i : Nat) (x y : Nat × Nat), l[i]? = some x → l[i + 1]? = some y → x.1 + x.2 < y.1
  sum : (l.map (fun x => x.2)).sum + cnt T k = k
  tip : k ≠ 0 → T (k - 1) = false → ∃ (init : List (Nat × Nat)) (x : Nat × Nat), l = init ++ [x] ∧ x.1 + x.2 = k
theorem snoc_at {α : Type} {l : List α} {x y : α} {i : Nat} (h : (l ++ [x])[i]? = some y) : l[i]? = some y ∨ (i = l.length ∧ y = x) := by
  by_cases e : i < l.length
  · left
    rwa [List.getElem?_append_left e] at h
  · right
    rw [List.getElem?_append_right (by omega)] at h
    have e2 : i - l.length = 0 := by
      rcases Nat.lt_or_ge (i - l.length) 1 with h1 | h1
      · omega
      · rw [List.getElem?_eq_none (by simpa using h1)] at h
        cases h
    rw [e2] at h
    exact ⟨by omega, by simpa using h.symm⟩
theorem runsI (T : Nat → Bool) : ∀ k, RunsI T k (runs T k)
  | 0 => ⟨fun i x h => by simp [runs] at h, fun i x y h => by simp [runs] at h, by simp [runs, cnt], fun h => absurd rfl h⟩
  | k + 1 => by
    have I := runsI T k
    cases hT : T k with
    | true =>
      rw [runs_used hT]
      refine ⟨fun i x h => ⟨(I.one i x h).1, Nat.le_succ_of_le (I.one i x h).2.1, (I.one i x h).2.2⟩, I.two, ?_, fun _ h => ?_⟩
      · have := I.sum
        rw [cnt_snoc, hT]
        simp
        omega
      · rw [Nat.add_sub_cancel, hT] at h
        cases h
    | false =>
      by_cases hk : k = 0 ∨ T (k - 1) = true
      · rw [runs_first hT hk]
        refine ⟨fun i x h => ?_, fun i x y h h2 => ?_, ?_, fun _ _ => ⟨_, _, rfl, rfl⟩⟩
        · rcases snoc_at h with h | ⟨_, rfl⟩
          · exact ⟨(I.one i x h).1, Nat.le_succ_of_le (I.one i x h).2.1, (I.one i x h).2.2⟩
          · refine ⟨Nat.le_refl _, Nat.le_refl _, fun j h1 h2 => ?_⟩
            dsimp only at h1 h2
            obtain rfl : j = k := by omega
            exact hT
        · rcases snoc_at h2 with h2 | ⟨e, rfl⟩
          · rcases snoc_at h with h | ⟨e1, rfl⟩
            · exact I.two i x y h h2
            · have := (List.getElem?_eq_some_iff.1 h2).1
              omega
          · rcases snoc_at h with h | ⟨e1, rfl⟩
            · obtain ⟨a1, a2, a3⟩ := I.one i x h
              show x.1 + x.2 < k
              rcases hk with hk | hk
              · subst hk
                simp [runs] at h
              · rcases Nat.lt_or_ge (x.1 + x.2) k with h3 | h3
                · exact h3
                · have := a3 (k - 1) (by omega) (by omega)
                  rw [hk] at this
                  cases this
            · omega
        · have := I.sum
          rw [cnt_snoc, hT, List.map_append, List.sum_append]
          simp
          omega
      · have hk1 : k ≠ 0 := fun e => hk (.inl e)
        have hk2 : T (k - 1) = false := by
          cases e : T (k - 1) with
          | false => rfl
          | true => exact absurd (.inr e) hk
        obtain ⟨init, x, hl, hx⟩ := I.tip hk1 hk2
        rw [runs_more hT hk1 hk2, hl, bump_snoc]
        rw [hl] at I
        refine ⟨fun i y h => ?_, fun i y z h h2 => ?_, ?_, fun _ _ => ⟨_, _, rfl, by dsimp only; omega⟩⟩
        · rcases snoc_at h with h | ⟨_, rfl⟩
          · have hy : (init ++ [x])[i]? = some y := by rw [List.getElem?_append_left (List.getElem?_eq_some_iff.1 h).1]; exact h
            exact ⟨(I.one i y hy).1, Nat.le_succ_of_le (I.one i y hy).2.1, (I.one i y hy).2.2⟩
          · have hy : (init ++ [x])[init.length]? = some x := by simp
            obtain ⟨a1, a2, a3⟩ := I.one _ x hy
            refine ⟨by dsimp only; omega, by dsimp only; omega, fun j h1 h2 => ?_⟩
            dsimp only at h1 h2
            by_cases e : j < x.1 + x.2
            · exact a3 j h1 e
            · rw [show j = k by omega]; exact hT
        · rcases snoc_at h with h | ⟨e1, rfl⟩
          · have hy : (init ++ [x])[i]? = some y := by rw [List.getElem?_append_left (List.getElem?_eq_some_iff.1 h).1]; exact h
            rcases snoc_at h2 with h2 | ⟨e, rfl⟩
            · have hz : (init ++ [x])[i + 1]? = some z := by rw [List.getElem?_append_left (List.getElem?_eq_some_iff.1 h2).1]; exact h2
              exact I.two i y z hy hz
            · exact I.two i y x hy (by rw [e]; simp)
          · have := (List.getElem?_eq_some_iff.1 h2).1
            simp at this
            omega
        · have := I.sum
          rw [List.map_append, List.sum_append] at this
          rw [cnt_snoc, hT, List.map_append, List.sum_append]
          simp at this ⊢
          omega
/-- What a map's bytes are read as. -/
theorem bits_put {T : Nat → Bool} {n : Nat} {i : Nat} (h : i < 8 * ((n + 7) / 8)) : bitS (putL T n) i = T i := by
  have hi : i / 8 < (n + 7) / 8 := by omega
  have hb := bT_lt T (i / 8)
  unfold bitS
  rw [List.getD_eq_getElem?_getD]
  have e : (putL T n)[i / 8]? = some (UInt8.ofNat (bT T (i / 8))) := by simp [putL, hi]
  rw [e]
  show (UInt8.ofNat (bT T (i / 8))).toNat.testBit (i % 8) = T i
  rw [show (UInt8.ofNat (bT T (i / 8))).toNat = bT T (i / 8) by simp; omega, bT_eq, mkW_test]
  rw [show 8 * (i / 8) + i % 8 = i by omega]
  have : decide (i % 8 < 8) = true := by simp; omega
  rw [this, Bool.true_and]
theorem put_clean {T : Nat → Bool} {n : Nat} (hF : FMOk T n) : Clean (putL T n) n := by
  intro i hi
  by_cases h : i < 8 * ((n + 7) / 8)
  · rw [bits_put h]
    exact hF.out i hi
  · exact bitS_out (by rw [putL_len]; omega)
theorem put_part {T : Nat → Bool} {n : Nat} (hF : FMOk T n) : partT (putL T n) n = T := by
  funext i
  unfold partT
  by_cases h : i < n
  · rw [bits_put (by omega)]
    simp [h]
  · rw [hF.out i (by omega)]
    simp [h]
theorem putS_list (T : Nat → Bool) (n : Nat) : (putS T n).data.toList = putL T n := rfl
theorem putS_size (T : Nat → Bool) (n : Nat) : (putS T n).size = (n + 7) / 8 := by
  have := putL_len T n
  rw [← putS_list, Array.length_toList] at this
  exact this
/-- The value v is a slice that reads as these runs. -/
def RdR (w : World) (v : Value) (l : List (Nat × Nat)) : Prop :=
  ∃ (a : Option Addr) (c : Nat), v = .slice a l.length c ∧ l.length ≤ c ∧ ∀ (k : Nat) (x : Nat × Nat), l[k]? = some x → ∃ b, a = some ⟨b, 0, none⟩ ∧ w.cell? ⟨b, k * 2, none⟩ = some (.int .i64 x.1) ∧ w.cell? ⟨b, k * 2 + 1, none⟩ = some (.int .i64 x.2)
theorem RdR.below {w w1 : World} {v : Value} {l : List (Nat × Nat)} (h : RdR w v l) (hb : Below w.heap.size w w1) : RdR w1 v l := by
  obtain ⟨a, c, e, h1, h2⟩ := h
  exact ⟨a, c, e, h1, fun k x hx => by obtain ⟨b, e1, e2, e3⟩ := h2 k x hx; exact ⟨b, e1, keep_cell hb e2, keep_cell hb e3⟩⟩
theorem RdR.own {w : World} {base : Nat} {e : TypeId} {v : Value} {l : List (Nat × Nat)} (h : w.ownsRow base e 2 v l.length (l.flatMap runC)) : RdR w v l := by
  rcases own_cells h with ⟨h1, h2⟩ | ⟨g, c, h1, h2, _, h3⟩
  · obtain rfl := List.eq_nil_of_length_eq_zero h2
    subst h1
    exact ⟨none, 0, rfl, Nat.le_refl _, fun k x hx => by simp at hx⟩
  · refine ⟨some ⟨g, 0, none⟩, c, h1, h2, fun k x hx => ⟨g, rfl, ?_, ?_⟩⟩
    · have f := flat_at runC 2 (fun _ => rfl) 0 (by omega) l k x hx
      exact h3 _ _ f
    · have f := flat_at runC 2 (fun _ => rfl) 1 (by omega) l k x hx
      exact h3 _ _ f
/-- Where the last run ended. -/
def lastI (l : List (Nat × Nat)) (k : Nat) : Int := if k = 0 then -2 else (((l.getD (k - 1) (0, 0)).1 + (l.getD (k - 1) (0, 0)).2 : Nat) : Int)
theorem last_lt {T : Nat → Bool} {n k : Nat} {x : Nat × Nat} (hx : (runs T n)[k]? = some x) : lastI (runs T n) k < (x.1 : Int) := by
  unfold lastI
  split
  · omega
  · rename_i hk
    have hlt := (List.getElem?_eq_some_iff.1 hx).1
    have hy : (runs T n)[k - 1]? = some ((runs T n).getD (k - 1) (0, 0)) := by
      rw [List.getD_eq_getElem?_getD, List.getElem?_eq_getElem (by omega)]
      rfl
    have := (runsI T n).two (k - 1) _ x hy (by rw [show k - 1 + 1 = k by omega]; exact hx)
    omega
theorem last_snoc {l : List (Nat × Nat)} {k : Nat} {x : Nat × Nat} (hx : l[k]? = some x) : lastI l (k + 1) = (x.1 : Int) + x.2 := by
  unfold lastI
  rw [if_neg (by omega), Nat.add_sub_cancel, List.getD_eq_getElem?_getD, hx]
  simp
def sumI (l : List (Nat × Nat)) (k : Nat) : Nat := ((l.take k).map (fun x => x.2)).sum
theorem sum_snoc {l : List (Nat × Nat)} {k : Nat} {x : Nat × Nat} (hx : l[k]? = some x) : sumI l (k + 1) = sumI l k + x.2 := by
  unfold sumI
  rw [List.take_add_one, hx, List.map_append, List.sum_append]
  simp
theorem sum_all {T : Nat → Bool} {n : Nat} : ((sumI (runs T n) (runs T n).length : Nat) : Int) = leftN T n := by
  have := (runsI T n).sum
  unfold sumI leftN
  rw [List.take_length, cn_eq]
  omega
end Go.Proofs.YtdaeibbjoefofaaDoor
