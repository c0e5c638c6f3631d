/- hall.Same; what is small; lists of pairs. -/
import Derived.Test.YtpbfabcihoiiiaaHl5
import Derived.Test.YtpbfabcihoiiiaaHl7
namespace Go.Proofs.Ytpbfabcihoiiiaa
open Go.RowKit
set_option linter.unusedVariables false
set_option linter.unusedSimpArgs false

theorem row_neq (c1 c2 : Int) (m1 m2 : Nat) (W : World) : (binOp .neq 29 (.agg #[.int .i64 c1, .int .u8 (m1 : Nat)]) (.agg #[.int .i64 c2, .int .u8 (m2 : Nat)])).run Try.prog W = .ok (.bool (!decide ((c1, m1) = (c2, m2)))) W := by
  rw [run_neq_struct]
  go_simp
  by_cases h1 : c1 = c2
  · by_cases h2 : m1 = m2
    · simp [h1, h2]
    · have h3 : ¬ (m1 : Int) = (m2 : Int) := by omega
      simp [h1, h2, h3]
  · simp [h1]
set_option maxRecDepth 100000 in
set_option maxHeartbeats 2000000 in
theorem equal_any (v1 v2 : Value) (l1 l2 : List HRow) (w : World) (h1 : RdH w v1 l1) (h2 : RdH w v2 l2) (hl1 : l1.length ≤ 140737488355328) (hl2 : l2.length ≤ 140737488355328) : Calls Try.prog 23 #[v1, v2] w fun e w' => e = .returned (.bool (decide (l1 = l2))) ∧ Below w.heap.size w w' := by
  obtain ⟨a1, c1, rfl, hc1, hr1⟩ := h1
  obtain ⟨a2, c2, rfl, hc2, hr2⟩ := h2
  have HR1 := Lib.hid hr1
  have HR2 := Lib.hid hr2
  clear hr1 hr2
  by_cases hl : l1.length = l2.length
  case neg =>
    have hli : ((l1.length : Int) != (l2.length : Int)) = true := by rw [bne_iff_ne]; omega
    have HD : Hid (decide (l1 = l2) = false) := by
      show decide (l1 = l2) = false
      rw [decide_eq_false_iff_not]
      intro e
      exact hl (by rw [e])
    clear hl
    go_enter Try.func23, Try.ntmps23
    go_wp2_with fail
    go_ret
    exact ⟨by rw [HD.out]; rfl, Below.refl _ _⟩
  obtain ⟨n, hn⟩ : ∃ n, l1.length = n := ⟨_, rfl⟩
  rw [hn] at hl ⊢
  rw [← hl]
  have HN1 := Lib.hid hn
  have HN2 : Hid (l2.length = n) := hl.symm
  rw [hn] at hl1
  clear hl2 hn hl
  go_enter Try.func23, Try.ntmps23
  go_wp2_with fail
  go_loopw [13] (fun i wr => ∃ k : Nat, k ≤ n ∧ i = .int .i64 k ∧ Hid (∀ j, j < k → l1[j]? = l2[j]?) ∧ Hid (Below w.heap.size w wr)) (fun i _ => n - (intOf i).toNat)
  case atStart => exact ⟨0, by omega, rfl, fun j h => absurd h (by omega), Below.refl _ _⟩
  case round =>
    obtain ⟨k, hk, rfl, HK, HB⟩ := hrel
    by_cases hlt : k < n
    · obtain ⟨⟨x1, m1⟩, hx⟩ : ∃ x, l1[k]? = some x := ⟨_, List.getElem?_eq_getElem (by rw [HN1.out]; exact hlt)⟩
      obtain ⟨⟨x2, m2⟩, hy⟩ : ∃ x, l2[k]? = some x := ⟨_, List.getElem?_eq_getElem (by rw [HN2.out]; exact hlt)⟩
      obtain ⟨_, b1, o1, rfl, p0, p1⟩ := HR1.out k _ hx
      obtain ⟨_, b2, o2, rfl, q0, q1⟩ := HR2.out k _ hy
      have p0 := keepC HB.out p0
      have p1 := keepC HB.out p1
      have q0 := keepC HB.out q0
      have q1 := keepC HB.out q1
      have HX := Lib.hid hx
      have HY := Lib.hid hy
      have hne := fun W => row_neq x1 x2 m1 m2 W
      obtain ⟨v, hv⟩ : ∃ v, decide ((x1, m1) = (x2, m2)) = v := ⟨_, rfl⟩
      rw [hv] at hne
      have HV := Lib.hid hv
      clear hx hy hv
      dsimp only at p0 p1 q0 q1
      cases v
      · simp only [Bool.not_false] at hne
        go_wp2_with fail
        go_quiet (fail)
        go_wp2
        go_ret
        refine ⟨?_, below_drewN HB.out _⟩
        have : decide (l1 = l2) = false := by
          rw [decide_eq_false_iff_not]
          intro e
          rw [e, HY.out] at HX
          have := HX.out
          have h0 := HV.out
          rw [decide_eq_false_iff_not] at h0
          exact h0 (Option.some.inj this).symm
        rw [this]
        rfl
      · simp only [Bool.not_true] at hne
        go_wp2_with fail
        go_quiet (fail)
        go_wp2
        go_roundw
        case rel => exact ⟨k + 1, by omega, by go_num, fun j hj => by
          rcases Nat.lt_or_ge j k with h | h
          · exact HK.out j h
          · obtain rfl : j = k := by omega
            rw [HX.out, HY.out, of_decide_eq_true HV.out], below_drewN HB.out _⟩
        case measure => simp [intOf]; omega
    · go_wp2_with fail
      go_ret
      refine ⟨?_, HB.out⟩
      have : decide (l1 = l2) = true := by
        rw [decide_eq_true_iff]
        apply List.ext_getElem?
        intro j
        rcases Nat.lt_or_ge j k with h | h
        · exact HK.out j h
        · rw [List.getElem?_eq_none (by rw [HN1.out]; omega), List.getElem?_eq_none (by rw [HN2.out]; omega)]
      rw [this]
      rfl
set_option maxHeartbeats 1000000 in
theorem same_any (v1 v2 : Value) (l1 l2 : List HRow) (w : World) (h1 : RdH w v1 l1) (h2 : RdH w v2 l2) (hl1 : l1.length ≤ 140737488355328) (hl2 : l2.length ≤ 140737488355328) : Calls Try.prog 10 #[.agg #[v1], .agg #[v2]] w fun e w' => e = .returned (.bool (decide (l1 = l2))) ∧ Below w.heap.size w w' := by
  have hB : Below w.heap.size w ((w.alloc (.cells #[v1] 26)).alloc (.cells #[v2] 26)) := ((Below.refl _ w).alloc (Nat.le_refl _) _).alloc (by simp) _
  obtain ⟨a1, c1, rfl, hc1, hr1⟩ := h1
  obtain ⟨a2, c2, rfl, hc2, hr2⟩ := h2
  have h1 : RdH w (.slice a1 l1.length c1) l1 := ⟨a1, c1, rfl, hc1, hr1⟩
  have h2 : RdH w (.slice a2 l2.length c2) l2 := ⟨a2, c2, rfl, hc2, hr2⟩
  have H1 := Lib.hid (h1.below hB)
  have H2 := Lib.hid (h2.below hB)
  have HB := Lib.hid hB
  clear hr1 hr2 h1 h2 hB
  go_enter Try.func10, Try.ntmps10
  go_wp2_with fail
  refine (equal_any _ _ l1 l2 _ H1.out H2.out hl1 hl2).mono ?_
  rintro e w1 ⟨rfl, hB1⟩
  have HB1 := Lib.hid (HB.out.trans (hB1.mono HB.out.size))
  clear hB1
  go_wp2_with fail
  go_ret
  exact ⟨rfl, HB1.out⟩
end Go.Proofs.Ytpbfabcihoiiiaa
