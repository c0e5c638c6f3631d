/- HallReads: the walk. -/
import Derived.Test.YtpbfabcihoiiiaaDoorHlB
import Derived.Test.YtpbfabcihoiiiaaDoorHn2
import Derived.Test.YtpbfabcihoiiiaaDoorTo3h
import Derived.Deep.RegionHeld3
import Derived.StillTailTactics
namespace Go.Proofs.YtpbfabcihoiiiaaDoor
open Go.RowKit
set_option linter.unusedVariables false
set_option linter.unusedSimpArgs false

theorem readT_code : ∀ (f a : Nat) (l : List UInt8) (c : Int) (t : Nat), readT f a l = .inr (c, t) → (c == 0) = false ∧ t ≤ a + l.length
  | 0, a, l, c, t, h => by
    rw [readT] at h
    cases h
    exact ⟨rfl, by omega⟩
  | f + 1, a, l, c, t, h => by
    rw [readT] at h
    cases hb : badI 0 (l.take 9) with
    | some i =>
      rw [hb] at h
      cases h
      have hi : ∀ (q : List UInt8) (k j : Nat), badI k q = some j → j < k + q.length := by
        intro q
        induction q with
        | nil => intro k j h; simp [badI] at h
        | cons x q ih =>
          intro k j h
          rw [badI] at h
          split at h
          · have := ih _ _ h
            rw [List.length_cons]
            omega
          · cases h
            rw [List.length_cons]
            omega
      have := hi _ _ _ hb
      rw [List.length_take] at this
      exact ⟨rfl, by omega⟩
    | none =>
      rw [hb] at h
      simp only at h
      by_cases h1 : l.length < 9
      · rw [if_pos h1] at h
        cases h
        exact ⟨rfl, by omega⟩
      rw [if_neg h1] at h
      by_cases h2 : l.length ≠ 9 ∧ (l.drop 9).getD 0 0 ≠ 47
      · rw [if_pos h2] at h
        cases h
        exact ⟨rfl, by omega⟩
      rw [if_neg h2] at h
      by_cases h3 : mkM ((l.take 9).drop 1) = 0
      · rw [if_pos h3] at h
        cases h
        exact ⟨rfl, by omega⟩
      rw [if_neg h3] at h
      by_cases h4 : l.length = 9
      · rw [if_pos h4] at h; cases h
      rw [if_neg h4] at h
      cases hq : readT f (a + 10) (l.drop 10) with
      | inl r => rw [hq] at h; cases h
      | inr e =>
        rw [hq] at h
        cases h
        have := readT_code f (a + 10) (l.drop 10) c t hq
        refine ⟨this.1, ?_⟩
        have h5 := this.2
        by_cases h10 : 10 ≤ l.length
        · rw [List.length_drop] at h5
          omega
        · omega

set_option maxRecDepth 100000 in
set_option maxHeartbeats 2000000 in
theorem rsame_any (v1 v2 : Value) (l : List HRow) (w : World) (h1 : RdH w v1 l) (h2 : RdH w v2 l) (hl : l.length ≤ 140737488355328) : Calls Tryd.prog 10 #[.agg #[v1], .agg #[v2]] w fun e w' => e = .returned (.bool true) ∧ Below w.heap.size w w' := by
  obtain ⟨a1, c1, rfl, hc1, hr1⟩ := h1
  obtain ⟨a2, c2, rfl, hc2, hr2⟩ := h2
  have HR1 := Lib.hid hr1
  have HR2 := Lib.hid hr2
  clear hr1 hr2
  go_enter Tryd.func10, Tryd.ntmps10
  go_wp2_with fail
  obtain ⟨W1, hW1⟩ : ∃ W1, W1 = (w.alloc (.cells #[.slice a1 l.length c1] 24)).alloc (.cells #[.slice a2 l.length c2] 24) := ⟨_, rfl⟩
  have hB1 : Below w.heap.size w W1 := by rw [hW1]; exact ((Below.refl _ _).alloc (Nat.le_refl _) _).alloc (by simp) _
  have ca : W1.cell? ⟨w.heap.size, 0, none⟩ = some (.slice a1 l.length c1) := by rw [hW1]; go_cell
  have cb : W1.cell? ⟨w.heap.size + 1, 0, none⟩ = some (.slice a2 l.length c2) := by rw [hW1]; go_cell
  rw [← hW1]
  have HB1 := Lib.hid hB1
  have CA := Lib.hid ca
  have CB := Lib.hid cb
  clear hW1 hB1 ca cb
  go_loopw [5] (fun i wr => ∃ k : Nat, k ≤ l.length ∧ i = .int .i64 k ∧ Hid (Below W1.heap.size W1 wr)) (fun i _ => l.length - (intOf i).toNat)
  case atStart => exact ⟨0, by omega, rfl, Below.refl _ _⟩
  case round =>
    obtain ⟨k, hk, rfl, HB⟩ := hrel
    have ca := keepC HB.out CA.out
    have cb := keepC HB.out CB.out
    have HBw := Lib.hid (HB1.out.trans (HB.out.mono HB1.out.size))
    by_cases hlt : k < l.length
    · obtain ⟨⟨x1, m1⟩, hx⟩ : ∃ x, l[k]? = some x := ⟨_, List.getElem?_eq_getElem hlt⟩
      obtain ⟨_, b1, o1, rfl, p0, p1⟩ := HR1.out k _ hx
      obtain ⟨_, b2, o2, rfl, q0, q1⟩ := HR2.out k _ hx
      have p0 := keepC HBw.out p0
      have p1 := keepC HBw.out p1
      have q0 := keepC HBw.out q0
      have q1 := keepC HBw.out q1
      have hne := fun W => row_neq x1 x1 m1 m1 W
      rw [decide_eq_true rfl] at hne
      simp only [Bool.not_true] at hne
      clear hx
      dsimp only at p0 p1 q0 q1
      go_wp2_with fail
      go_quiet (fail)
      go_wp2
      go_roundw
      case rel => exact ⟨k + 1, by omega, by go_num, below_drewN HB.out _⟩
      case measure => simp [intOf]; omega
    · go_wp2_with fail
      go_ret
      exact ⟨rfl, HBw.out⟩
/-- A hall of these rows comes back. -/
def HallP (l : List HRow) (w : World) (e : Ending) (w' : World) : Prop := ∃ v, e = .returned (.agg #[v]) ∧ RdH w' v l ∧ Below w.heap.size w w'
theorem RdH.cut {w : World} {a : Option Addr} {c : Nat} {l : List HRow} (h : RdH w (.slice a l.length c) l) : RdH w (.slice a (min 12 l.length) c) (l.take 12) := by
  obtain ⟨a', c', he, h1, h2⟩ := h
  cases he
  refine ⟨a, c, by rw [List.length_take], by rw [List.length_take]; omega, fun k r hr => h2 k r ?_⟩
  rw [List.getElem?_take] at hr
  split at hr
  · exact hr
  · cases hr
set_option maxHeartbeats 1000000 in
theorem few_any (v : Value) (l : List HRow) (w : World) (hv : RdH w v l) (hl : l.length ≤ 9223372036854775807) : Calls Tryd.prog 6 #[.agg #[v]] w (HallP (l.take 12) w) := by
  obtain ⟨a, c, rfl, hc, hr⟩ := hv
  have HV : Hid (RdH w (.slice a l.length c) l) := ⟨a, c, rfl, hc, hr⟩
  have HC := Lib.hid HV.out.cut
  clear hr
  have hm : min 12 l.length = (min (l.length : Int) 12).toNat := by omega
  rw [hm] at HC
  clear hm
  go_enter Tryd.func6, Tryd.ntmps6
  go_wp2_with fail
  refine bodyPost_ret (v := .agg #[.slice a (min (l.length : Int) 12).toNat c]) (by simp [results, Tryd.results6, go_sem]; try rfl) rfl ?_
  exact ⟨_, rfl, HC.out.below (((Below.refl _ _).alloc (Nat.le_refl _) _).alloc (by simp) _), by go_grown⟩
end Go.Proofs.YtpbfabcihoiiiaaDoor
