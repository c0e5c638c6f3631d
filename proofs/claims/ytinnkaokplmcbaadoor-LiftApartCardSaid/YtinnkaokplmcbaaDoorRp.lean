/- The reference's persons. -/
import Derived.Test.YtinnkaokplmcbaaDoorB
namespace Go.Proofs.YtinnkaokplmcbaaDoor
open Go.RowKit
set_option linter.unusedVariables false

set_option maxRecDepth 100000 in
set_option maxHeartbeats 4000000 in
theorem rperson_any (s : ByteArray) (w : World) (hs : s.size ≤ 140737488351232) : Calls Tryd.prog 35 #[.string s] w fun e w' => e = .returned (.bool (personB s.data.toList)) ∧ Below w.heap.size w w' := by
  go_enter Tryd.func35, Tryd.ntmps35
  go_wp2_with fail
  go_loopw [3] (fun i wr => ∃ k : Nat, k ≤ s.size ∧ i = .int .i64 k ∧ Hid ((s.data.toList.take k).all okP = true) ∧ Below w.heap.size w wr)
      (fun i _ => s.size - (intOf i).toNat)
  case atStart => exact ⟨0, Nat.zero_le _, rfl, (by simp [Hid]), Below.refl _ _⟩
  case round =>
    obtain ⟨k, hk, rfl, hall, hB⟩ := hrel
    by_cases hkl : k < s.size
    · by_cases hok : okP s[k] = true
      · have hok' : 33 ≤ s[k].toNat ∧ s[k].toNat ≤ 126 := by simpa [okP] using hok
        have b1 : ¬ ((s[k].toNat : Int) < 33) := by omega
        have b2 : ¬ ((126 : Int) < (s[k].toNat : Int)) := by omega
        have hall' : Hid ((s.data.toList.take (k + 1)).all okP = true) := all_take_succ s k hkl hall hok
        clear hok hok'
        go_wp2
        go_roundw
        case rel => exact ⟨k + 1, by omega, by go_num, hall', hB⟩
        case measure => simp [intOf]; omega
      · have HF : Hid (personB s.data.toList = false) := by
          show personB _ = false
          unfold personB
          rw [all_false s k hkl (by simpa using hok), Bool.and_false]
        have hok' : ¬ (33 ≤ s[k].toNat ∧ s[k].toNat ≤ 126) := by simpa [okP] using hok
        clear hok hall
        by_cases b0 : (s[k].toNat : Int) < 33
        · clear hok'
          go_wp2
          go_ret
          exact ⟨by rw [HF.out]; rfl, hB⟩
        · have b2 : (126 : Int) < (s[k].toNat : Int) := by omega
          clear hok'
          go_wp2
          go_ret
          exact ⟨by rw [HF.out]; rfl, hB⟩
    · have hke : k = s.size := by omega
      have h2 : s.data.toList.all okP = true := by
        have h3 := hall.out
        rw [hke, List.take_of_length_le (by rw [size_toList]; exact Nat.le_refl _)] at h3
        exact h3
      have hsz := size_toList s
      by_cases c1 : 1 ≤ (s.size : Int)
      · have HF : Hid (personB s.data.toList = decide ((s.size : Int) ≤ 24)) := by
          show personB _ = _
          have : s.data.toList.isEmpty = false := by
            cases hl : s.data.toList with
            | nil => rw [hl] at hsz; simp at hsz; omega
            | cons a b => rfl
          unfold personB
          rw [h2, this, hsz]
          simp
          omega
        clear hke h2 hsz
        go_wp2
        all_goals go_ret
        all_goals exact ⟨by rw [HF.out]; first | rfl | (simp; done) | (simp [*]; done), hB⟩
      · have HF : Hid (personB s.data.toList = false) := by
          show personB _ = _
          have : s.data.toList.isEmpty = true := by
            rw [List.isEmpty_iff]; exact List.eq_nil_of_length_eq_zero (by omega)
          unfold personB
          rw [this]; rfl
        clear hke h2 hsz
        go_wp2
        go_ret
        exact ⟨by rw [HF.out]; first | rfl | (simp; done) | (simp [*]; done), hB⟩

end Go.Proofs.YtinnkaokplmcbaaDoor
