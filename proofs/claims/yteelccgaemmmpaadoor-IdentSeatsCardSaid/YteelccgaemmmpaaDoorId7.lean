/- The reference's Event and Person. -/
import Derived.Test.YteelccgaemmmpaaDoorId6
namespace Go.Proofs.YteelccgaemmmpaaDoor
open Go.RowKit
set_option linter.unusedVariables false
set_option linter.unusedSimpArgs false

theorem getD_at (s : ByteArray) (k : Nat) (h : k < s.size) : s.data.toList.getD k 0 = s[k] := by
  rw [List.getD_eq_getElem?_getD, List.getElem?_eq_getElem (by rw [size_toList]; exact h)]
  rfl
theorem u8_ne {c : UInt8} {n : Nat} (hn : n < 256) : (c = UInt8.ofNat n) ↔ c.toNat = n := by
  constructor
  · rintro rfl; exact u8_toNat hn
  · intro h; rw [← h]; simp
theorem range_all_succ {p : Nat → Bool} {k : Nat} (h : (List.range k).all p = true) (hk : p k = true) : (List.range (k + 1)).all p = true := by
  rw [List.range_succ, List.all_append, h]
  simp [hk]
theorem range_all_not {p : Nat → Bool} {k n : Nat} (h : k < n) (hk : p k = false) : (List.range n).all p = false := by
  rw [List.all_eq_false]
  exact ⟨k, by simpa using h, by simp [hk]⟩
set_option maxHeartbeats 4000000 in
theorem revent_any (s : ByteArray) (w : World) (hs : s.size ≤ 140737488351232) : Calls Tryd.prog 10 #[.string s] w fun e w' => e = .returned (.bool (eventB s.data.toList)) ∧ w = w' := by
  have hsz := size_toList s
  by_cases h1 : s.size < 1
  · have e0 : eventB s.data.toList = false := by
      have : s.data.toList = [] := List.eq_nil_of_length_eq_zero (by omega)
      rw [this]; rfl
    rw [e0]
    have h1' : (s.size : Int) < 1 := by omega
    clear e0 hsz h1
    go_enter Tryd.func10, Tryd.ntmps10
    go_wp2_with fail
    go_ret
    exact ⟨rfl, rfl⟩
  · by_cases h2 : 16 < s.size
    · have e0 : eventB s.data.toList = false := by unfold eventB; rw [decide_eq_false (by omega)]; simp
      rw [e0]
      have h1' : (1 : Int) ≤ (s.size : Int) := by omega
      have h2' : (16 : Int) < (s.size : Int) := by omega
      clear e0 hsz h1 h2
      go_enter Tryd.func10, Tryd.ntmps10
      go_wp2_with fail
      go_ret
      exact ⟨rfl, rfl⟩
    · have e0 := ref_event s.data.toList (by omega) (by omega)
      rw [hsz] at e0
      rw [e0]
      obtain ⟨p, hp⟩ : ∃ p, p = refB s.data.toList := ⟨_, rfl⟩
      rw [← hp]
      have HP := Lib.hid hp
      have HSZ := Lib.hid hsz
      have h1' : (1 : Int) ≤ (s.size : Int) := by omega
      have h2' : (s.size : Int) ≤ 16 := by omega
      clear e0 hsz h1 h2 hp
      go_enter Tryd.func10, Tryd.ntmps10
      go_wp2_with fail
      go_loop [3] (fun i => ∃ k : Nat, k ≤ s.size ∧ i = .int .i64 k ∧ Hid ((List.range k).all p = true)) (fun i => s.size - (intOf i).toNat)
      case atStart => exact ⟨0, Nat.zero_le _, rfl, rfl⟩
      case round =>
        obtain ⟨k, hk, rfl, ha⟩ := hrel
        by_cases hlt : k < s.size
        · have hg := getD_at s k hlt
          have ub := s[k].toNat_lt
          by_cases hc : s[k].toNat = 45
          · have hc45 : s[k] = 45 := (u8_ne (n := 45) (by decide)).2 hc
            have hcb : ((s[k].toNat : Int) == 45) = true := by rw [hc]; rfl
            by_cases k0 : k = 0
            · subst k0
              have HF := Lib.hid (range_all_not hlt (show p 0 = false by rw [HP.out]; unfold refB; rw [hg, if_pos hc45]; rfl))
              clear hg ub hc hc45 ha
              go_wp2_with fail
              go_ret
              exact ⟨by rw [HF.out]; rfl, rfl⟩
            · obtain ⟨j, rfl⟩ : ∃ j, k = j + 1 := ⟨k - 1, by omega⟩
              have k1 : (((j : Int) + 1) == 0) = false := by rw [beq_eq_false_iff_ne]; omega
              have hj : j < s.size := by omega
              by_cases kl : j + 1 + 1 = s.size
              · have HF := Lib.hid (range_all_not hlt (show p (j + 1) = false by rw [HP.out]; unfold refB; rw [hg, if_pos hc45, HSZ.out]; simp [kl]))
                have k2 : (((j : Int) + 1) == ((s.size : Int) - 1)) = true := by rw [beq_iff_eq]; omega
                clear hg ub hc hc45 ha kl
                go_wp2_with fail
                go_ret
                exact ⟨by rw [HF.out]; rfl, rfl⟩
              · have k2 : (((j : Int) + 1) == ((s.size : Int) - 1)) = false := by rw [beq_eq_false_iff_ne]; omega
                have hgj := getD_at s j hj
                by_cases hd : s[j].toNat = 45
                · have hd45 : s[j] = 45 := (u8_ne (n := 45) (by decide)).2 hd
                  have hdb : ((s[j].toNat : Int) == 45) = true := by rw [hd]; rfl
                  have HF := Lib.hid (range_all_not hlt (show p (j + 1) = false by rw [HP.out]; unfold refB; rw [hg, if_pos hc45, Nat.add_sub_cancel, hgj]; simp [hd45]))
                  clear hg ub hc hc45 ha kl hgj hd hd45 k0
                  go_wp2_with fail
                  go_ret
                  exact ⟨by rw [HF.out]; rfl, rfl⟩
                · have hdn : s[j] ≠ 45 := fun e => hd ((u8_ne (n := 45) (by decide)).1 e)
                  have hdb : ((s[j].toNat : Int) == 45) = false := by rw [beq_eq_false_iff_ne]; omega
                  have HA := Lib.hid (range_all_succ ha.out (show p (j + 1) = true by rw [HP.out]; unfold refB; rw [hg, if_pos hc45, Nat.add_sub_cancel, hgj, HSZ.out]; simp [hdn, kl]))
                  clear hg ub hc hc45 ha kl hgj hd hdn k0
                  go_wp2_with fail
                  go_round
                  case rel => exact ⟨j + 1 + 1, by omega, by go_num, HA.out⟩
                  case measure => simp [intOf]; omega
          · have hcn : s[k] ≠ 45 := fun e => hc ((u8_ne (n := 45) (by decide)).1 e)
            have hcb : ((s[k].toNat : Int) == 45) = false := by rw [beq_eq_false_iff_ne]; omega
            have hpk : p k = evC s[k] := by rw [HP.out]; unfold refB; rw [hg, if_neg hcn]
            by_cases hok : evC s[k] = true
            · have HA := Lib.hid (range_all_succ ha.out (hpk.trans hok))
              unfold evC at hok
              rw [decide_eq_true_eq] at hok
              rcases hok with ⟨a1, a2⟩ | ⟨a1, a2⟩ | a1
              · have b1 : (97 : Int) ≤ (s[k].toNat : Int) := by omega
                have b2 : (s[k].toNat : Int) ≤ 122 := by omega
                clear a1 a2 hg ub hc hcn ha hpk
                go_wp2_with fail
                go_round
                case rel => exact ⟨k + 1, by omega, by go_num, HA.out⟩
                case measure => simp [intOf]; omega
              · have b1 : (48 : Int) ≤ (s[k].toNat : Int) := by omega
                have b2 : (s[k].toNat : Int) ≤ 57 := by omega
                have b3 : (s[k].toNat : Int) < 97 := by omega
                clear a1 a2 hg ub hc hcn ha hpk
                go_wp2_with fail
                go_round
                case rel => exact ⟨k + 1, by omega, by go_num, HA.out⟩
                case measure => simp [intOf]; omega
              · exact absurd a1 hc
            · have HF := Lib.hid (range_all_not hlt (hpk.trans (by simpa using hok)))
              unfold evC at hok
              rw [decide_eq_true_eq] at hok
              by_cases c1 : s[k].toNat < 48
              · have b1 : (s[k].toNat : Int) < 97 := by omega
                have b2 : (s[k].toNat : Int) < 48 := by omega
                clear hok hg ub hc hcn ha hpk c1
                go_wp2_with fail
                go_ret
                exact ⟨by rw [HF.out]; rfl, rfl⟩
              · by_cases c2 : s[k].toNat < 97
                · have b1 : (s[k].toNat : Int) < 97 := by omega
                  have b2 : (48 : Int) ≤ (s[k].toNat : Int) := by omega
                  have b3 : (57 : Int) < (s[k].toNat : Int) := by omega
                  clear hok hg ub hc hcn ha hpk c1 c2
                  go_wp2_with fail
                  go_ret
                  exact ⟨by rw [HF.out]; rfl, rfl⟩
                · have b1 : (97 : Int) ≤ (s[k].toNat : Int) := by omega
                  have b2 : (48 : Int) ≤ (s[k].toNat : Int) := by omega
                  have b3 : (57 : Int) < (s[k].toNat : Int) := by omega
                  have b4 : (122 : Int) < (s[k].toNat : Int) := by omega
                  clear hok hg ub hc hcn ha hpk c1 c2
                  go_wp2_with fail
                  go_ret
                  exact ⟨by rw [HF.out]; rfl, rfl⟩
        · obtain rfl : k = s.size := by omega
          go_wp2_with fail
          go_ret
          exact ⟨by rw [ha.out]; rfl, rfl⟩

set_option maxHeartbeats 1000000 in
theorem rperson_any (s : ByteArray) (w : World) (hs : s.size ≤ 140737488351232) : Calls Tryd.prog 12 #[.string s] w fun e w' => e = .returned (.bool (personB s.data.toList)) ∧ w = w' := by
  have hsz := size_toList s
  obtain ⟨R, hR⟩ : ∃ R, R = personB s.data.toList := ⟨_, rfl⟩
  rw [← hR]
  have HR := Lib.hid hR
  have HSZ := Lib.hid hsz
  clear hR hsz
  go_enter Tryd.func12, Tryd.ntmps12
  go_wp2_with fail
  go_loop [3] (fun i => ∃ k : Nat, k ≤ s.size ∧ i = .int .i64 k ∧ Hid ((s.data.toList.take k).all okP = true)) (fun i => s.size - (intOf i).toNat)
  case atStart => exact ⟨0, Nat.zero_le _, rfl, rfl⟩
  case round =>
    obtain ⟨k, hk, rfl, ha⟩ := hrel
    by_cases hlt : k < s.size
    · by_cases hok : okP s[k] = true
      · have HA := all_take_succ s k hlt ha hok
        unfold okP at hok
        rw [decide_eq_true_eq] at hok
        have b1 : (33 : Int) ≤ (s[k].toNat : Int) := by omega
        have b2 : (s[k].toNat : Int) ≤ 126 := by omega
        clear hok ha
        go_wp2_with fail
        go_round
        case rel => exact ⟨k + 1, by omega, by go_num, HA⟩
        case measure => simp [intOf]; omega
      · have hf := all_false s k hlt (by simpa using hok)
        have HF : Hid (R = false) := by show R = false; rw [HR.out]; unfold personB; rw [hf]; simp
        unfold okP at hok
        rw [decide_eq_true_eq] at hok
        clear hf ha
        by_cases c1 : s[k].toNat < 33
        · have b1 : (s[k].toNat : Int) < 33 := by omega
          clear hok c1
          go_wp2_with fail
          go_ret
          exact ⟨by rw [HF.out]; rfl, rfl⟩
        · have b1 : (33 : Int) ≤ (s[k].toNat : Int) := by omega
          have b2 : (126 : Int) < (s[k].toNat : Int) := by omega
          clear hok c1
          go_wp2_with fail
          go_ret
          exact ⟨by rw [HF.out]; rfl, rfl⟩
    · obtain rfl : k = s.size := by omega
      have h2 := ha.out
      rw [List.take_of_length_le (by rw [HSZ.out]; exact Nat.le_refl _)] at h2
      have hRe : R = (decide (1 ≤ s.size) && decide (s.size ≤ 24)) := by
        rw [HR.out]
        unfold personB
        rw [h2, HSZ.out, Bool.and_true]
        congr 1
        rw [Bool.eq_iff_iff]
        simp only [Bool.not_eq_true', decide_eq_true_eq, List.isEmpty_eq_false_iff]
        rw [← HSZ.out, ← List.length_pos_iff]
        exact Iff.rfl
      have HE := Lib.hid hRe
      clear h2 ha hRe
      by_cases d1 : s.size < 1
      · have b1 : (s.size : Int) < 1 := by omega
        have HF : Hid (R = false) := by show R = false; rw [HE.out, decide_eq_false (by omega)]; rfl
        clear d1
        go_wp2_with fail
        go_ret
        exact ⟨by rw [HF.out]; rfl, rfl⟩
      · by_cases d2 : s.size ≤ 24
        · have b1 : (1 : Int) ≤ (s.size : Int) := by omega
          have b2 : (s.size : Int) ≤ 24 := by omega
          have HF : Hid (R = true) := by show R = true; rw [HE.out, decide_eq_true (by omega), decide_eq_true d2]; rfl
          clear d1 d2
          go_wp2_with fail
          go_ret
          exact ⟨by rw [HF.out]; rfl, rfl⟩
        · have b1 : (1 : Int) ≤ (s.size : Int) := by omega
          have b2 : (24 : Int) < (s.size : Int) := by omega
          have b3 : decide ((s.size : Int) ≤ 24) = false := by simp; omega
          have HF : Hid (R = false) := by show R = false; rw [HE.out, decide_eq_false d2]; simp
          clear d1 d2
          go_wp2_with fail
          go_ret
          exact ⟨by rw [HF.out]; rfl, rfl⟩
end Go.Proofs.YteelccgaemmmpaaDoor
