/- LiftLists: the walk. -/
import Derived.Test.YtinnkaokplmcbaaDoorLs4
import Derived.Test.YtinnkaokplmcbaaDoorLi
namespace Go.Proofs.YtinnkaokplmcbaaDoor
open Go.RowKit
set_option linter.unusedVariables false
set_option linter.unusedSimpArgs false

theorem RdN.opn {w : World} {v : Value} {l : List Int} (h : RdN w v l) : ∃ (a : Option Addr) (c : Nat), v = .slice a l.length c ∧ l.length ≤ c ∧ ∀ (k : Nat) (n : Int), l[k]? = some n → ∃ b o, a = some ⟨b, o, none⟩ ∧ w.cell? ⟨b, o + k, none⟩ = some (.int .u32 n) := by
  obtain ⟨A, c, rfl, h1, h2, h3⟩ := h
  refine ⟨_, c, rfl, h1, fun k x hx => ?_⟩
  cases A with
  | none =>
    have := (List.getElem?_eq_some_iff.1 hx).1
    have := h2 rfl
    omega
  | some p => exact ⟨p.1, p.2, rfl, h3 p rfl k x hx⟩
theorem mvs_len (m : List (Int × Int)) : (mvs m).length < 1000000 := by unfold mvs; simp; omega

set_option maxRecDepth 100000 in
set_option maxHeartbeats 8000000 in
theorem lists_any (l : List Dr) (m : List (Int × Int)) (lv mv0 : Value) (w : World) (hd : RdD w lv l) (hdl : l.length ≤ maxLen) (hm0 : RdU w mv0 m) (hml : m.length ≤ maxLen) (hG : GP w) :
    Calls Tryd.prog 5 #[lv, mv0] w fun e w' => e = .returned (.bool true) ∧ Below w.heap.size w w' := by
  have HB := Below.refl w.heap.size w
  go_enter Tryd.func5, Tryd.ntmps5
  go_wp2_with (first | (go_at_call 18; refine (recs_any l _ _ hd hdl).mono ?_; rintro e w1 ⟨iv, rs, rfl, hL, hlen, hok, hB⟩; replace HB := bstep HB hB; clear hB) | (go_at_call 10; refine (moves_any m _ _ (hm0.below HB) hml).mono ?_; rintro e w1 ⟨mv, rfl, hm, hB⟩; replace HB := bstep HB hB; replace hL := hL.below hB; (try (replace hA := hA.below hB; replace hN := hN.below hB)); clear hB) | (go_at_call 19; refine (All_any rs (mvs m) _ _ _ hL (by omega) hok hm (mvs_len m) (hG.below HB)).mono ?_; rintro e w1 ⟨v1, v2, rfl, hA, hN, hB⟩; replace HB := bstep HB hB; replace hL := hL.below hB; clear hB hm) | (go_at_call 20; refine (rAll_any rs (mvs m) _ _ _ hL (by omega) hok hm (mvs_len m)).mono ?_; rintro e w1 ⟨v3, v4, rfl, hA2, hN2, hB⟩; replace HB := bstep HB hB; replace hL := hL.below hB; replace hA := hA.below hB; replace hN := hN.below hB; clear hB hm; obtain ⟨a1, c1, rfl, hc1, hr1⟩ := hA.opn; obtain ⟨a2, c2, rfl, hc2, hr2⟩ := hA2.opn; obtain ⟨a3, c3, rfl, hc3, hr3⟩ := hN.opn; obtain ⟨a4, c4, rfl, hc4, hr4⟩ := hN2.opn; have HR1 := Lib.hid hr1; have HR2 := Lib.hid hr2; have HR3 := Lib.hid hr3; have HR4 := Lib.hid hr4; clear hr1 hr2 hr3 hr4 hA hA2 hN hN2))
  go_loopw [12] (fun i wr => ∃ k : Nat, k ≤ (allO rs (mvs m)).length ∧ i = .int .i64 k ∧ Below w1.heap.size w1 wr) (fun i _ => (allO rs (mvs m)).length - (intOf i).toNat)
  case atStart => exact ⟨0, Nat.zero_le _, rfl, Below.refl _ _⟩
  case round =>
    obtain ⟨k, hk, rfl, HI⟩ := hrel
    have hmx := hc1
    by_cases hkl : k < (allO rs (mvs m)).length
    · obtain ⟨r, hr⟩ : ∃ r, (allO rs (mvs m))[k]? = some r := ⟨_, List.getElem?_eq_getElem hkl⟩
      obtain ⟨b1, o1, rfl, hcs1⟩ := HR1.out k r hr
      obtain ⟨b2, o2, rfl, hcs2⟩ := HR2.out k r hr
      have x0 := keep_cell HI (hcs1 0 _ rfl)
      have x1 := keep_cell HI (hcs1 1 _ rfl)
      have x2 := keep_cell HI (hcs1 2 _ rfl)
      have x3 := keep_cell HI (hcs1 3 _ rfl)
      have x4 := keep_cell HI (hcs1 4 _ rfl)
      have x5 := keep_cell HI (hcs1 5 _ rfl)
      have x6 := keep_cell HI (hcs1 6 _ rfl)
      have y0 := keep_cell HI (hcs2 0 _ rfl)
      have y1 := keep_cell HI (hcs2 1 _ rfl)
      have y2 := keep_cell HI (hcs2 2 _ rfl)
      have y3 := keep_cell HI (hcs2 3 _ rfl)
      have y4 := keep_cell HI (hcs2 4 _ rfl)
      have y5 := keep_cell HI (hcs2 5 _ rfl)
      have y6 := keep_cell HI (hcs2 6 _ rfl)
      rw [Nat.add_zero] at x0 y0
      have hne := fun W => rec_neq r W
      have hlm : (allO rs (mvs m)).length ≤ 1000000 := by unfold allO outs; split <;> simp <;> omega
      clear hr hcs1 hcs2
      go_wp2_with fail
      go_quiet (fail)
      go_wp2
      go_roundw
      case rel => exact ⟨k + 1, by omega, by go_num, below_drewN HI _⟩
      case measure => simp [intOf]; omega
    · replace HB := bstep HB HI
      replace hL := hL.below HI
      go_wp2_with fail
      obtain ⟨wo, rfl⟩ : ∃ wo : World, wo = wr := ⟨_, rfl⟩
      go_loopw [13] (fun i wr => ∃ k : Nat, k ≤ (allL rs (mvs m)).length ∧ i = .int .i64 k ∧ Below wo.heap.size wo wr) (fun i _ => (allL rs (mvs m)).length - (intOf i).toNat)
      case atStart => exact ⟨0, Nat.zero_le _, rfl, Below.refl _ _⟩
      case round =>
        obtain ⟨k, hk, rfl, HJ⟩ := hrel
        by_cases hkl : k < (allL rs (mvs m)).length
        · obtain ⟨r, hr⟩ : ∃ r, (allL rs (mvs m))[k]? = some r := ⟨_, List.getElem?_eq_getElem hkl⟩
          obtain ⟨b1, o1, rfl, hcs1⟩ := HR3.out k r hr
          obtain ⟨b2, o2, rfl, hcs2⟩ := HR4.out k r hr
          have x0 := keep_cell HJ (keep_cell HI hcs1)
          have y0 := keep_cell HJ (keep_cell HI hcs2)
          have hlm : (allL rs (mvs m)).length ≤ 1000000 := by
            unfold allL
            split
            · have := losts_len rs (mvs m); omega
            · simp
          clear hr hcs1 hcs2
          go_wp2_with fail
          go_quiet (fail)
          go_wp2
          go_roundw
          case rel => exact ⟨k + 1, by omega, by go_num, below_drewN HJ _⟩
          case measure => simp [intOf]; omega
        · replace HB := bstep HB HJ
          replace hL := hL.below HJ
          go_wp2_with (first | (go_at_call 21; refine (Clash_any rs _ _ hL (by omega)).mono ?_; rintro e w2 ⟨he, hB⟩; unfold clV at he; subst he; replace HB := bstep HB hB; replace hL := hL.below hB; clear hB) | (go_at_call 22; refine (rClash_any rs _ _ hL (by omega)).mono ?_; rintro e w2 ⟨he, hB⟩; unfold clV at he; subst he; replace HB := bstep HB hB; replace hL := hL.below hB; clear hB) | (go_at_call 16; refine (works_any _ (hG.below HB)).mono ?_; rintro e w2 ⟨rfl, hB⟩; replace HB := bstep HB hB; clear hB))
          go_returns
          exact ⟨rfl, HB⟩
end Go.Proofs.YtinnkaokplmcbaaDoor
