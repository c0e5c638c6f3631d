/- vary.value: a number is read. -/
import Derived.Test.YtemngdhbicndlaaDoorVc2
namespace Go.Proofs.YtemngdhbicndlaaDoor
open Go.RowKit
set_option linter.unusedVariables false
set_option linter.unusedSimpArgs false

/-- What a number is read as: a code, or the number and what is left. -/
def rdN : List UInt8 → Int ⊕ (Nat × List UInt8)
  | [] => .inl 3
  | k :: l2 => if 8 < k.toNat then .inl 5 else if l2.length < k.toNat then .inl 3 else if 0 < k.toNat ∧ l2.head? = some 0 then .inl 5 else .inr (foldB (l2.take k.toNat), l2.drop k.toNat)
theorem RdB.one {w : World} {v : Value} {b : UInt8} {t : List UInt8} (h : RdB w v (b :: t)) : ∃ g o c, v = .slice (some ⟨g, o, none⟩) (t.length + 1) c ∧ t.length + 1 ≤ c ∧ w.cell? ⟨g, o, none⟩ = some (.int .u8 (b.toNat : Int)) := by
  obtain ⟨A, c, rfl, h1, h2, h3⟩ := h
  cases A with
  | none => have := h2 rfl; simp at h1; omega
  | some q =>
    refine ⟨q.1, q.2, c, rfl, h1, ?_⟩
    have := h3 q rfl 0 (.int .u8 (b.toNat : Int)) rfl
    rwa [Nat.add_zero] at this
theorem RdB.opn {w : World} {v : Value} {l : List UInt8} (h : RdB w v l) : ∃ (a : Option Addr) (c : Nat), v = .slice a l.length c ∧ l.length ≤ c ∧ ∀ (k : Nat) (b : UInt8), l[k]? = some b → ∃ g o, a = some ⟨g, o, none⟩ ∧ w.cell? ⟨g, o + k, none⟩ = some (.int .u8 (b.toNat : Int)) := by
  obtain ⟨A, c, rfl, h1, h2, h3⟩ := h
  refine ⟨_, c, rfl, h1, fun k b hb => ?_⟩
  cases A with
  | none =>
    have := (List.getElem?_eq_some_iff.1 hb).1
    have := h2 rfl
    omega
  | some q => exact ⟨q.1, q.2, rfl, h3 q rfl k _ (by simp [bv, hb])⟩
theorem foldB_next {l : List UInt8} {i : Nat} {b : UInt8} (h : l[i]? = some b) : foldB (l.take (i + 1)) = foldB (l.take i) * 256 + b.toNat := by
  rw [List.take_add_one, h]
  exact foldB_snoc _ _
theorem foldB_small {l : List UInt8} {i : Nat} (h : i ≤ 7) : foldB (l.take i) < 72057594037927936 := by
  refine Nat.lt_of_lt_of_le (foldB_lt _) ?_
  have h1 : (l.take i).length ≤ 7 := by rw [List.length_take]; omega
  exact Nat.pow_le_pow_right (show 0 < 256 by decide) h1
set_option maxRecDepth 100000 in
set_option maxHeartbeats 1000000 in
theorem value_no (p : Nat) (l : List UInt8) (c : Int) (w : World) (h : RestAt w p l) (hc : rdN l = .inl c) :
    Calls Tryd.prog 37 #[takeV p] w fun e w' => e = .returned (.tuple #[.int .u64 0, .int .i64 c]) ∧ w.grownBy w' (some p) := by
  unfold takeV
  cases l with
  | nil =>
    obtain rfl : c = 3 := by cases hc; rfl
    have HC := Lib.hid (take_no p 1 [] w h (by simp))
    clear hc
    go_enter Tryd.func37, Tryd.ntmps37
    go_wp2_with fail
    refine HC.out.mono ?_
    rintro e w1 ⟨rfl, rfl⟩
    go_wp2_with fail
    go_ret2
    exact ⟨rfl, grown_below (Below.refl _ _) _⟩
  | cons k l2 =>
    have HC := Lib.hid (take_yes p 1 (k :: l2) w h (by simp))
    have hk := k.toNat_lt
    by_cases h8 : 8 < k.toNat
    · obtain rfl : c = 5 := by rw [rdN, if_pos h8] at hc; cases hc; rfl
      clear hc
      go_enter Tryd.func37, Tryd.ntmps37
      go_wp2_with fail
      refine HC.out.mono ?_
      rintro e w1 ⟨v1, rfl, hr1, hs1, hg1⟩
      obtain ⟨g, o, cc, rfl, hcc, c0⟩ := RdB.one (t := []) hr1
      have HG := Lib.hid hg1
      clear hr1 hs1 hg1
      go_wp2_with fail
      go_ret2
      exact ⟨rfl, HG.out⟩
    rw [rdN, if_neg h8] at hc
    by_cases hl : l2.length < k.toNat
    · obtain rfl : c = 3 := by rw [if_pos hl] at hc; cases hc; rfl
      clear hc
      go_enter Tryd.func37, Tryd.ntmps37
      go_wp2_with fail
      refine HC.out.mono ?_
      rintro e w1 ⟨v1, rfl, hr1, hs1, hg1⟩
      obtain ⟨g, o, cc, rfl, hcc, c0⟩ := RdB.one (t := []) hr1
      have HG := Lib.hid hg1
      have HC2 := Lib.hid (take_no p (k.toNat : Int) l2 w1 hs1 (by omega))
      clear hr1 hs1 hg1
      go_wp2_with fail
      refine HC2.out.mono ?_
      rintro e w2 ⟨rfl, rfl⟩
      go_wp2_with fail
      go_ret2
      exact ⟨rfl, HG.out⟩
    rw [if_neg hl] at hc
    by_cases hz : 0 < k.toNat ∧ l2.head? = some 0
    · obtain rfl : c = 5 := by rw [if_pos hz] at hc; cases hc; rfl
      clear hc
      obtain ⟨hz0, hz1⟩ := hz
      obtain ⟨l3, rfl⟩ : ∃ l3, l2 = 0 :: l3 := by
        cases l2 with
        | nil => cases hz1
        | cons a l3 => exact ⟨l3, by simp at hz1; rw [hz1]⟩
      obtain ⟨m, hm⟩ : ∃ m, k.toNat = m + 1 := ⟨k.toNat - 1, by omega⟩
      have HM : Hid (((0 : UInt8) :: l3).take k.toNat = 0 :: l3.take m ∧ (l3.take m).length = m) := by
        refine ⟨by rw [hm]; rfl, ?_⟩
        rw [List.length_take]
        simp at hl
        omega
      clear hm
      go_enter Tryd.func37, Tryd.ntmps37
      go_wp2_with fail
      refine HC.out.mono ?_
      rintro e w1 ⟨v1, rfl, hr1, hs1, hg1⟩
      obtain ⟨g, o, cc, rfl, hcc, c0⟩ := RdB.one (t := []) hr1
      have HG := Lib.hid hg1
      have HC2 := Lib.hid (take_yes p k.toNat _ w1 hs1 (Nat.not_lt.1 hl))
      clear hr1 hs1 hg1
      go_wp2_with fail
      refine HC2.out.mono ?_
      rintro e w2 ⟨v2, rfl, hr2, hs2, hg2⟩
      replace HG := Lib.hid (grown_trans HG.out hg2)
      rw [show (List.drop 1 (k :: 0 :: l3)) = 0 :: l3 from rfl, HM.out.1] at hr2
      obtain ⟨g2, o2, cc2, rfl, hcc2, d0⟩ := hr2.one
      rw [HM.out.2] at hcc2 ⊢
      clear hr2 hs2 hg2
      go_wp2_with fail
      go_ret2
      exact ⟨rfl, HG.out⟩
    · rw [if_neg hz] at hc
      cases hc
theorem or_step (z : Nat) (b : UInt8) (h : z < 72057594037927936) : bits .or .u64 (IntKind.u64.wrap ((z : Int) * 256)) (b.toNat : Int) = ((z * 256 + b.toNat : Nat) : Int) := by
  have hb := b.toNat_lt
  rw [IntKind.wrap_u64, show ((z : Int) * 256) % 18446744073709551616 = (z : Int) * 256 by omega]
  rw [bits_join .u64 64 (by decide) (fun n h0 h1 => by simp only [IntKind.wrap_u64]; omega) 8 ((z : Int) * 256) (b.toNat : Int) (by omega) (by omega) (by omega) (by omega) (by omega) (by omega)]
  omega
theorem or_step2 (z : Nat) (b : UInt8) (h : z < 72057594037927936) : bits .or .u64 ((z : Int) * 256) (b.toNat : Int) = ((z * 256 + b.toNat : Nat) : Int) := by
  have q := or_step z b h
  rwa [IntKind.wrap_u64, show ((z : Int) * 256) % 18446744073709551616 = (z : Int) * 256 by omega] at q
set_option maxRecDepth 100000 in
set_option maxHeartbeats 1000000 in
theorem value_yes (p : Nat) (l : List UInt8) (n : Nat) (r : List UInt8) (w : World) (h : RestAt w p l) (hc : rdN l = .inr (n, r)) :
    Calls Tryd.prog 37 #[takeV p] w fun e w' => e = .returned (.tuple #[.int .u64 (n : Nat), .int .i64 0]) ∧ RestAt w' p r ∧ w.grownBy w' (some p) := by
  unfold takeV
  cases l with
  | nil => cases hc
  | cons k l2 =>
    have HC := Lib.hid (take_yes p 1 (k :: l2) w h (by simp))
    have hk := k.toNat_lt
    rw [rdN] at hc
    by_cases h8 : 8 < k.toNat
    · rw [if_pos h8] at hc
      cases hc
    rw [if_neg h8] at hc
    by_cases hl : l2.length < k.toNat
    · rw [if_pos hl] at hc
      cases hc
    rw [if_neg hl] at hc
    by_cases hz : 0 < k.toNat ∧ l2.head? = some 0
    · rw [if_pos hz] at hc
      cases hc
    rw [if_neg hz] at hc
    simp only [Sum.inr.injEq, Prod.mk.injEq] at hc
    obtain ⟨hn, rfl⟩ := hc
    have HN := Lib.hid hn
    obtain ⟨q, hq⟩ : ∃ q, q = l2.take k.toNat := ⟨_, rfl⟩
    have hql : q.length = k.toNat := by rw [hq, List.length_take]; omega
    have hqz : q = [] ∨ ∃ b t, q = b :: t ∧ b ≠ 0 := by
      cases hqc : q with
      | nil => exact .inl rfl
      | cons b t =>
        refine .inr ⟨b, t, rfl, fun hb => hz ?_⟩
        rw [hq] at hqc
        have h0 : 0 < k.toNat := by
          rw [← hql, hq, hqc]
          simp
        refine ⟨h0, ?_⟩
        have := congrArg List.head? hqc
        rw [List.head?_take, if_neg (by omega)] at this
        rw [this, hb]
        rfl
    rw [← hq] at HN
    have HQ := Lib.hid hq
    have HL := Lib.hid (Nat.not_lt.1 hl)
    clear hz hq hl hn
    go_enter Tryd.func37, Tryd.ntmps37
    go_wp2_with fail
    refine HC.out.mono ?_
    rintro e w1 ⟨v1, rfl, hr1, hs1, hg1⟩
    obtain ⟨g, o, cc, rfl, hcc, c0⟩ := RdB.one (t := []) hr1
    have HG := Lib.hid hg1
    have HC2 := Lib.hid (take_yes p k.toNat _ w1 hs1 HL.out)
    clear hr1 hs1 hg1
    go_wp2_with fail
    refine HC2.out.mono ?_
    rintro e w2 ⟨v2, rfl, hr2, hs2, hg2⟩
    replace HG := Lib.hid (grown_trans HG.out hg2)
    rw [show (List.drop 1 (k :: l2)) = l2 from rfl] at hr2 hs2
    rw [← HQ.out] at hr2
    have HS := Lib.hid hs2
    obtain ⟨a2, cc2, rfl, hcc2, hcs⟩ := hr2.opn
    have HCS := Lib.hid hcs
    rw [hql] at hcc2 ⊢
    clear hr2 hs2 hg2 hcs HC HC2
    have H0 : Hid (∀ (wx : World), True) := fun _ => trivial
    rcases hqz with hqz | ⟨b, t, hqz, hb⟩
    · have hk0 : (k.toNat : Int) = 0 := by rw [← hql, hqz]; rfl
      have hn0 : n = 0 := by rw [← HN.out, hqz]; rfl
      subst hn0
      have hkn : k.toNat = 0 := by omega
      rw [hkn] at hcc2 ⊢
      clear hqz hql hkn hk0
      go_wp2_with fail
      refine wp_loop_rounds 1 ?_
      rw [rounds_succ]
      go_wp2_with fail
      go_ret2
      exact ⟨rfl, HS.out, HG.out⟩
    · have hk1 : (0 : Int) < (k.toNat : Int) := by rw [← hql, hqz]; simp
      obtain ⟨g2, o2, rfl, d0⟩ := HCS.out 0 b (by rw [hqz]; rfl)
      rw [Nat.add_zero] at d0
      have hb0 : ((b.toNat : Int) == 0) = false := by
        rw [beq_eq_false_iff_ne]
        intro e
        exact hb (by apply UInt8.toNat_inj.1; simp; omega)
      have HQL := Lib.hid hql
      clear hqz hql hb
      go_wp2_with fail
      go_loopw [2, 46] (fun nv iv wr => ∃ i : Nat, i ≤ k.toNat ∧ iv = .int .i64 i ∧ nv = .int .u64 ((foldB (q.take i) : Nat) : Int) ∧ wr = w2) (fun _ iv _ => k.toNat - (intOf iv).toNat)
      case atStart => exact ⟨0, Nat.zero_le _, rfl, rfl, rfl⟩
      case round =>
        obtain ⟨i, hi, rfl, rfl, rfl⟩ := hrel
        by_cases hik : i < k.toNat
        · obtain ⟨x, hx⟩ : ∃ x, q[i]? = some x := ⟨q[i]'(by rw [HQL.out]; exact hik), List.getElem?_eq_getElem _⟩
          obtain ⟨g3, o3, he, dx⟩ := HCS.out i x hx
          obtain ⟨rfl, rfl⟩ : g2 = g3 ∧ o2 = o3 := by simpa using he
          have hz := foldB_small (l := q) (i := i) (by omega)
          have HFN := Lib.hid (foldB_next hx)
          generalize foldB (q.take i) = z at hz HFN ⊢
          have hx8 := x.toNat_lt
          clear he hx
          go_wp2_with fail
          go_roundw
          case rel => exact ⟨i + 1, by omega, by go_num, by rw [HFN.out]; exact congrArg _ (or_step2 z x hz), trivial⟩
          case measure => simp [intOf]; omega
        · obtain rfl : i = k.toNat := by omega
          have HE : Hid (foldB (q.take k.toNat) = n) := by
            show _ = _
            rw [← HN.out, ← HQL.out, List.take_length]
          go_wp2_with fail
          go_ret2
          exact ⟨by rw [← HE.out]; rfl, HS.out, HG.out⟩
end Go.Proofs.YtemngdhbicndlaaDoor
