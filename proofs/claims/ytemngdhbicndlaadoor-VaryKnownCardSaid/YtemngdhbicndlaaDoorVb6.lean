/- vary.number: a number is laid. -/
import Derived.Test.YtemngdhbicndlaaDoorVb5
namespace Go.Proofs.YtemngdhbicndlaaDoor
open Go.RowKit
set_option linter.unusedVariables false
set_option linter.unusedSimpArgs false

theorem byte_is (n : Nat) (hn : n < 18446744073709551616) (r : Nat) (hr : r < 8) (y : Int) (hy : y = ((n / 256 ^ r % 256 : Nat) : Int)) : y = ((UInt8.ofNat (n / 256 ^ r % 256)).toNat : Int) := by
  rw [hy, toNat_of _ (Nat.mod_lt _ (by decide))]
theorem below_refl (w : World) (base : Nat) : Below base w w := Below.refl _ _
set_option maxRecDepth 100000 in
set_option maxHeartbeats 8000000 in
theorem number_any {w0 : World} (base : Nat) (v : Value) (l : List UInt8) (n : Nat) (w : World) (hn : n < 18446744073709551616) (HO : w.ownsRow base 5 1 v l.length (bv l)) (HB : Below base w0 w) (hbase : base ≤ w.heap.size) (hl : l.length < 1000000) :
    Calls Tryd.prog 30 #[v, .int .u64 n] w fun e w' => ∃ v1, e = .returned v1 ∧ w'.ownsRow base 5 1 v1 (l ++ numL n).length (bv (l ++ numL n)) ∧ Below base w0 w' ∧ KeptT 5 w w' ∧ w.heap.size ≤ w'.heap.size := by
  have h8 := nb_8 hn
  obtain ⟨m, hm⟩ : ∃ m, m = nb n := ⟨_, rfl⟩
  have hE : Hid (numL n = UInt8.ofNat m :: beB m n) := by rw [hm]; exact rfl
  have HLen := Lib.hid (len64_any n w (by omega) (by omega))
  have HM := Lib.hid hm
  have hm8 : m ≤ 8 := by omega
  have hk0 : KeptT 5 w w := KeptT.refl _ _
  clear h8 hm
  go_enter Tryd.func30, Tryd.ntmps30
  go_wp2_with fail
  refine HLen.out.mono ?_
  rintro e w1 ⟨L, rfl, rfl, hL0, hL1, hL⟩
  have hq : (L + 7) / 8 = (m : Int) := by rw [hL, HM.out]; rfl
  have hq2 : wrap64 (L + 7) = L + 7 := by unfold wrap64; omega
  clear hL
  have hyb : Hid ((m : Int) = ((UInt8.ofNat m).toNat : Int)) := by show (m : Int) = _; rw [toNat_of m (by omega)]
  go_wp2_with (at_builtin; refine byte_append base rfl (.tmp 10) (.tmp 13) 60 5 rfl Tryd.underlying60 info_u8 v l _ (UInt8.ofNat m) hyb.out rfl rfl HO HB hbase (by omega) ?_; clear HO HB; intro v1 w1 hO1 hB1 hk1 hs1)
  have HO1 : Hid (w1.ownsRow base 5 1 v1 (l ++ (UInt8.ofNat m :: beB 0 (n / 256 ^ m))).length (bv (l ++ (UInt8.ofNat m :: beB 0 (n / 256 ^ m))))) := hO1
  have HB1 := Lib.hid hB1
  have HK1 := Lib.hid hk1
  have HS1 := Lib.hid hs1
  clear hO1 hB1 hk1 hs1 hyb hk0
  go_loopw [0, 5] (fun vv rv wr => ∃ (j r : Nat), j + r = m ∧ rv = .int .i64 r ∧ Hid (wr.ownsRow base 5 1 vv (l ++ (UInt8.ofNat m :: beB j (n / 256 ^ r))).length (bv (l ++ (UInt8.ofNat m :: beB j (n / 256 ^ r))))) ∧ Hid (Below base w0 wr) ∧ Hid (KeptT 5 w wr) ∧ Hid (w.heap.size ≤ wr.heap.size)) (fun _ rv _ => (intOf rv).toNat)
  case atStart => exact ⟨0, m, by omega, rfl, HO1, HB1, HK1, HS1⟩
  case round =>
    clear HO1 HB1 HK1 HS1
    obtain ⟨j, r, hjr, rfl, HO, HB, HK, HS⟩ := hrel
    cases r with
    | zero =>
      obtain rfl : j = m := by omega
      go_wp2_with fail
      go_ret
      refine ⟨_, rfl, ?_, HB.out, HK.out, HS.out⟩
      have q := HO.out
      rw [Nat.pow_zero, Nat.div_one] at q
      rw [hE.out]
      exact q
    | succ r =>
      have hS0 := HS.out
      have hbase2 : base ≤ wr.heap.size := Nat.le_trans hbase hS0
      have hcase : r = 0 ∨ r = 1 ∨ r = 2 ∨ r = 3 ∨ r = 4 ∨ r = 5 ∨ r = 6 ∨ r = 7 := by omega
      rcases hcase with rfl | rfl | rfl | rfl | rfl | rfl | rfl | rfl
      · have he : Hid (beB (j + 1) (n / 256 ^ 0) = beB j (n / 256 ^ (0 + 1)) ++ [UInt8.ofNat (n / 256 ^ 0 % 256)]) := beB_first j 0 n
        go_wp2_with (at_builtin; refine byte_append base rfl (.tmp 19) (.tmp 26) 60 5 rfl Tryd.underlying60 info_u8 _ _ _ (UInt8.ofNat (n / 256 ^ 0 % 256)) (byte_is n hn 0 (by decide) _ (by omega)) rfl rfl HO.out HB.out hbase2 (by rw [List.length_append, List.length_cons, beB_len]; omega) ?_; clear HO HB; intro v2 w2 hO2 hB2 hk2 hs2)
        rw [List.append_assoc, List.cons_append, ← he.out] at hO2
        have HK2 := Lib.hid (HK.out.trans hk2)
        have HS2 := Lib.hid (Nat.le_trans HS.out hs2)
        have HO2 := Lib.hid hO2
        have HB2 := Lib.hid hB2
        clear hO2 hB2 hk2 hs2 HK HS
        go_wp2_with fail
        go_roundw
        case rel => exact ⟨j + 1, 0, by omega, by go_num, HO2, HB2, HK2, HS2⟩
        case measure => simp [intOf]
      · have he : Hid (beB (j + 1) (n / 256 ^ 1) = beB j (n / 256 ^ (1 + 1)) ++ [UInt8.ofNat (n / 256 ^ 1 % 256)]) := beB_first j 1 n
        go_wp2_with (at_builtin; refine byte_append base rfl (.tmp 19) (.tmp 26) 60 5 rfl Tryd.underlying60 info_u8 _ _ _ (UInt8.ofNat (n / 256 ^ 1 % 256)) (byte_is n hn 1 (by decide) _ (by omega)) rfl rfl HO.out HB.out hbase2 (by rw [List.length_append, List.length_cons, beB_len]; omega) ?_; clear HO HB; intro v2 w2 hO2 hB2 hk2 hs2)
        rw [List.append_assoc, List.cons_append, ← he.out] at hO2
        have HK2 := Lib.hid (HK.out.trans hk2)
        have HS2 := Lib.hid (Nat.le_trans HS.out hs2)
        have HO2 := Lib.hid hO2
        have HB2 := Lib.hid hB2
        clear hO2 hB2 hk2 hs2 HK HS
        go_wp2_with fail
        go_roundw
        case rel => exact ⟨j + 1, 1, by omega, by go_num, HO2, HB2, HK2, HS2⟩
        case measure => simp [intOf]
      · have he : Hid (beB (j + 1) (n / 256 ^ 2) = beB j (n / 256 ^ (2 + 1)) ++ [UInt8.ofNat (n / 256 ^ 2 % 256)]) := beB_first j 2 n
        go_wp2_with (at_builtin; refine byte_append base rfl (.tmp 19) (.tmp 26) 60 5 rfl Tryd.underlying60 info_u8 _ _ _ (UInt8.ofNat (n / 256 ^ 2 % 256)) (byte_is n hn 2 (by decide) _ (by omega)) rfl rfl HO.out HB.out hbase2 (by rw [List.length_append, List.length_cons, beB_len]; omega) ?_; clear HO HB; intro v2 w2 hO2 hB2 hk2 hs2)
        rw [List.append_assoc, List.cons_append, ← he.out] at hO2
        have HK2 := Lib.hid (HK.out.trans hk2)
        have HS2 := Lib.hid (Nat.le_trans HS.out hs2)
        have HO2 := Lib.hid hO2
        have HB2 := Lib.hid hB2
        clear hO2 hB2 hk2 hs2 HK HS
        go_wp2_with fail
        go_roundw
        case rel => exact ⟨j + 1, 2, by omega, by go_num, HO2, HB2, HK2, HS2⟩
        case measure => simp [intOf]
      · have he : Hid (beB (j + 1) (n / 256 ^ 3) = beB j (n / 256 ^ (3 + 1)) ++ [UInt8.ofNat (n / 256 ^ 3 % 256)]) := beB_first j 3 n
        go_wp2_with (at_builtin; refine byte_append base rfl (.tmp 19) (.tmp 26) 60 5 rfl Tryd.underlying60 info_u8 _ _ _ (UInt8.ofNat (n / 256 ^ 3 % 256)) (byte_is n hn 3 (by decide) _ (by omega)) rfl rfl HO.out HB.out hbase2 (by rw [List.length_append, List.length_cons, beB_len]; omega) ?_; clear HO HB; intro v2 w2 hO2 hB2 hk2 hs2)
        rw [List.append_assoc, List.cons_append, ← he.out] at hO2
        have HK2 := Lib.hid (HK.out.trans hk2)
        have HS2 := Lib.hid (Nat.le_trans HS.out hs2)
        have HO2 := Lib.hid hO2
        have HB2 := Lib.hid hB2
        clear hO2 hB2 hk2 hs2 HK HS
        go_wp2_with fail
        go_roundw
        case rel => exact ⟨j + 1, 3, by omega, by go_num, HO2, HB2, HK2, HS2⟩
        case measure => simp [intOf]
      · have he : Hid (beB (j + 1) (n / 256 ^ 4) = beB j (n / 256 ^ (4 + 1)) ++ [UInt8.ofNat (n / 256 ^ 4 % 256)]) := beB_first j 4 n
        go_wp2_with (at_builtin; refine byte_append base rfl (.tmp 19) (.tmp 26) 60 5 rfl Tryd.underlying60 info_u8 _ _ _ (UInt8.ofNat (n / 256 ^ 4 % 256)) (byte_is n hn 4 (by decide) _ (by omega)) rfl rfl HO.out HB.out hbase2 (by rw [List.length_append, List.length_cons, beB_len]; omega) ?_; clear HO HB; intro v2 w2 hO2 hB2 hk2 hs2)
        rw [List.append_assoc, List.cons_append, ← he.out] at hO2
        have HK2 := Lib.hid (HK.out.trans hk2)
        have HS2 := Lib.hid (Nat.le_trans HS.out hs2)
        have HO2 := Lib.hid hO2
        have HB2 := Lib.hid hB2
        clear hO2 hB2 hk2 hs2 HK HS
        go_wp2_with fail
        go_roundw
        case rel => exact ⟨j + 1, 4, by omega, by go_num, HO2, HB2, HK2, HS2⟩
        case measure => simp [intOf]
      · have he : Hid (beB (j + 1) (n / 256 ^ 5) = beB j (n / 256 ^ (5 + 1)) ++ [UInt8.ofNat (n / 256 ^ 5 % 256)]) := beB_first j 5 n
        go_wp2_with (at_builtin; refine byte_append base rfl (.tmp 19) (.tmp 26) 60 5 rfl Tryd.underlying60 info_u8 _ _ _ (UInt8.ofNat (n / 256 ^ 5 % 256)) (byte_is n hn 5 (by decide) _ (by omega)) rfl rfl HO.out HB.out hbase2 (by rw [List.length_append, List.length_cons, beB_len]; omega) ?_; clear HO HB; intro v2 w2 hO2 hB2 hk2 hs2)
        rw [List.append_assoc, List.cons_append, ← he.out] at hO2
        have HK2 := Lib.hid (HK.out.trans hk2)
        have HS2 := Lib.hid (Nat.le_trans HS.out hs2)
        have HO2 := Lib.hid hO2
        have HB2 := Lib.hid hB2
        clear hO2 hB2 hk2 hs2 HK HS
        go_wp2_with fail
        go_roundw
        case rel => exact ⟨j + 1, 5, by omega, by go_num, HO2, HB2, HK2, HS2⟩
        case measure => simp [intOf]
      · have he : Hid (beB (j + 1) (n / 256 ^ 6) = beB j (n / 256 ^ (6 + 1)) ++ [UInt8.ofNat (n / 256 ^ 6 % 256)]) := beB_first j 6 n
        go_wp2_with (at_builtin; refine byte_append base rfl (.tmp 19) (.tmp 26) 60 5 rfl Tryd.underlying60 info_u8 _ _ _ (UInt8.ofNat (n / 256 ^ 6 % 256)) (byte_is n hn 6 (by decide) _ (by omega)) rfl rfl HO.out HB.out hbase2 (by rw [List.length_append, List.length_cons, beB_len]; omega) ?_; clear HO HB; intro v2 w2 hO2 hB2 hk2 hs2)
        rw [List.append_assoc, List.cons_append, ← he.out] at hO2
        have HK2 := Lib.hid (HK.out.trans hk2)
        have HS2 := Lib.hid (Nat.le_trans HS.out hs2)
        have HO2 := Lib.hid hO2
        have HB2 := Lib.hid hB2
        clear hO2 hB2 hk2 hs2 HK HS
        go_wp2_with fail
        go_roundw
        case rel => exact ⟨j + 1, 6, by omega, by go_num, HO2, HB2, HK2, HS2⟩
        case measure => simp [intOf]
      · have he : Hid (beB (j + 1) (n / 256 ^ 7) = beB j (n / 256 ^ (7 + 1)) ++ [UInt8.ofNat (n / 256 ^ 7 % 256)]) := beB_first j 7 n
        go_wp2_with (at_builtin; refine byte_append base rfl (.tmp 19) (.tmp 26) 60 5 rfl Tryd.underlying60 info_u8 _ _ _ (UInt8.ofNat (n / 256 ^ 7 % 256)) (byte_is n hn 7 (by decide) _ (by omega)) rfl rfl HO.out HB.out hbase2 (by rw [List.length_append, List.length_cons, beB_len]; omega) ?_; clear HO HB; intro v2 w2 hO2 hB2 hk2 hs2)
        rw [List.append_assoc, List.cons_append, ← he.out] at hO2
        have HK2 := Lib.hid (HK.out.trans hk2)
        have HS2 := Lib.hid (Nat.le_trans HS.out hs2)
        have HO2 := Lib.hid hO2
        have HB2 := Lib.hid hB2
        clear hO2 hB2 hk2 hs2 HK HS
        go_wp2_with fail
        go_roundw
        case rel => exact ⟨j + 1, 7, by omega, by go_num, HO2, HB2, HK2, HS2⟩
        case measure => simp [intOf]
end Go.Proofs.YtemngdhbicndlaaDoor
