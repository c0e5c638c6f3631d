/- FixedOrder: the walk. -/
import Derived.Test.YtbnnemiiodhjbaaDoorFx3
import Derived.Test.YtbnnemiiodhjbaaDoorBl
namespace Go.Proofs.YtbnnemiiodhjbaaDoor
open Go.RowKit
set_option linter.unusedVariables false
set_option linter.unusedSimpArgs false

/-- What is left of a number in 2^k bytes. -/
def cutN (k : Nat) (a : Int) : Int := a % ((256 ^ (2 ^ k) : Nat) : Int)
theorem cutN_lt (k : Nat) (a : Int) : 0 ≤ cutN k a ∧ (cutN k a).toNat < 256 ^ (2 ^ k) := by
  unfold cutN
  have h : (0 : Int) < ((256 ^ (2 ^ k) : Nat) : Int) := by
    have : 0 < 256 ^ (2 ^ k) := Nat.pow_pos (by decide)
    omega
  have h1 := Int.emod_nonneg a (Int.ne_of_gt h)
  have h2 := Int.emod_lt_of_pos a h
  omega
theorem cutN_64 (k : Nat) (hk : k < 4) (a : Int) : cutN k a < 18446744073709551616 := by
  have h := (cutN_lt k a).2
  have h0 := (cutN_lt k a).1
  have : 256 ^ (2 ^ k) ≤ 18446744073709551616 := by
    rcases (show k = 0 ∨ k = 1 ∨ k = 2 ∨ k = 3 by omega) with rfl | rfl | rfl | rfl <;> decide
  omega
theorem cut_0 (a : Int) : IntKind.u64.wrap (a * 72057594037927936) / 72057594037927936 = cutN 0 a := by
  rw [IntKind.wrap_u64]; show _ = a % 256; omega
theorem cut_1 (a : Int) : IntKind.u64.wrap (a * 281474976710656) / 281474976710656 = cutN 1 a := by
  rw [IntKind.wrap_u64]; show _ = a % 65536; omega
theorem cut_2 (a : Int) : IntKind.u64.wrap (a * 4294967296) / 4294967296 = cutN 2 a := by
  rw [IntKind.wrap_u64]; show _ = a % 4294967296; omega
theorem cut_3 (a : Int) (h0 : 0 ≤ a) (h1 : a < 18446744073709551616) : a = cutN 3 a := by
  show _ = a % 18446744073709551616; omega
theorem cv_str {w : World} {v : Value} {X : ByteArray} (h : RdB w v X.data.toList) : (convert 22 9 v).run Tryd.prog w = .ok (.string X) w := by
  have q := h.str (P := Tryd.prog) 22 9 5 Tryd.underlying22 Tryd.underlying5 Tryd.underlying9
  rw [q]
/-- A number laid behind nothing, as bytes. -/
theorem put_s (k : Nat) (hk : k < 4) (n : Int) (h0 : 0 ≤ n) (h1 : n < 18446744073709551616) (w : World) : Calls Tryd.prog 8 #[.slice none 0 0, .int .u64 n, .int .i64 ((2 ^ k : Nat) : Int)] w fun e w' => ∃ v1, e = .returned v1 ∧ RdB w' v1 (⟨(beB (2 ^ k) n.toNat).toArray⟩ : ByteArray).data.toList ∧ Below w.heap.size w w' :=
  (put_any k hk _ [] n w (RdB.nil w) h0 h1 (by decide)).mono fun e w' ⟨v, he, hown, hB⟩ => ⟨v, he, RdB.own hown, hB⟩
theorem be_cmp (k : Nat) (x y : Int) (hx : 0 ≤ x ∧ x.toNat < 256 ^ (2 ^ k)) (hy : 0 ≤ y ∧ y.toNat < 256 ^ (2 ^ k)) :
    (((⟨(beB (2 ^ k) x.toNat).toArray⟩ : ByteArray).size : Nat) : Int) = ((2 ^ k : Nat) : Int) ∧ Op.bytesLess (⟨(beB (2 ^ k) x.toNat).toArray⟩ : ByteArray).toList (⟨(beB (2 ^ k) y.toNat).toArray⟩ : ByteArray).toList = decide (x < y) ∧ ((⟨(beB (2 ^ k) x.toNat).toArray⟩ : ByteArray).toList == (⟨(beB (2 ^ k) y.toNat).toArray⟩ : ByteArray).toList) = (x == y) := by
  refine ⟨?_, ?_, ?_⟩
  · show (((beB (2 ^ k) x.toNat).toArray.size : Nat) : Int) = _
    rw [List.size_toArray, beB_len]
  · rw [toList_data, toList_data]
    show Op.bytesLess (beB (2 ^ k) x.toNat) (beB (2 ^ k) y.toNat) = _
    rw [bl_beB hx.2 hy.2, decide_eq_decide]
    omega
  · rw [toList_data, toList_data]
    show (beB (2 ^ k) x.toNat == beB (2 ^ k) y.toNat) = _
    rw [beB_eq hx.2 hy.2, Bool.eq_iff_iff]
    simp only [decide_eq_true_eq, beq_iff_eq]
    omega
theorem below2 {w w0 w1 w2 : World} (h : Below w.heap.size w w0) (h1 : Below w0.heap.size w0 w1) (h2 : Below w1.heap.size w1 w2) : Below w.heap.size w w2 := trans' (trans' h h1) h2
set_option maxRecDepth 100000 in
set_option maxHeartbeats 8000000 in
theorem order_any (a b : Int) (w : World) (hE : EtP w) (ha : 0 ≤ a ∧ a < 18446744073709551616) (hb : 0 ≤ b ∧ b < 18446744073709551616) : Calls Tryd.prog 4 #[.int .u64 a, .int .u64 b] w fun e w' => e = .returned (.bool true) ∧ Below w.heap.size w w' := by
  go_enter Tryd.func4, Tryd.ntmps4
  go_wp2_with fail
  go_loopw [5, 6, 7, 8, 9] (fun kv _ _ _ _ wr => ∃ k : Nat, k ≤ 4 ∧ kv = .int .i64 k ∧ Hid (Below w.heap.size w wr)) (fun kv _ _ _ _ _ => 4 - (intOf kv).toNat)
  case atStart => exact ⟨0, by omega, rfl, Below.refl _ _⟩
  case round =>
    obtain ⟨k, hk, rfl, HB⟩ := hrel
    by_cases hlt : k < 4
    · rcases (show k = 0 ∨ k = 1 ∨ k = 2 ∨ k = 3 by omega) with rfl | rfl | rfl | rfl
      · have e1 := cut_0 a
        have e2 := cut_0 b
        go_wp2_with fail
        go_quiet (fail)
        go_wp2_with fail
        have HE1 : Hid (cutN 0 a = cutN 0 a) := rfl
        have HE2 : Hid (cutN 0 b = cutN 0 b) := rfl
        obtain ⟨x, hx⟩ : ∃ x, x = cutN 0 a := ⟨_, rfl⟩
        obtain ⟨y, hy⟩ : ∃ y, y = cutN 0 b := ⟨_, rfl⟩
        have hx0 : 0 ≤ x ∧ x.toNat < 256 ^ 1 := by rw [hx]; exact cutN_lt 0 a
        have hy0 : 0 ≤ y ∧ y.toNat < 256 ^ 1 := by rw [hy]; exact cutN_lt 0 b
        have hx6 : x < 18446744073709551616 := by rw [hx]; exact cutN_64 0 (by decide) a
        have hy6 : y < 18446744073709551616 := by rw [hy]; exact cutN_64 0 (by decide) b
        have HX := Lib.hid (put_s 0 (by decide) x hx0.1 hx6)
        have HY := Lib.hid (put_s 0 (by decide) y hy0.1 hy6)
        have hc := be_cmp 0 x y hx0 hy0
        rw [← hx, ← hy]
        clear hx hy e1 e2 HE1 HE2
        obtain ⟨X, hX⟩ : ∃ X : ByteArray, X = ⟨(beB (2 ^ 0) x.toNat).toArray⟩ := ⟨_, rfl⟩
        obtain ⟨Y, hY⟩ : ∃ Y : ByteArray, Y = ⟨(beB (2 ^ 0) y.toNat).toArray⟩ := ⟨_, rfl⟩
        rw [← hX, ← hY] at hc
        rw [← hX] at HX
        rw [← hY] at HY
        obtain ⟨hc1, hc2, hc3⟩ := hc
        have hc1 : (X.size : Int) = 1 := hc1
        have HBW : Hid (∀ n, Below w.heap.size w (wr.drewN n)) := fun n => below_drewN HB.out n
        clear hX hY hx0 hy0 hx6 hy6 HB
        go_region_with (first | (go_at_call 8; first | (have _z := HX; refine (HX.out _).mono ?_; rintro e w1 ⟨v1, rfl, hrx, hBx⟩; clear HX; have hcx := cv_str hrx; try (replace hry := RdB.below hry hBx); try (have hcy := cv_str hry)) | (have _z := HY; refine (HY.out _).mono ?_; rintro e w2 ⟨v2, rfl, hry, hBy⟩; clear HY; have hcy := cv_str hry; try (replace hrx := RdB.below hrx hBy); try (have hcx := cv_str hrx))))
        all_goals
          cases hd : decide (x < y) <;> cases he : (x == y)
          all_goals
            rw [hd] at hc2
            rw [he] at hc3
            go_wp2_with fail
            go_roundw
            case rel => exact ⟨0 + 1, by omega, by go_num, by first | exact below2 (HBW.out _) hBx hBy | exact below2 (HBW.out _) hBy hBx⟩
            case measure => simp [intOf]
      · have e1 := cut_1 a
        have e2 := cut_1 b
        go_wp2_with fail
        go_quiet (fail)
        go_wp2_with fail
        have HE1 : Hid (cutN 1 a = cutN 1 a) := rfl
        have HE2 : Hid (cutN 1 b = cutN 1 b) := rfl
        obtain ⟨x, hx⟩ : ∃ x, x = cutN 1 a := ⟨_, rfl⟩
        obtain ⟨y, hy⟩ : ∃ y, y = cutN 1 b := ⟨_, rfl⟩
        have hx0 : 0 ≤ x ∧ x.toNat < 256 ^ 2 := by rw [hx]; exact cutN_lt 1 a
        have hy0 : 0 ≤ y ∧ y.toNat < 256 ^ 2 := by rw [hy]; exact cutN_lt 1 b
        have hx6 : x < 18446744073709551616 := by rw [hx]; exact cutN_64 1 (by decide) a
        have hy6 : y < 18446744073709551616 := by rw [hy]; exact cutN_64 1 (by decide) b
        have HX := Lib.hid (put_s 1 (by decide) x hx0.1 hx6)
        have HY := Lib.hid (put_s 1 (by decide) y hy0.1 hy6)
        have hc := be_cmp 1 x y hx0 hy0
        rw [← hx, ← hy]
        clear hx hy e1 e2 HE1 HE2
        obtain ⟨X, hX⟩ : ∃ X : ByteArray, X = ⟨(beB (2 ^ 1) x.toNat).toArray⟩ := ⟨_, rfl⟩
        obtain ⟨Y, hY⟩ : ∃ Y : ByteArray, Y = ⟨(beB (2 ^ 1) y.toNat).toArray⟩ := ⟨_, rfl⟩
        rw [← hX, ← hY] at hc
        rw [← hX] at HX
        rw [← hY] at HY
        obtain ⟨hc1, hc2, hc3⟩ := hc
        have hc1 : (X.size : Int) = 2 := hc1
        have HBW : Hid (∀ n, Below w.heap.size w (wr.drewN n)) := fun n => below_drewN HB.out n
        clear hX hY hx0 hy0 hx6 hy6 HB
        go_region_with (first | (go_at_call 8; first | (have _z := HX; refine (HX.out _).mono ?_; rintro e w1 ⟨v1, rfl, hrx, hBx⟩; clear HX; have hcx := cv_str hrx; try (replace hry := RdB.below hry hBx); try (have hcy := cv_str hry)) | (have _z := HY; refine (HY.out _).mono ?_; rintro e w2 ⟨v2, rfl, hry, hBy⟩; clear HY; have hcy := cv_str hry; try (replace hrx := RdB.below hrx hBy); try (have hcx := cv_str hrx))))
        all_goals
          cases hd : decide (x < y) <;> cases he : (x == y)
          all_goals
            rw [hd] at hc2
            rw [he] at hc3
            go_wp2_with fail
            go_roundw
            case rel => exact ⟨1 + 1, by omega, by go_num, by first | exact below2 (HBW.out _) hBx hBy | exact below2 (HBW.out _) hBy hBx⟩
            case measure => simp [intOf]
      · have e1 := cut_2 a
        have e2 := cut_2 b
        go_wp2_with fail
        go_quiet (fail)
        go_wp2_with fail
        have HE1 : Hid (cutN 2 a = cutN 2 a) := rfl
        have HE2 : Hid (cutN 2 b = cutN 2 b) := rfl
        obtain ⟨x, hx⟩ : ∃ x, x = cutN 2 a := ⟨_, rfl⟩
        obtain ⟨y, hy⟩ : ∃ y, y = cutN 2 b := ⟨_, rfl⟩
        have hx0 : 0 ≤ x ∧ x.toNat < 256 ^ 4 := by rw [hx]; exact cutN_lt 2 a
        have hy0 : 0 ≤ y ∧ y.toNat < 256 ^ 4 := by rw [hy]; exact cutN_lt 2 b
        have hx6 : x < 18446744073709551616 := by rw [hx]; exact cutN_64 2 (by decide) a
        have hy6 : y < 18446744073709551616 := by rw [hy]; exact cutN_64 2 (by decide) b
        have HX := Lib.hid (put_s 2 (by decide) x hx0.1 hx6)
        have HY := Lib.hid (put_s 2 (by decide) y hy0.1 hy6)
        have hc := be_cmp 2 x y hx0 hy0
        rw [← hx, ← hy]
        clear hx hy e1 e2 HE1 HE2
        obtain ⟨X, hX⟩ : ∃ X : ByteArray, X = ⟨(beB (2 ^ 2) x.toNat).toArray⟩ := ⟨_, rfl⟩
        obtain ⟨Y, hY⟩ : ∃ Y : ByteArray, Y = ⟨(beB (2 ^ 2) y.toNat).toArray⟩ := ⟨_, rfl⟩
        rw [← hX, ← hY] at hc
        rw [← hX] at HX
        rw [← hY] at HY
        obtain ⟨hc1, hc2, hc3⟩ := hc
        have hc1 : (X.size : Int) = 4 := hc1
        have HBW : Hid (∀ n, Below w.heap.size w (wr.drewN n)) := fun n => below_drewN HB.out n
        clear hX hY hx0 hy0 hx6 hy6 HB
        go_region_with (first | (go_at_call 8; first | (have _z := HX; refine (HX.out _).mono ?_; rintro e w1 ⟨v1, rfl, hrx, hBx⟩; clear HX; have hcx := cv_str hrx; try (replace hry := RdB.below hry hBx); try (have hcy := cv_str hry)) | (have _z := HY; refine (HY.out _).mono ?_; rintro e w2 ⟨v2, rfl, hry, hBy⟩; clear HY; have hcy := cv_str hry; try (replace hrx := RdB.below hrx hBy); try (have hcx := cv_str hrx))))
        all_goals
          cases hd : decide (x < y) <;> cases he : (x == y)
          all_goals
            rw [hd] at hc2
            rw [he] at hc3
            go_wp2_with fail
            go_roundw
            case rel => exact ⟨2 + 1, by omega, by go_num, by first | exact below2 (HBW.out _) hBx hBy | exact below2 (HBW.out _) hBy hBx⟩
            case measure => simp [intOf]
      · have e1 : cutN 3 a = a := (cut_3 a ha.1 ha.2).symm
        have e2 : cutN 3 b = b := (cut_3 b hb.1 hb.2).symm
        have HE1 := Lib.hid e1
        have HE2 := Lib.hid e2
        clear e1 e2
        go_wp2_with fail
        go_quiet (fail)
        go_wp2_with fail
        obtain ⟨x, hx⟩ : ∃ x, x = cutN 3 a := ⟨_, rfl⟩
        obtain ⟨y, hy⟩ : ∃ y, y = cutN 3 b := ⟨_, rfl⟩
        have hx0 : 0 ≤ x ∧ x.toNat < 256 ^ 8 := by rw [hx]; exact cutN_lt 3 a
        have hy0 : 0 ≤ y ∧ y.toNat < 256 ^ 8 := by rw [hy]; exact cutN_lt 3 b
        have hx6 : x < 18446744073709551616 := by rw [hx]; exact cutN_64 3 (by decide) a
        have hy6 : y < 18446744073709551616 := by rw [hy]; exact cutN_64 3 (by decide) b
        have HX := Lib.hid (put_s 3 (by decide) x hx0.1 hx6)
        have HY := Lib.hid (put_s 3 (by decide) y hy0.1 hy6)
        have hc := be_cmp 3 x y hx0 hy0
        rw [HE1.out] at hx
        rw [HE2.out] at hy
        subst hx hy
        clear HE1 HE2
        obtain ⟨X, hX⟩ : ∃ X : ByteArray, X = ⟨(beB (2 ^ 3) x.toNat).toArray⟩ := ⟨_, rfl⟩
        obtain ⟨Y, hY⟩ : ∃ Y : ByteArray, Y = ⟨(beB (2 ^ 3) y.toNat).toArray⟩ := ⟨_, rfl⟩
        rw [← hX, ← hY] at hc
        rw [← hX] at HX
        rw [← hY] at HY
        obtain ⟨hc1, hc2, hc3⟩ := hc
        have hc1 : (X.size : Int) = 8 := hc1
        have HBW : Hid (∀ n, Below w.heap.size w (wr.drewN n)) := fun n => below_drewN HB.out n
        clear hX hY hx0 hy0 hx6 hy6 HB
        go_region_with (first | (go_at_call 8; first | (have _z := HX; refine (HX.out _).mono ?_; rintro e w1 ⟨v1, rfl, hrx, hBx⟩; clear HX; have hcx := cv_str hrx; try (replace hry := RdB.below hry hBx); try (have hcy := cv_str hry)) | (have _z := HY; refine (HY.out _).mono ?_; rintro e w2 ⟨v2, rfl, hry, hBy⟩; clear HY; have hcy := cv_str hry; try (replace hrx := RdB.below hrx hBy); try (have hcx := cv_str hrx))))
        all_goals
          cases hd : decide (x < y) <;> cases he : (x == y)
          all_goals
            rw [hd] at hc2
            rw [he] at hc3
            go_wp2_with fail
            go_roundw
            case rel => exact ⟨3 + 1, by omega, by go_num, by first | exact below2 (HBW.out _) hBx hBy | exact below2 (HBW.out _) hBy hBx⟩
            case measure => simp [intOf]
    · obtain rfl : k = 4 := by omega
      go_wp2_with fail
      refine (works_any _ (hE.below HB.out)).mono ?_
      rintro e w2 ⟨rfl, hB⟩
      go_wp2_with fail
      go_ret
      exact ⟨rfl, trans' HB.out hB⟩
end Go.Proofs.YtbnnemiiodhjbaaDoor
