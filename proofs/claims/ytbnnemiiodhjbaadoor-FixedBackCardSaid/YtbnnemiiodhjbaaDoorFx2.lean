/- The law's is, num, put. -/
import Derived.Test.YtbnnemiiodhjbaaDoorFx1
import Derived.Test.YtbnnemiiodhjbaaDoorTo3f
import Derived.Test.YtbnnemiiodhjbaaDoorA16
import Derived.Test.YtbnnemiiodhjbaaDoorC
namespace Go.Proofs.YtbnnemiiodhjbaaDoor
open Go.RowKit
set_option linter.unusedVariables false
set_option linter.unusedSimpArgs false

theorem is_any (v : Value) (c t : Int) (w : World) (h : ErrIs w v c t) (hE : EtP w) : Calls Tryd.prog 18 #[v, .agg #[.int .i64 c, .int .i64 t]] w fun e w' => e = .returned (.bool true) ∧ Below w.heap.size w w' := by
  rcases h with ⟨rfl, rfl, rfl⟩ | ⟨hc, a, rfl, h0, h1⟩
  · exact told_nil 0 0 w
  · exact told_yes a c t w (by rw [beq_eq_false_iff_ne]; exact hc) h0 h1 hE

set_option maxRecDepth 100000 in
set_option maxHeartbeats 2000000 in
theorem num1 {B p : Nat} {q : ByteArray} {t : Int} {w0 w : World} (HB : Below B w0 w) (hp : B ≤ p) (hr : Rdr w p q t) : Calls Tryd.prog 23 #[.pointer (some ⟨p, 0, none⟩), .int .i64 1] w (NumP 1 B p q t w0 w (.int .u64 0) (.int .u64 (be1 q))) := by
  have hb := be1_bounds q
  have HC := Lib.hid (U8_all HB hp hr)
  clear HB hr
  go_enter Tryd.func23, Tryd.ntmps23
  go_wp2_with fail
  refine HC.out.mono ?_
  rintro e w1 (⟨hs, a, rfl, hf, hr2, hg, HB2⟩ | ⟨hs, rfl, hr2, hg, HB2⟩)
  · go_wp2_with fail
    go_ret2
    exact .inl ⟨hs, a, rfl, hf, hr2, hg, HB2⟩
  · go_wp2_with fail
    go_ret2
    exact .inr ⟨hs, rfl, hr2, hg, HB2⟩
set_option maxRecDepth 100000 in
set_option maxHeartbeats 2000000 in
theorem num2 {B p : Nat} {q : ByteArray} {t : Int} {w0 w : World} (HB : Below B w0 w) (hp : B ≤ p) (hr : Rdr w p q t) : Calls Tryd.prog 23 #[.pointer (some ⟨p, 0, none⟩), .int .i64 2] w (NumP 2 B p q t w0 w (.int .u64 0) (.int .u64 (be2 q))) := by
  have hb := be2_bounds q
  have HC := Lib.hid (U16_all HB hp hr)
  clear HB hr
  go_enter Tryd.func23, Tryd.ntmps23
  go_wp2_with fail
  refine HC.out.mono ?_
  rintro e w1 (⟨hs, a, rfl, hf, hr2, hg, HB2⟩ | ⟨hs, rfl, hr2, hg, HB2⟩)
  · go_wp2_with fail
    go_ret2
    exact .inl ⟨hs, a, rfl, hf, hr2, hg, HB2⟩
  · go_wp2_with fail
    go_ret2
    exact .inr ⟨hs, rfl, hr2, hg, HB2⟩
set_option maxRecDepth 100000 in
set_option maxHeartbeats 2000000 in
theorem num4 {B p : Nat} {q : ByteArray} {t : Int} {w0 w : World} (HB : Below B w0 w) (hp : B ≤ p) (hr : Rdr w p q t) : Calls Tryd.prog 23 #[.pointer (some ⟨p, 0, none⟩), .int .i64 4] w (NumP 4 B p q t w0 w (.int .u64 0) (.int .u64 (be4 q))) := by
  have hb := be4_bounds q
  have HC := Lib.hid (U32_all HB hp hr)
  clear HB hr
  go_enter Tryd.func23, Tryd.ntmps23
  go_wp2_with fail
  refine HC.out.mono ?_
  rintro e w1 (⟨hs, a, rfl, hf, hr2, hg, HB2⟩ | ⟨hs, rfl, hr2, hg, HB2⟩)
  · go_wp2_with fail
    go_ret2
    exact .inl ⟨hs, a, rfl, hf, hr2, hg, HB2⟩
  · go_wp2_with fail
    go_ret2
    exact .inr ⟨hs, rfl, hr2, hg, HB2⟩
set_option maxRecDepth 100000 in
set_option maxHeartbeats 2000000 in
theorem num8 {B p : Nat} {q : ByteArray} {t : Int} {w0 w : World} (HB : Below B w0 w) (hp : B ≤ p) (hr : Rdr w p q t) : Calls Tryd.prog 23 #[.pointer (some ⟨p, 0, none⟩), .int .i64 8] w (NumP 8 B p q t w0 w (.int .u64 0) (.int .u64 (be8 q))) := by
  have HC := Lib.hid (U64_all HB hp hr)
  clear HB hr
  go_enter Tryd.func23, Tryd.ntmps23
  go_wp2_with fail
  refine HC.out.mono ?_
  rintro e w1 (⟨hs, a, rfl, hf, hr2, hg, HB2⟩ | ⟨hs, rfl, hr2, hg, HB2⟩)
  · go_wp2_with fail
    go_ret2
    exact .inl ⟨hs, a, rfl, hf, hr2, hg, HB2⟩
  · go_wp2_with fail
    go_ret2
    exact .inr ⟨hs, rfl, hr2, hg, HB2⟩
theorem if_num (n : Nat) (q : ByteArray) (b : Int) (h : n ≤ q.size → b = beN n q) : (Value.int .u64 (nmV n q)) = if q.size < n then .int .u64 0 else .int .u64 b := by
  unfold nmV
  by_cases c : q.size < n
  · rw [if_pos c, if_pos c]
  · rw [if_neg c, if_neg c, h (by omega)]
/-- A number of 1, 2, 4 or 8 bytes is read. -/
theorem num_any (k : Nat) (hk : k < 4) {B p : Nat} {q : ByteArray} {t : Int} {w0 w : World} (HB : Below B w0 w) (hp : B ≤ p) (hr : Rdr w p q t) : Calls Tryd.prog 23 #[.pointer (some ⟨p, 0, none⟩), .int .i64 ((2 ^ k : Nat) : Int)] w (RdP B p q t w0 w (.int .u64 (nmV (2 ^ k) q)) (nmC (2 ^ k) q) (nmL (2 ^ k) q)) := by
  rcases (show k = 0 ∨ k = 1 ∨ k = 2 ∨ k = 3 by omega) with rfl | rfl | rfl | rfl
  · exact (num1 HB hp hr).mono fun e w' h => h.rd (if_num 1 q _ (be1_eq q))
  · exact (num2 HB hp hr).mono fun e w' h => h.rd (if_num 2 q _ (be2_eq q))
  · exact (num4 HB hp hr).mono fun e w' h => h.rd (if_num 4 q _ (be4_eq q))
  · exact (num8 HB hp hr).mono fun e w' h => h.rd (if_num 8 q _ (be8_eq q))
theorem text_rd (most : Int) {B p : Nat} {q : ByteArray} {t : Int} {w0 w : World} (HB : Below B w0 w) (hp : B ≤ p) (hr : Rdr w p q t) : Calls Tryd.prog 15 #[.pointer (some ⟨p, 0, none⟩), .int .i64 most] w (RdP B p q t w0 w (.string (txV most q)) (tCode most q) (txL most q)) :=
  (Text_all HB hp hr).mono fun e w' h => h.rd

theorem beB_mod (k : Nat) : ∀ n, beB k (n % 256 ^ k) = beB k n := by
  induction k with
  | zero => intro n; rfl
  | succ k ih =>
    intro n
    unfold beB
    rw [← ih (n / 256), ← ih (n % 256 ^ (k + 1) / 256)]
    have h1 : n % 256 ^ (k + 1) / 256 % 256 ^ k = n / 256 % 256 ^ k := by
      rw [Nat.pow_succ, Nat.mul_comm, Nat.mod_mul_right_div_self, Nat.mod_mod]
    have h2 : n % 256 ^ (k + 1) % 256 = n % 256 := by
      rw [Nat.pow_succ, Nat.mul_comm, Nat.mod_mul_right_mod]
    rw [h1, h2]
set_option maxRecDepth 100000 in
set_option maxHeartbeats 2000000 in
/-- A number is laid behind bytes. -/
theorem put_any (k : Nat) (hk : k < 4) (v : Value) (l : List UInt8) (n : Int) (w : World) (hv : RdB w v l) (h0 : 0 ≤ n) (h1 : n < 18446744073709551616) (hl : l.length < 1000000) :
    Calls Tryd.prog 8 #[v, .int .u64 n, .int .i64 ((2 ^ k : Nat) : Int)] w fun e w' => ∃ v1, e = .returned v1 ∧ w'.ownsRow w.heap.size 5 1 v1 (l ++ beB (2 ^ k) n.toNat).length (bv (l ++ beB (2 ^ k) n.toNat)) ∧ Below w.heap.size w w' := by
  rcases (show k = 0 ∨ k = 1 ∨ k = 2 ∨ k = 3 by omega) with rfl | rfl | rfl | rfl
  · have he : beB (2 ^ 0) n.toNat = beB 1 (n % 256).toNat := by
      rw [show (n % 256).toNat = n.toNat % 256 ^ 1 by omega, beB_mod]
    rw [he]
    go_enter Tryd.func8, Tryd.ntmps8
    go_wp2_with fail
    refine (P8_any _ l _ _ hv (by omega) (by omega) hl).mono ?_
    rintro e w' ⟨v1, rfl, hown, hB⟩
    go_wp2_with fail
    go_ret
    exact ⟨v1, rfl, hown, hB⟩
  · have he : beB (2 ^ 1) n.toNat = beB 2 (n % 65536).toNat := by
      rw [show (n % 65536).toNat = n.toNat % 256 ^ 2 by omega, beB_mod]
    rw [he]
    go_enter Tryd.func8, Tryd.ntmps8
    go_wp2_with fail
    rw [IntKind.wrap_u16]
    refine (P16_any _ l _ _ hv (by omega) (by omega) hl).mono ?_
    rintro e w' ⟨v1, rfl, hown, hB⟩
    go_wp2_with fail
    go_ret
    exact ⟨v1, rfl, hown, hB⟩
  · have he : beB (2 ^ 2) n.toNat = beB 4 (n % 4294967296).toNat := by
      rw [show (n % 4294967296).toNat = n.toNat % 256 ^ 4 by omega, beB_mod]
    rw [he]
    go_enter Tryd.func8, Tryd.ntmps8
    go_wp2_with fail
    refine (P32_any _ l _ _ hv (by omega) (by omega) hl).mono ?_
    rintro e w' ⟨v1, rfl, hown, hB⟩
    go_wp2_with fail
    go_ret
    exact ⟨v1, rfl, hown, hB⟩
  · go_enter Tryd.func8, Tryd.ntmps8
    go_wp2_with fail
    refine (P64_any _ l _ _ hv (by omega) (by omega) hl).mono ?_
    rintro e w' ⟨v1, rfl, hown, hB⟩
    go_wp2_with fail
    go_ret
    exact ⟨v1, rfl, hown, hB⟩
end Go.Proofs.YtbnnemiiodhjbaaDoor
