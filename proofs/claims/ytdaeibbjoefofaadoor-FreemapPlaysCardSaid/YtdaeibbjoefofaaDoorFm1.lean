/- Words of sixty-four bits: which bits they hold, how many, and the lowest one. Plain. -/
import Derived.Laws.Bits64b
import Derived.Laws.BitsAllLaws
import Derived.Lib.BitFns
import Derived.Lib.TrailingZeros
namespace Go.Proofs.YtdaeibbjoefofaaDoor
set_option linter.unusedVariables false
set_option linter.unusedSimpArgs false

/-- The number whose first k bits are T's. -/
def mkW : (Nat → Bool) → Nat → Nat
  | _, 0 => 0
  | T, k + 1 => (T 0).toNat + 2 * mkW (fun i => T (i + 1)) k
/-- How many of the first k are so. -/
def cnt : (Nat → Bool) → Nat → Nat
  | _, 0 => 0
  | T, k + 1 => (T 0).toNat + cnt (fun i => T (i + 1)) k
theorem toNat_le1 (b : Bool) : b.toNat ≤ 1 := by cases b <;> decide
theorem mkW_lt : ∀ (k : Nat) (T : Nat → Bool), mkW T k < 2 ^ k
  | 0, _ => by simp [mkW]
  | k + 1, T => by
    have := mkW_lt k (fun i => T (i + 1))
    have := toNat_le1 (T 0)
    rw [mkW, Nat.pow_succ]
    omega
theorem mkW_test : ∀ (k : Nat) (T : Nat → Bool) (i : Nat), (mkW T k).testBit i = (decide (i < k) && T i)
  | 0, T, i => by simp [mkW]
  | k + 1, T, 0 => by
    rw [mkW, Nat.testBit_zero]
    cases T 0 <;> simp <;> omega
  | k + 1, T, i + 1 => by
    have e : (mkW T (k + 1)) / 2 = mkW (fun i => T (i + 1)) k := by
      have := toNat_le1 (T 0)
      rw [mkW]
      omega
    rw [Nat.testBit_succ, e, mkW_test k _ i]
    simp
theorem mkW_pop : ∀ (k : Nat) (T : Nat → Bool), Lib.popAux k (mkW T k) = cnt T k
  | 0, _ => rfl
  | k + 1, T => by
    have h1 := toNat_le1 (T 0)
    have e1 : (mkW T (k + 1)) % 2 = (T 0).toNat := by rw [mkW]; omega
    have e2 : (mkW T (k + 1)) / 2 = mkW (fun i => T (i + 1)) k := by rw [mkW]; omega
    rw [Lib.popAux, e1, e2, mkW_pop k, cnt]
theorem mkW_ext {k : Nat} {T S : Nat → Bool} (h : ∀ i, i < k → T i = S i) : mkW T k = mkW S k := by
  apply Nat.eq_of_testBit_eq
  intro i
  rw [mkW_test, mkW_test]
  by_cases e : i < k
  · rw [h i e]
  · simp [e]
theorem mkW_of {k x : Nat} (h : x < 2 ^ k) : mkW (fun i => x.testBit i) k = x := by
  apply Nat.eq_of_testBit_eq
  intro i
  rw [mkW_test]
  by_cases e : i < k
  · simp [e]
  · rw [Nat.testBit_lt_two_pow (Nat.lt_of_lt_of_le h (Nat.pow_le_pow_right (by omega) (by omega)))]
    simp [e]

/-- Bytes of a number. -/
theorem and_split (a c d e : Nat) (ha : a < 256) (hd : d < 256) : (a + 256 * c) &&& (d + 256 * e) = (a &&& d) + 256 * (c &&& e) := by
  apply Nat.eq_of_testBit_eq
  intro i
  have hk : a &&& d < 2 ^ 8 := Nat.and_lt_two_pow _ (by omega)
  rw [Nat.testBit_and]
  have e1 : ∀ (x y : Nat), x < 256 → (x + 256 * y).testBit i = if i < 8 then x.testBit i else y.testBit (i - 8) := by
    intro x y hx
    have := Nat.testBit_two_pow_mul_add (i := 8) (b := x) y (by omega) i
    rw [show 2 ^ 8 * y + x = x + 256 * y by omega] at this
    exact this
  rw [e1 a c ha, e1 d e hd, e1 (a &&& d) (c &&& e) (by omega)]
  by_cases h : i < 8
  · simp [h]
  · simp [h]

def pf1 (b : Nat) : Nat := ((b / 2) &&& 0x55) + (b &&& 0x55)
def pf2 (b : Nat) : Nat := ((b / 4) &&& 0x33) + (b &&& 0x33)
theorem pf1_byte : ∀ (b : Fin 256) (y : Fin 2), ((b.val / 2 + 128 * y.val) &&& 0x55) + (b.val &&& 0x55) = pf1 b.val ∧ pf1 b.val < 256 := by decide +kernel
theorem pf2_byte : ∀ (b : Fin 256) (y : Fin 4), ((b.val / 4 + 64 * y.val) &&& 0x33) + (b.val &&& 0x33) = pf2 b.val ∧ pf2 b.val < 256 := by decide +kernel
theorem pf3_byte : ∀ (b : Fin 256) (y : Fin 5), (pf2 (pf1 b.val) / 16 + 16 * y.val + pf2 (pf1 b.val)) < 256 ∧ ((pf2 (pf1 b.val) / 16 + 16 * y.val + pf2 (pf1 b.val)) &&& 0x0F) = Lib.popAux 8 b.val ∧ Lib.popAux 8 b.val ≤ 8 ∧ pf2 (pf1 b.val) % 16 < 5 := by decide +kernel

/-- The masks, byte by byte. -/
def rep (m : Nat) : Nat → Nat
  | 0 => 0
  | k + 1 => m + 256 * rep m k
def byt (x : Nat) : Nat → List Nat
  | 0 => []
  | k + 1 => (x % 256) :: byt (x / 256) k
def unb : List Nat → Nat
  | [] => 0
  | b :: l => b + 256 * unb l
theorem unb_byt : ∀ (k x : Nat), x < 256 ^ k → unb (byt x k) = x
  | 0, x, h => by simp at h; simp [byt, unb, h]
  | k + 1, x, h => by
    rw [byt, unb, unb_byt k (x / 256) (by rw [Nat.pow_succ] at h; omega)]
    omega
theorem byt_lt : ∀ (k x : Nat), ∀ b ∈ byt x k, b < 256
  | 0, x, b, h => by cases h
  | k + 1, x, b, h => by
    rw [byt] at h
    rcases List.mem_cons.1 h with rfl | h
    · omega
    · exact byt_lt k _ b h
theorem byt_len : ∀ (k x : Nat), (byt x k).length = k
  | 0, x => rfl
  | k + 1, x => by rw [byt, List.length_cons, byt_len k]
theorem stage1 : ∀ (l : List Nat), (∀ b ∈ l, b < 256) → ((unb l / 2) &&& rep 0x55 l.length) + (unb l &&& rep 0x55 l.length) = unb (l.map pf1)
  | [], _ => by simp [unb, rep]
  | b :: l, h => by
    have hb := h b (List.mem_cons_self ..)
    have ih := stage1 l fun z hz => h z (List.mem_cons_of_mem _ hz)
    have e : (b + 256 * unb l) / 2 = (b / 2 + 128 * (unb l % 2)) + 256 * (unb l / 2) := by omega
    have f := (pf1_byte ⟨b, hb⟩ ⟨unb l % 2, by omega⟩).1
    simp only [unb, List.length_cons, rep, List.map_cons]
    rw [e, and_split _ _ _ _ (by omega) (by omega), and_split _ _ _ _ hb (by omega)]
    simp only at f
    omega
theorem stage2 : ∀ (l : List Nat), (∀ b ∈ l, b < 256) → ((unb l / 4) &&& rep 0x33 l.length) + (unb l &&& rep 0x33 l.length) = unb (l.map pf2)
  | [], _ => by simp [unb, rep]
  | b :: l, h => by
    have hb := h b (List.mem_cons_self ..)
    have ih := stage2 l fun z hz => h z (List.mem_cons_of_mem _ hz)
    have e : (b + 256 * unb l) / 4 = (b / 4 + 64 * (unb l % 4)) + 256 * (unb l / 4) := by omega
    have f := (pf2_byte ⟨b, hb⟩ ⟨unb l % 4, by omega⟩).1
    simp only [unb, List.length_cons, rep, List.map_cons]
    rw [e, and_split _ _ _ _ (by omega) (by omega), and_split _ _ _ _ hb (by omega)]
    simp only at f
    omega
theorem unb_low : ∀ (l : List Nat), (∀ b ∈ l, b < 256) → unb (l.map fun b => pf2 (pf1 b)) % 16 < 5
  | [], _ => by simp [unb]
  | b :: l, h => by
    have hb := h b (List.mem_cons_self ..)
    have f := (pf3_byte ⟨b, hb⟩ 0).2.2.2
    simp only [List.map_cons, unb]
    simp only at f
    omega
theorem stage3 : ∀ (l : List Nat), (∀ b ∈ l, b < 256) → ((unb (l.map fun b => pf2 (pf1 b)) / 16 + unb (l.map fun b => pf2 (pf1 b))) &&& rep 0x0F l.length) = unb (l.map fun b => Lib.popAux 8 b)
  | [], _ => by simp [unb, rep]
  | b :: l, h => by
    have hb := h b (List.mem_cons_self ..)
    have h' : ∀ z ∈ l, z < 256 := fun z hz => h z (List.mem_cons_of_mem _ hz)
    have ih := stage3 l h'
    have lo := unb_low l h'
    simp only [List.map_cons, unb, List.length_cons, rep]
    generalize unb (l.map fun b => pf2 (pf1 b)) = Y at *
    obtain ⟨f1, f2, f3, f4⟩ := pf3_byte ⟨b, hb⟩ ⟨Y % 16, lo⟩
    simp only at f1 f2 f3 f4
    have e : (pf2 (pf1 b) + 256 * Y) / 16 + (pf2 (pf1 b) + 256 * Y) = (pf2 (pf1 b) / 16 + 16 * (Y % 16) + pf2 (pf1 b)) + 256 * (Y / 16 + Y) := by omega
    rw [e, and_split _ _ _ _ f1 (by omega), f2, ih]
theorem pop_split (b y : Nat) (k : Nat) (hb : b < 256) : Lib.popAux (8 + k) (b + 256 * y) = Lib.popAux 8 b + Lib.popAux k y := by
  rw [show 8 + k = k + 1 + 1 + 1 + 1 + 1 + 1 + 1 + 1 by omega, show (8 : Nat) = 0 + 1 + 1 + 1 + 1 + 1 + 1 + 1 + 1 from rfl]
  simp only [Lib.popAux]
  have e : (b + 256 * y) / 2 / 2 / 2 / 2 / 2 / 2 / 2 / 2 = y := by omega
  rw [e]
  omega
theorem pop_sum : ∀ (l : List Nat), (∀ b ∈ l, b < 256) → Lib.popAux (8 * l.length) (unb l) = (l.map fun b => Lib.popAux 8 b).sum
  | [], _ => rfl
  | b :: l, h => by
    have hb := h b (List.mem_cons_self ..)
    have ih := pop_sum l fun z hz => h z (List.mem_cons_of_mem _ hz)
    rw [unb, List.length_cons, show 8 * (l.length + 1) = 8 + 8 * l.length by omega, pop_split _ _ _ hb, ih, List.map_cons, List.sum_cons]
theorem div256 (p y : Nat) (h : p < 256) : (p + 256 * y) / 256 = y := by omega
theorem div65536 (p q y : Nat) (h : p < 256) (h2 : q < 256) : (p + 256 * (q + 256 * y)) / 65536 = y := by omega
theorem div4294967296 (p q r s y : Nat) (h : p < 256) (h2 : q < 256) (h3 : r < 256) (h4 : s < 256) : (p + 256 * (q + 256 * (r + 256 * (s + 256 * y)))) / 4294967296 = y := by omega
theorem lin1 (p0 p1 p2 p3 p4 p5 p6 p7 : Nat) : (p0 + 256 * (p1 + 256 * (p2 + 256 * (p3 + 256 * (p4 + 256 * (p5 + 256 * (p6 + 256 * (p7)))))))) + (p1 + 256 * (p2 + 256 * (p3 + 256 * (p4 + 256 * (p5 + 256 * (p6 + 256 * (p7))))))) = (p0 + p1) + 256 * ((p1 + p2) + 256 * ((p2 + p3) + 256 * ((p3 + p4) + 256 * ((p4 + p5) + 256 * ((p5 + p6) + 256 * ((p6 + p7) + 256 * ((p7)))))))) := by omega
theorem lin2 (p0 p1 p2 p3 p4 p5 p6 p7 : Nat) : ((p0 + p1) + 256 * ((p1 + p2) + 256 * ((p2 + p3) + 256 * ((p3 + p4) + 256 * ((p4 + p5) + 256 * ((p5 + p6) + 256 * ((p6 + p7) + 256 * ((p7))))))))) + ((p2 + p3) + 256 * ((p3 + p4) + 256 * ((p4 + p5) + 256 * ((p5 + p6) + 256 * ((p6 + p7) + 256 * ((p7))))))) = (p0 + p1 + p2 + p3) + 256 * ((p1 + p2 + p3 + p4) + 256 * ((p2 + p3 + p4 + p5) + 256 * ((p3 + p4 + p5 + p6) + 256 * ((p4 + p5 + p6 + p7) + 256 * ((p5 + p6 + p7) + 256 * ((p6 + p7) + 256 * ((p7)))))))) := by omega
theorem lin3 (p0 p1 p2 p3 p4 p5 p6 p7 : Nat) : ((p0 + p1 + p2 + p3) + 256 * ((p1 + p2 + p3 + p4) + 256 * ((p2 + p3 + p4 + p5) + 256 * ((p3 + p4 + p5 + p6) + 256 * ((p4 + p5 + p6 + p7) + 256 * ((p5 + p6 + p7) + 256 * ((p6 + p7) + 256 * ((p7))))))))) + ((p4 + p5 + p6 + p7) + 256 * ((p5 + p6 + p7) + 256 * ((p6 + p7) + 256 * ((p7))))) = (p0 + p1 + p2 + p3 + p4 + p5 + p6 + p7) + 256 * ((p1 + p2 + p3 + p4 + p5 + p6 + p7) + 256 * ((p2 + p3 + p4 + p5 + p6 + p7) + 256 * ((p3 + p4 + p5 + p6 + p7) + 256 * ((p4 + p5 + p6 + p7) + 256 * ((p5 + p6 + p7) + 256 * ((p6 + p7) + 256 * ((p7)))))))) := by omega
theorem fin8 (q0 q1 q2 q3 q4 q5 q6 q7 : Nat) (h0 : q0 ≤ 64) (h1 : q1 ≤ 64) (h2 : q2 ≤ 64) (h3 : q3 ≤ 64) (h4 : q4 ≤ 64) (h5 : q5 ≤ 64) (h6 : q6 ≤ 64) (h7 : q7 ≤ 64) : (q0 + 256 * (q1 + 256 * (q2 + 256 * (q3 + 256 * (q4 + 256 * (q5 + 256 * (q6 + 256 * (q7)))))))) < 9223372036854775808 ∧ (q0 + 256 * (q1 + 256 * (q2 + 256 * (q3 + 256 * (q4 + 256 * (q5 + 256 * (q6 + 256 * (q7)))))))) % 128 = q0 := by
  constructor <;> omega
set_option maxHeartbeats 1000000 in
/-- The sum of eight small bytes. -/
theorem stage4 (p0 p1 p2 p3 p4 p5 p6 p7 x a b c : Nat) (h0 : p0 ≤ 8) (h1 : p1 ≤ 8) (h2 : p2 ≤ 8) (h3 : p3 ≤ 8) (h4 : p4 ≤ 8) (h5 : p5 ≤ 8) (h6 : p6 ≤ 8) (h7 : p7 ≤ 8)
    (hx : x = p0 + 256 * (p1 + 256 * (p2 + 256 * (p3 + 256 * (p4 + 256 * (p5 + 256 * (p6 + 256 * (p7))))))))
    (ha : a = x + x / 256) (hb : b = a + a / 65536) (hc : c = b + b / 4294967296) : c < 9223372036854775808 ∧ a < 9223372036854775808 ∧ b < 9223372036854775808 ∧ c % 128 = p0 + p1 + p2 + p3 + p4 + p5 + p6 + p7 := by
  have d1 : x / 256 = p1 + 256 * (p2 + 256 * (p3 + 256 * (p4 + 256 * (p5 + 256 * (p6 + 256 * (p7)))))) := by rw [hx]; exact div256 _ _ (by clear hx ha hb hc; omega)
  have e1 : a = (p0 + p1) + 256 * ((p1 + p2) + 256 * ((p2 + p3) + 256 * ((p3 + p4) + 256 * ((p4 + p5) + 256 * ((p5 + p6) + 256 * ((p6 + p7) + 256 * ((p7)))))))) := by rw [ha, d1, hx]; exact lin1 _ _ _ _ _ _ _ _
  clear hx ha d1
  have d2 : a / 65536 = (p2 + p3) + 256 * ((p3 + p4) + 256 * ((p4 + p5) + 256 * ((p5 + p6) + 256 * ((p6 + p7) + 256 * ((p7)))))) := by rw [e1]; exact div65536 _ _ _ (by clear e1 hb hc; omega) (by clear e1 hb hc; omega)
  have e2 : b = (p0 + p1 + p2 + p3) + 256 * ((p1 + p2 + p3 + p4) + 256 * ((p2 + p3 + p4 + p5) + 256 * ((p3 + p4 + p5 + p6) + 256 * ((p4 + p5 + p6 + p7) + 256 * ((p5 + p6 + p7) + 256 * ((p6 + p7) + 256 * ((p7)))))))) := by rw [hb, d2, e1]; exact lin2 _ _ _ _ _ _ _ _
  clear hb d2
  have d3 : b / 4294967296 = (p4 + p5 + p6 + p7) + 256 * ((p5 + p6 + p7) + 256 * ((p6 + p7) + 256 * ((p7)))) := by rw [e2]; exact div4294967296 _ _ _ _ _ (by clear e1 e2 hc; omega) (by clear e1 e2 hc; omega) (by clear e1 e2 hc; omega) (by clear e1 e2 hc; omega)
  have e3 : c = (p0 + p1 + p2 + p3 + p4 + p5 + p6 + p7) + 256 * ((p1 + p2 + p3 + p4 + p5 + p6 + p7) + 256 * ((p2 + p3 + p4 + p5 + p6 + p7) + 256 * ((p3 + p4 + p5 + p6 + p7) + 256 * ((p4 + p5 + p6 + p7) + 256 * ((p5 + p6 + p7) + 256 * ((p6 + p7) + 256 * ((p7)))))))) := by rw [hc, d3, e2]; exact lin3 _ _ _ _ _ _ _ _
  clear hc d3
  subst e1 e2 e3
  refine ⟨(fin8 _ _ _ _ _ _ _ _ ?_ ?_ ?_ ?_ ?_ ?_ ?_ ?_).1, (fin8 _ _ _ _ _ _ _ _ ?_ ?_ ?_ ?_ ?_ ?_ ?_ ?_).1, (fin8 _ _ _ _ _ _ _ _ ?_ ?_ ?_ ?_ ?_ ?_ ?_ ?_).1, (fin8 _ _ _ _ _ _ _ _ ?_ ?_ ?_ ?_ ?_ ?_ ?_ ?_).2⟩ <;> omega
theorem rep55 : rep 0x55 8 = 6148914691236517205 := by decide
theorem rep33 : rep 0x33 8 = 3689348814741910323 := by decide
theorem rep0f : rep 0x0F 8 = 1085102592571150095 := by decide
theorem list8 : ∀ (l : List Nat), l.length = 8 → ∃ b0 b1 b2 b3 b4 b5 b6 b7, l = [b0, b1, b2, b3, b4, b5, b6, b7]
  | [b0, b1, b2, b3, b4, b5, b6, b7], _ => ⟨b0, b1, b2, b3, b4, b5, b6, b7, rfl⟩
theorem pf12_le : ∀ b : Fin 256, pf2 (pf1 b.val) ≤ 0x44 := by decide +kernel
theorem byt_ex (x : Nat) (hx : x < 18446744073709551616) : ∃ b0 b1 b2 b3 b4 b5 b6 b7, unb [b0, b1, b2, b3, b4, b5, b6, b7] = x ∧ ∀ b ∈ [b0, b1, b2, b3, b4, b5, b6, b7], b < 256 := by
  have hl := byt_lt 8 x
  have hu := unb_byt 8 x (by omega)
  obtain ⟨b0, b1, b2, b3, b4, b5, b6, b7, e⟩ := list8 _ (byt_len 8 x)
  rw [e] at hl hu
  exact ⟨b0, b1, b2, b3, b4, b5, b6, b7, hu, hl⟩
set_option maxHeartbeats 2000000 in
/-- How many bits are set, as the library reckons it. -/
theorem ones_eq (x : Nat) (hx : x < 18446744073709551616) (x1 x2 x3 x4 x5 x6 : Nat)
    (h1 : x1 = ((x / 2) &&& 6148914691236517205) + (x &&& 6148914691236517205)) (h2 : x2 = ((x1 / 4) &&& 3689348814741910323) + (x1 &&& 3689348814741910323))
    (h3 : x3 = (x2 / 16 + x2) &&& 1085102592571150095) (h4 : x4 = x3 + x3 / 256) (h5 : x5 = x4 + x4 / 65536) (h6 : x6 = x5 + x5 / 4294967296) :
    x1 < 18446744073709551616 ∧ x2 < 18446744073709551616 ∧ x2 / 16 + x2 < 18446744073709551616 ∧ x3 < 18446744073709551616 ∧ x4 < 18446744073709551616 ∧ x5 < 18446744073709551616 ∧ x6 < 9223372036854775808 ∧ x6 % 128 = Lib.popAux 64 x ∧ Lib.popAux 64 x ≤ 64 := by
  obtain ⟨b0, b1, b2, b3, b4, b5, b6, b7, hu, hl⟩ := byt_ex x hx
  have q := fun b (hb : b < 256) => pf3_byte ⟨b, hb⟩ 0
  have r1 := fun b (hb : b < 256) => (pf1_byte ⟨b, hb⟩ 0).2
  have r2 := fun b (hb : b < 256) => (pf2_byte ⟨b, hb⟩ 0).2
  simp only at q r1 r2
  have s1 := stage1 _ hl
  rw [hu, show [b0, b1, b2, b3, b4, b5, b6, b7].length = 8 from rfl, rep55, ← h1] at s1
  have hl1 : ∀ b ∈ [b0, b1, b2, b3, b4, b5, b6, b7].map pf1, b < 256 := by
    intro b hb
    obtain ⟨z, hz, rfl⟩ := List.mem_map.1 hb
    exact r1 z (hl z hz)
  have s2 := stage2 _ hl1
  rw [← s1, show ([b0, b1, b2, b3, b4, b5, b6, b7].map pf1).length = 8 from rfl, rep33, ← h2, List.map_map] at s2
  have s3 := stage3 _ hl
  rw [show ([b0, b1, b2, b3, b4, b5, b6, b7].map fun b => pf2 (pf1 b)) = [b0, b1, b2, b3, b4, b5, b6, b7].map (pf2 ∘ pf1) from rfl, ← s2, show [b0, b1, b2, b3, b4, b5, b6, b7].length = 8 from rfl, rep0f, ← h3] at s3
  have s4 := pop_sum _ hl
  rw [hu] at s4
  have hm : ∀ b ∈ [b0, b1, b2, b3, b4, b5, b6, b7], b < 256 := hl
  simp only [List.mem_cons, List.not_mem_nil, or_false, forall_eq_or_imp, forall_eq] at hm
  obtain ⟨m0, m1, m2, m3, m4, m5, m6, m7⟩ := hm
  obtain ⟨-, -, a0, -⟩ := q b0 m0
  obtain ⟨-, -, a1, -⟩ := q b1 m1
  obtain ⟨-, -, a2, -⟩ := q b2 m2
  obtain ⟨-, -, a3, -⟩ := q b3 m3
  obtain ⟨-, -, a4, -⟩ := q b4 m4
  obtain ⟨-, -, a5, -⟩ := q b5 m5
  obtain ⟨-, -, a6, -⟩ := q b6 m6
  obtain ⟨-, -, a7, -⟩ := q b7 m7
  have s3' : x3 = Lib.popAux 8 b0 + 256 * (Lib.popAux 8 b1 + 256 * (Lib.popAux 8 b2 + 256 * (Lib.popAux 8 b3 + 256 * (Lib.popAux 8 b4 + 256 * (Lib.popAux 8 b5 + 256 * (Lib.popAux 8 b6 + 256 * Lib.popAux 8 b7)))))) := by
    rw [s3]
    simp only [List.map_cons, List.map_nil, unb]
    omega
  have s4' : Lib.popAux 64 x = Lib.popAux 8 b0 + Lib.popAux 8 b1 + Lib.popAux 8 b2 + Lib.popAux 8 b3 + Lib.popAux 8 b4 + Lib.popAux 8 b5 + Lib.popAux 8 b6 + Lib.popAux 8 b7 := by
    rw [show (64 : Nat) = 8 * [b0, b1, b2, b3, b4, b5, b6, b7].length from rfl, s4]
    simp only [List.map_cons, List.map_nil, List.sum_cons, List.sum_nil]
    omega
  obtain ⟨t1, t2, t3, t4⟩ := stage4 _ _ _ _ _ _ _ _ x3 x4 x5 x6 a0 a1 a2 a3 a4 a5 a6 a7 s3' h4 h5 h6
  have l1 : x1 < 18446744073709551616 := by
    have f0 := r1 b0 m0; have f1 := r1 b1 m1; have f2 := r1 b2 m2; have f3 := r1 b3 m3; have f4 := r1 b4 m4; have f5 := r1 b5 m5; have f6 := r1 b6 m6; have f7 := r1 b7 m7
    rw [s1]
    simp only [List.map_cons, List.map_nil, unb]
    omega
  have w2 := pf12_le
  have l2 : x2 ≤ 0x4444444444444444 := by
    have f0 := w2 ⟨b0, m0⟩; have f1 := w2 ⟨b1, m1⟩; have f2 := w2 ⟨b2, m2⟩; have f3 := w2 ⟨b3, m3⟩; have f4 := w2 ⟨b4, m4⟩; have f5 := w2 ⟨b5, m5⟩; have f6 := w2 ⟨b6, m6⟩; have f7 := w2 ⟨b7, m7⟩
    simp only at f0 f1 f2 f3 f4 f5 f6 f7
    rw [s2]
    simp only [List.map_cons, List.map_nil, unb, Function.comp]
    omega
  refine ⟨l1, by omega, by omega, by omega, by omega, by omega, t1, by rw [t4, s4'], by rw [s4']; omega⟩
end Go.Proofs.YtdaeibbjoefofaaDoor
