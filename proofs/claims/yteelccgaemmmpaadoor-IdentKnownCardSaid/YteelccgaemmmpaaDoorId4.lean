/- Labels and seats: the small functions. -/
import Derived.Test.YteelccgaemmmpaaDoorId3
namespace Go.Proofs.YteelccgaemmmpaaDoor
open Go.RowKit
set_option linter.unusedVariables false
set_option linter.unusedSimpArgs false

theorem two_str (W : World) (x y : Int) (hx : 0 ≤ x ∧ x < 256) (hy : 0 ≤ y ∧ y < 256) : (convert 22 9 (.slice (some ⟨W.heap.size, 0, none⟩) 2 2)).run Tryd.prog (W.alloc (.cells #[.int .u8 x, .int .u8 y] 5)) = .ok (.string ⟨#[UInt8.ofNat x.toNat, UInt8.ofNat y.toNat]⟩) (W.alloc (.cells #[.int .u8 x, .int .u8 y] 5)) := by
  have hr : RdB (W.alloc (.cells #[.int .u8 x, .int .u8 y] 5)) (.slice (some ⟨W.heap.size, 0, none⟩) 2 2) [UInt8.ofNat x.toNat, UInt8.ofNat y.toNat] := by
    refine ⟨some (W.heap.size, 0), 2, rfl, Nat.le_refl _, (fun h => by cases h), fun p hp j u hu => ?_⟩
    obtain rfl : (W.heap.size, 0) = p := by simpa using hp
    rw [cell_of_row _ _ _ _ _ _ (heap_alloc_new W _), Nat.zero_add, ← hu]
    have e1 : ((UInt8.ofNat x.toNat).toNat : Int) = x := by rw [u8_toNat (by omega)]; omega
    have e2 : ((UInt8.ofNat y.toNat).toNat : Int) = y := by rw [u8_toNat (by omega)]; omega
    simp only [bv, List.map_cons, List.map_nil, e1, e2, List.getElem?_toArray]
  have q := hr.str (P := Tryd.prog) 22 9 5 Tryd.underlying22 Tryd.underlying5 Tryd.underlying9
  exact q
theorem lab_nums (x : Int) (h0 : 0 ≤ x) (h1 : x < 64) : (⟨(labL x).toArray⟩ : ByteArray) = ⟨#[UInt8.ofNat (49 + x / 8).toNat, UInt8.ofNat (65 + x % 8).toNat]⟩ := by
  unfold labL
  rw [if_pos (by unfold inS; rw [decide_eq_true_eq]; exact ⟨h0, h1⟩)]
  unfold lab
  rw [show (49 + x / 8).toNat = 49 + x.toNat / 8 by omega, show (65 + x % 8).toNat = 65 + x.toNat % 8 by omega]
theorem lab_none (x : Int) (h : x < 0 ∨ 64 ≤ x) : (⟨(labL x).toArray⟩ : ByteArray) = ⟨#[]⟩ := by
  rw [labL_no x (by unfold inS; rw [decide_eq_false_iff_not]; omega)]
set_option maxHeartbeats 1000000 in
theorem label_any (x : Int) (w : World) : Calls Tryd.prog 14 #[.int .i64 x] w fun e w' => e = .returned (.string ⟨(labL x).toArray⟩) ∧ Below w.heap.size w w' := by
  by_cases h0 : x < 0
  · rw [lab_none x (.inl h0)]
    go_enter Tryd.func14, Tryd.ntmps14
    go_wp2_with fail
    go_ret
    exact ⟨rfl, Below.refl _ _⟩
  · by_cases h1 : 64 ≤ x
    · rw [lab_none x (.inr h1)]
      go_enter Tryd.func14, Tryd.ntmps14
      go_wp2_with fail
      go_ret
      exact ⟨rfl, Below.refl _ _⟩
    · have h0' : 0 ≤ x := by omega
      have h1' : x < 64 := by omega
      rw [lab_nums x h0' h1']
      have hcv := two_str w (49 + x / 8) (65 + x % 8) (by omega) (by omega)
      clear h0 h1
      go_enter Tryd.func14, Tryd.ntmps14
      go_wp2_with fail
      go_ret
      exact ⟨rfl, (Below.refl _ _).alloc (Nat.le_refl _) _⟩
set_option maxHeartbeats 1000000 in
theorem rlabel_any (x : Int) (w : World) : Calls Tryd.prog 15 #[.int .i64 x] w fun e w' => e = .returned (.string ⟨(labL x).toArray⟩) ∧ Below w.heap.size w w' := by
  by_cases h0 : x < 0
  · rw [lab_none x (.inl h0)]
    go_enter Tryd.func15, Tryd.ntmps15
    go_wp2_with fail
    go_ret
    exact ⟨rfl, Below.refl _ _⟩
  · by_cases h1 : 63 < x
    · rw [lab_none x (.inr (by omega))]
      go_enter Tryd.func15, Tryd.ntmps15
      go_wp2_with fail
      go_ret
      exact ⟨rfl, Below.refl _ _⟩
    · have h0' : 0 ≤ x := by omega
      have h1' : x < 64 := by omega
      rw [lab_nums x h0' h1']
      have hcv := two_str w (49 + x / 8) (65 + x % 8) (by omega) (by omega)
      clear h0 h1
      go_enter Tryd.func15, Tryd.ntmps15
      go_wp2_with fail
      go_ret
      exact ⟨rfl, (Below.refl _ _).alloc (Nat.le_refl _) _⟩

/-- What Seat answers. -/
def seatV (l : List UInt8) : Int := if seatI l < 0 then 0 else seatI l
def seatB (l : List UInt8) : Bool := decide (0 ≤ seatI l)
theorem seat_no {l : List UInt8} (h : seatI l < 0) : seatV l = 0 ∧ seatB l = false := by
  unfold seatV seatB
  rw [if_pos h, decide_eq_false (by omega)]
  exact ⟨rfl, rfl⟩
theorem seat_yes {l : List UInt8} (h : 0 ≤ seatI l) : seatV l = seatI l ∧ seatB l = true := by
  unfold seatV seatB
  rw [if_neg (by omega), decide_eq_true h]
  exact ⟨rfl, rfl⟩
theorem list_two (s : ByteArray) (h : s.size = 2) : s.data.toList = [s[0], s[1]] := by
  obtain ⟨⟨l⟩⟩ := s
  match l, h with
  | [a, b], _ => rfl
theorem not_two (s : ByteArray) (h : s.size ≠ 2) : seatI s.data.toList = -1 := by
  obtain ⟨⟨l⟩⟩ := s
  match l, h with
  | [], _ => rfl
  | [a], _ => rfl
  | [a, b], h => exact absurd rfl h
  | a :: b :: c :: l, _ => rfl
set_option maxHeartbeats 2000000 in
theorem seatI_ok (s : ByteArray) (n0 : 0 < s.size) (n1 : 1 < s.size) (H2 : Hid (s.size = 2)) (w : World) (b1 : (49 : Int) ≤ (s[0].toNat : Int)) (b2 : (s[0].toNat : Int) ≤ 56) (b3 : (65 : Int) ≤ (s[1].toNat : Int)) (b4 : (s[1].toNat : Int) ≤ 72) :
    Calls Tryd.prog 20 #[.string s] w fun e w' => e = .returned (.tuple #[.int .i64 (((s[0].toNat : Int) - 49) * 8 + ((s[1].toNat : Int) - 65)), .bool true]) ∧ Below w.heap.size w w' := by
  have hz' : ((s.size : Int) != 2) = false := by rw [H2.out]; rfl
  have l0 : (0 : Int) < (s.size : Int) := by omega
  have l1 : (1 : Int) < (s.size : Int) := by omega
  go_enter Tryd.func20, Tryd.ntmps20
  go_wp2_with fail
  go_quiet (fail)
  go_wp2_with fail
  go_ret2
  exact ⟨rfl, below_drewN (Below.refl _ _) _⟩
set_option maxHeartbeats 2000000 in
theorem seatI_bad (s : ByteArray) (n0 : 0 < s.size) (n1 : 1 < s.size) (H2 : Hid (s.size = 2)) (w : World) (hb : s[0].toNat < 49 ∨ 57 ≤ s[0].toNat ∨ s[1].toNat < 65 ∨ 73 ≤ s[1].toNat) :
    Calls Tryd.prog 20 #[.string s] w fun e w' => e = .returned (.tuple #[.int .i64 0, .bool false]) ∧ Below w.heap.size w w' := by
  have hz' : ((s.size : Int) != 2) = false := by rw [H2.out]; rfl
  have l0 : (0 : Int) < (s.size : Int) := by omega
  have l1 : (1 : Int) < (s.size : Int) := by omega
  have u0 := s[0].toNat_lt
  have u1 := s[1].toNat_lt
  have hb' : (s[0].toNat : Int) < 49 ∨ (57 : Int) ≤ (s[0].toNat : Int) ∨ (s[1].toNat : Int) < 65 ∨ (73 : Int) ≤ (s[1].toNat : Int) := by omega
  have i0 : (0 : Int) ≤ (s[0].toNat : Int) := by omega
  have i1 : (s[0].toNat : Int) ≤ 255 := by omega
  have i2 : (0 : Int) ≤ (s[1].toNat : Int) := by omega
  have i3 : (s[1].toNat : Int) ≤ 255 := by omega
  clear u0 u1 hb
  by_cases c1 : (s[0].toNat : Int) ≤ 48
  · clear hb'
    go_enter Tryd.func20, Tryd.ntmps20
    go_wp2_with fail
    go_quiet (fail)
    go_wp2_with fail
    go_ret2
    exact ⟨rfl, below_drewN (Below.refl _ _) _⟩
  · have c1' : (49 : Int) ≤ (s[0].toNat : Int) := by omega
    by_cases c2 : (57 : Int) ≤ (s[0].toNat : Int)
    · clear hb' c1
      go_enter Tryd.func20, Tryd.ntmps20
      go_wp2_with fail
      go_quiet (fail)
      go_wp2_with fail
      go_ret2
      exact ⟨rfl, below_drewN (Below.refl _ _) _⟩
    · have c2' : (s[0].toNat : Int) ≤ 56 := by omega
      by_cases c3 : (s[1].toNat : Int) ≤ 64
      · clear hb' c1 c2
        go_enter Tryd.func20, Tryd.ntmps20
        go_wp2_with fail
        go_quiet (fail)
        go_wp2_with fail
        go_ret2
        exact ⟨rfl, below_drewN (Below.refl _ _) _⟩
      · have c3' : (65 : Int) ≤ (s[1].toNat : Int) := by omega
        have c4' : (73 : Int) ≤ (s[1].toNat : Int) := by omega
        clear hb' c1 c2 c3
        go_enter Tryd.func20, Tryd.ntmps20
        go_wp2_with fail
        go_quiet (fail)
        go_wp2_with fail
        go_ret2
        exact ⟨rfl, below_drewN (Below.refl _ _) _⟩
theorem seat_any (s : ByteArray) (w : World) : Calls Tryd.prog 20 #[.string s] w fun e w' => e = .returned (.tuple #[.int .i64 (seatV s.data.toList), .bool (seatB s.data.toList)]) ∧ Below w.heap.size w w' := by
  by_cases h2 : s.size = 2
  · have e := list_two s h2
    have n0 : 0 < s.size := by omega
    have n1 : 1 < s.size := by omega
    by_cases hi : isL s[0] s[1] = true
    · have e1 : seatI s.data.toList = seatN s[0] s[1] := by rw [e]; unfold seatI; simp only [if_pos hi]
      unfold isL at hi
      rw [decide_eq_true_eq] at hi
      unfold seatN at e1
      obtain ⟨r1, r2⟩ := seat_yes (l := s.data.toList) (by omega)
      rw [r1, r2, e1, Int.mul_comm]
      exact seatI_ok s n0 n1 h2 w (by omega) (by omega) (by omega) (by omega)
    · have hn : seatI s.data.toList = -1 := by rw [e]; unfold seatI; simp only [if_neg hi]
      obtain ⟨r1, r2⟩ := seat_no (l := s.data.toList) (by omega)
      rw [r1, r2]
      unfold isL at hi
      rw [decide_eq_true_eq] at hi
      exact seatI_bad s n0 n1 h2 w (by omega)
  · have hn := not_two s h2
    obtain ⟨r1, r2⟩ := seat_no (l := s.data.toList) (by omega)
    rw [r1, r2]
    have h2' : ((s.size : Int) == 2) = false := by rw [beq_eq_false_iff_ne]; omega
    have h2'' : ((s.size : Int) != 2) = true := by simp; omega
    clear hn r1 r2 h2
    go_enter Tryd.func20, Tryd.ntmps20
    go_wp2_with fail
    go_ret2
    exact ⟨rfl, Below.refl _ _⟩
end Go.Proofs.YteelccgaemmmpaaDoor
