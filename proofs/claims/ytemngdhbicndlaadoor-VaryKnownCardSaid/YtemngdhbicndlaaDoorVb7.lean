/- foyerref02.Number: a number's bytes. -/
import Derived.Test.YtemngdhbicndlaaDoorVb6
import Derived.IntWalk
namespace Go.Proofs.YtemngdhbicndlaaDoor
open Go.RowKit
set_option linter.unusedVariables false
set_option linter.unusedSimpArgs false

theorem mk_app (a b : List UInt8) : ((⟨a.toArray⟩ : ByteArray) ++ ⟨b.toArray⟩) = ⟨(a ++ b).toArray⟩ := by
  apply ByteArray.ext
  simp
theorem mk_size (a : List UInt8) : (⟨a.toArray⟩ : ByteArray).size = a.length := by
  show a.toArray.size = _
  rw [List.size_toArray]
theorem mk_list (s : ByteArray) : (⟨s.data.toList.toArray⟩ : ByteArray) = s := by cases s; simp
theorem rd_lit (w : World) (t : TypeId) (y : Int) (h0 : 0 ≤ y) (h1 : y < 256) : RdB (w.alloc (.cells #[.int .u8 y] t)) (.slice (some ⟨w.heap.size, 0, none⟩) 1 1) [UInt8.ofNat y.toNat] := by
  refine ⟨some (w.heap.size, 0), 1, rfl, by simp, (fun h => by cases h), fun p hp j u hu => ?_⟩
  obtain rfl : (w.heap.size, 0) = p := by simpa using hp
  simp only [Nat.zero_add]
  rw [cell_of_row _ _ j _ _ _ (heap_alloc_new w _)]
  match j, hu with
  | 0, hu =>
    simp [bv] at hu
    subst hu
    simp; omega
  | j + 1, hu => simp [bv] at hu
/-- string([]byte{y}). -/
theorem lit_str (w : World) (y : Int) (h0 : 0 ≤ y) (h1 : y < 256) : (convert 60 9 (.slice (some ⟨w.heap.size, 0, none⟩) 1 1)).run Tryd.prog (w.alloc (.cells #[.int .u8 y] 5)) = .ok (.string ⟨#[UInt8.ofNat y.toNat]⟩) (w.alloc (.cells #[.int .u8 y] 5)) :=
  (rd_lit w 5 y h0 h1).str (P := Tryd.prog) 60 9 5 Tryd.underlying60 Tryd.underlying5 Tryd.underlying9
theorem beB_more (j n : Nat) : beB (j + 1) n = UInt8.ofNat (n / 256 ^ j) :: beB j n := by
  induction j generalizing n with
  | zero =>
    simp only [beB, Nat.pow_zero, Nat.div_one, List.nil_append]
    congr 1
    apply UInt8.toNat_inj.1
    simp
  | succ j ih =>
    rw [beB, ih (n / 256), beB, Nat.div_div_eq_div_mul, show 256 * 256 ^ j = 256 ^ (j + 1) by rw [Nat.pow_succ, Nat.mul_comm]]
    rfl
/-- A number's bytes, as a text. -/
def numS (n : Nat) : ByteArray := ⟨(numL n).toArray⟩
theorem more_str {j n : Nat} {x : Int} (hx : x = ((n / 256 ^ j : Nat) : Int)) : ((⟨#[UInt8.ofNat (x % 256).toNat]⟩ : ByteArray) ++ ⟨(beB j n).toArray⟩) = ⟨(beB (j + 1) n).toArray⟩ := by
  rw [beB_more]
  have e := mk_app [UInt8.ofNat (x % 256).toNat] (beB j n)
  rw [show (UInt8.ofNat (n / 256 ^ j)) = UInt8.ofNat (x % 256).toNat by
    apply UInt8.toNat_inj.1
    rw [hx]
    generalize n / 256 ^ j = z
    simp
    omega]
  exact e
theorem bstep7 {w W W' : World} (h : Below w.heap.size w W) (k : Below W.heap.size W W') : Below w.heap.size w W' := h.trans (k.mono h.size)
set_option maxRecDepth 100000 in
set_option maxHeartbeats 8000000 in
theorem rnumber_any (n : Nat) (w : World) (hn : n < 18446744073709551616) :
    Calls Tryd.prog 23 #[.int .u64 n] w fun e w' => e = .returned (.string (numS n)) ∧ Below w.heap.size w w' := by
  have HN := Lib.hid hn
  clear hn
  go_enter Tryd.func23, Tryd.ntmps23
  go_wp2_with fail
  go_loopw [0, 3] (fun nv sv wr => ∃ (j : Nat) (x : Int), nv = .int .u64 x ∧ Hid (x = ((n / 256 ^ j : Nat) : Int)) ∧ Hid (nb n = nb (n / 256 ^ j) + j) ∧ sv = .string ⟨(beB j n).toArray⟩ ∧ Hid (Below w.heap.size w wr)) (fun nv _ _ => (intOf nv).toNat)
  case atStart => exact ⟨0, (n : Int), rfl, by show (n : Int) = _; simp, by show nb n = _; simp, rfl, Below.refl _ _⟩
  case round =>
    obtain ⟨j, x, rfl, hx, hj, rfl, HB⟩ := hrel
    have hx0 : 0 ≤ x ∧ x < 18446744073709551616 := by
      rw [hx.out]
      have h1 : n / 256 ^ j ≤ n := Nat.div_le_self _ _
      have h2 := HN.out
      generalize n / 256 ^ j = z at h1
      omega
    obtain ⟨hx0, hx1⟩ := hx0
    have hl : (beB j n).length ≤ 8 := by
      rw [beB_len]
      have h1 := hj.out
      have h2 := nb_8 HN.out
      omega
    obtain ⟨S, hS⟩ : ∃ S : ByteArray, S = ⟨(beB j n).toArray⟩ := ⟨_, rfl⟩
    have hsz : S.size ≤ 8 := by rw [hS, mk_size]; exact hl
    rw [← hS]
    have HS := Lib.hid hS
    clear hS hl
    by_cases hz : 0 < x
    · have hcv := lit_str wr (x % 256) (by omega) (by omega)
      have e1 : x.tmod 256 = x % 256 := Int.tmod_eq_emod_of_nonneg hx0
      have e2 : x.tdiv 256 = x / 256 := Int.tdiv_eq_ediv_of_nonneg hx0
      go_wp2_with fail
      refine ⟨⟨j + 1, x / 256, rfl, ?_, ?_, ?_, ?_⟩, ?_⟩
      · show x / 256 = _
        rw [hx.out, Nat.pow_succ, ← Nat.div_div_eq_div_mul]
        generalize n / 256 ^ j = z
        omega
      · show nb n = _
        have h1 := hj.out
        have h2 : n / 256 ^ j ≠ 0 := by
          have h3 := hx.out
          intro h4
          rw [h4] at h3
          omega
        have h5 : n / 256 ^ j / 256 = n / 256 ^ (j + 1) := by rw [Nat.div_div_eq_div_mul, Nat.pow_succ]
        rw [nb_pos h2, h5] at h1
        generalize nb (n / 256 ^ (j + 1)) = z at h1 ⊢
        omega
      · rw [HS.out, more_str hx.out]
      · exact bstep7 HB.out ((Below.refl _ _).alloc (Nat.le_refl _) _)
      · simp [intOf]; omega
    · have hj0 : j = nb n := by
        have h3 := hx.out
        have h1 := hj.out
        have h4 : n / 256 ^ j = 0 := by
          generalize n / 256 ^ j = z at h3
          omega
        rw [h4, nb_zero] at h1
        omega
      have hsz2 : S.size = nb n := by rw [HS.out, mk_size, beB_len, hj0]
      have HE : Hid ((⟨#[UInt8.ofNat (S.size : Int).toNat]⟩ : ByteArray) ++ S = numS n) := by
        show _ = numS n
        rw [HS.out, mk_size, beB_len, hj0]
        exact mk_app [UInt8.ofNat (nb n)] (beB (nb n) n)
      have hcv := lit_str wr (S.size : Int) (by omega) (by omega)
      clear hsz2 hj0
      go_wp2_with fail
      go_ret
      exact ⟨by rw [← HE.out]; rfl, bstep7 HB.out ((Below.refl _ _).alloc (Nat.le_refl _) _)⟩
end Go.Proofs.YtemngdhbicndlaaDoor
