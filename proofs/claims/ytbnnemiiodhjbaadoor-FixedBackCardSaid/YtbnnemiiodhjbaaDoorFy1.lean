/- FixedBack: things, their bytes, and what is read of them. -/
import Derived.Test.YtbnnemiiodhjbaaDoorFx3
import Derived.Test.YtbnnemiiodhjbaaDoorBl
namespace Go.Proofs.YtbnnemiiodhjbaaDoor
open Go.RowKit
set_option linter.unusedVariables false
set_option linter.unusedSimpArgs false

structure Th where
  wd : Int
  n : Int
  s : ByteArray
def Th.Ok (x : Th) : Prop := 0 ≤ x.wd ∧ x.wd < 256 ∧ 0 ≤ x.n ∧ x.n < 18446744073709551616 ∧ x.s.size ≤ 140737488351232
/-- What is left of a text. -/
def cutB (s : ByteArray) : ByteArray := s.extract 0 (min s.size 255)
theorem cutB_size (s : ByteArray) : (cutB s).size ≤ 255 := by unfold cutB; rw [ByteArray.size_extract]; omega
/-- The bytes of a thing. -/
def thB (x : Th) : List UInt8 := if x.wd % 5 = 4 then textB (cutB x.s).data.toList else beB (2 ^ (x.wd % 5).toNat) x.n.toNat
def flatT (l : List Th) : List UInt8 := l.flatMap thB
def offT (l : List Th) (i : Nat) : Nat := (flatT (l.take i)).length
theorem beB_len' (k n : Nat) : (beB k n).length = k := by
  induction k generalizing n with
  | zero => rfl
  | succ k ih => rw [beB, List.length_append, ih]; rfl
theorem textB_len (s : ByteArray) (h : s.size ≤ 255) : (textB s.data.toList).length = 1 + s.size := by
  have : s.data.toList.length = s.size := by rw [Array.length_toList]; rfl
  unfold textB
  rw [if_pos (by omega), List.length_cons]
  omega
theorem thB_len (x : Th) : (thB x).length ≤ 256 := by
  unfold thB
  split
  · rw [textB_len _ (cutB_size _)]
    have := cutB_size x.s
    omega
  · rename_i h
    rw [beB_len']
    have h1 : (x.wd % 5).toNat = 0 ∨ (x.wd % 5).toNat = 1 ∨ (x.wd % 5).toNat = 2 ∨ (x.wd % 5).toNat = 3 := by omega
    rcases h1 with e | e | e | e <;> rw [e] <;> decide
theorem flatT_len (l : List Th) : (flatT l).length ≤ 256 * l.length := by
  unfold flatT
  induction l with
  | nil => simp
  | cons x l ih =>
    rw [List.flatMap_cons, List.length_append, List.length_cons]
    have := thB_len x
    omega
theorem flatT_take {l : List Th} {k : Nat} (h : k < l.length) : flatT (l.take (k + 1)) = flatT (l.take k) ++ thB l[k] := by
  unfold flatT
  rw [List.take_succ_eq_append_getElem h, List.flatMap_append]
  simp
theorem offT_succ {l : List Th} {k : Nat} (h : k < l.length) : offT l (k + 1) = offT l k + (thB l[k]).length := by
  unfold offT
  rw [flatT_take h, List.length_append]
theorem offT_zero (l : List Th) : offT l 0 = 0 := rfl
theorem offT_all (l : List Th) : offT l l.length = (flatT l).length := by unfold offT; rw [List.take_length]
theorem offT_le {l : List Th} {k : Nat} (h : k ≤ l.length) : offT l k ≤ (flatT l).length := by
  unfold offT flatT
  conv => rhs; rw [← List.take_append_drop k l, List.flatMap_append, List.length_append]
  omega
theorem flatT_drop {l : List Th} {k : Nat} (h : k < l.length) : (flatT l).drop (offT l k) = thB l[k] ++ flatT (l.drop (k + 1)) := by
  have e : flatT l = flatT (l.take k) ++ (thB l[k] ++ flatT (l.drop (k + 1))) := by
    unfold flatT
    conv => lhs; rw [← List.take_append_drop k l, List.drop_eq_getElem_cons h, List.flatMap_append, List.flatMap_cons]
  rw [e]
  unfold offT
  rw [List.drop_left]

theorem foldB_snoc (l : List UInt8) (b : UInt8) : foldB (l ++ [b]) = foldB l * 256 + b.toNat := by
  unfold foldB
  rw [List.foldl_append]
  rfl
theorem fold_beB (k n : Nat) : foldB (beB k n) = n % 256 ^ k := by
  induction k generalizing n with
  | zero => simp [beB, foldB, Nat.mod_one]
  | succ k ih =>
    rw [beB, foldB_snoc, ih]
    have e : (UInt8.ofNat (n % 256)).toNat = n % 256 := by simp
    rw [e, Nat.pow_succ, Nat.mul_comm (256 ^ k) 256, Nat.mod_mul]
    omega
theorem num_in (q : ByteArray) (k n : Nat) (R : List UInt8) (h : q.data.toList = beB k n ++ R) : nmC k q = 0 ∧ nmV k q = ((n % 256 ^ k : Nat) : Int) ∧ nmL k q = k := by
  have hl : k ≤ q.size := by
    have : q.data.toList.length = q.size := by rw [Array.length_toList]; rfl
    rw [h, List.length_append, beB_len'] at this
    omega
  unfold nmC nmV nmL beN
  rw [if_neg (by omega), if_neg (by omega), if_neg (by omega), h]
  have e : (beB k n ++ R).take k = beB k n := by
    have := beB_len' k n
    rw [List.take_append_of_le_length (by omega), List.take_of_length_le (by omega)]
  rw [e, fold_beB]
  exact ⟨rfl, rfl, rfl⟩
theorem num_out (q : ByteArray) (k : Nat) (h : q.size < k) : nmC k q = 3 ∧ nmV k q = 0 ∧ nmL k q = 0 := by
  unfold nmC nmV nmL
  rw [if_pos h, if_pos h, if_pos h]
  exact ⟨rfl, rfl, rfl⟩
theorem size_list' (q : ByteArray) : q.data.toList.length = q.size := by rw [Array.length_toList]; rfl
theorem text_in (q s : ByteArray) (R : List UInt8) (hs : s.size ≤ 255) (h : q.data.toList = textB s.data.toList ++ R) : tCode 255 q = 0 ∧ txV 255 q = s ∧ txL 255 q = 1 + s.size := by
  have hsl := size_list' s
  have ht : textB s.data.toList = UInt8.ofNat s.size :: s.data.toList := by unfold textB; rw [if_pos (by omega), hsl]
  rw [ht] at h
  have hq := size_list' q
  rw [h, List.cons_append, List.length_cons, List.length_append] at hq
  have hb : be1 q = (s.size : Int) := by
    unfold be1
    rw [h]
    simp
    omega
  have hL : tLen q = 1 + s.size := by unfold tLen; rw [hb]; omega
  have hc : tCode 255 q = 0 := by
    unfold tCode
    rw [if_neg (by omega), if_neg (by omega), if_neg (by rw [hb]; omega), if_neg (by rw [hL]; omega)]
  refine ⟨hc, ?_, by unfold txL; rw [if_pos hc, hL]⟩
  unfold txV
  rw [if_pos hc]
  unfold tText
  rw [hL]
  apply ByteArray.ext
  rw [← Array.toList_inj, dropB_list, takeB_list, h, Nat.add_comm, List.cons_append, List.take_succ_cons, List.drop_succ_cons, List.drop_zero, ← hsl, List.take_left]
theorem text_out (q s : ByteArray) (m : Nat) (hs : s.size ≤ 255) (h : q.data.toList = (textB s.data.toList).take m) (hm : m < 1 + s.size) : tCode 255 q = 3 ∧ txV 255 q = ⟨#[]⟩ ∧ txL 255 q = 0 := by
  have hsl := size_list' s
  have ht : textB s.data.toList = UInt8.ofNat s.size :: s.data.toList := by unfold textB; rw [if_pos (by omega), hsl]
  rw [ht] at h
  have hq := size_list' q
  rw [h, List.length_take, List.length_cons] at hq
  have hc : tCode 255 q = 3 := by
    unfold tCode
    rw [if_neg (by omega)]
    by_cases h0 : q.size < 1
    · rw [if_pos h0]
    · have hb : be1 q = (s.size : Int) := by
        unfold be1
        rw [h]
        obtain ⟨j, rfl⟩ : ∃ j, m = j + 1 := ⟨m - 1, by omega⟩
        rw [List.take_succ_cons]
        simp
        omega
      have hL : tLen q = 1 + s.size := by unfold tLen; rw [hb]; omega
      rw [if_neg h0, if_neg (by rw [hb]; omega), if_pos (by rw [hL]; omega)]
  refine ⟨hc, ?_, ?_⟩
  · unfold txV; rw [if_neg (by rw [hc]; decide)]
  · unfold txL; rw [if_neg (by rw [hc]; decide)]

/-- What is ahead of a thing: D is the bytes, up to E. -/
theorem ahead_of {l : List Th} {i E : Nat} {D : List UInt8} (hi : i < l.length) (hD : D = (flatT l).take E) (q : ByteArray) (hq : q.data.toList = D.drop (offT l i)) : q.data.toList = (thB l[i] ++ flatT (l.drop (i + 1))).take (E - offT l i) := by
  rw [hq, hD, List.drop_take, flatT_drop hi]
theorem ahead_in {l : List Th} {i E : Nat} {D : List UInt8} (hi : i < l.length) (hD : D = (flatT l).take E) (q : ByteArray) (hq : q.data.toList = D.drop (offT l i)) (hE : offT l (i + 1) ≤ E) : ∃ R, q.data.toList = thB l[i] ++ R := by
  have h := ahead_of hi hD q hq
  rw [offT_succ hi] at hE
  rw [List.take_append, List.take_of_length_le (by omega)] at h
  exact ⟨_, h⟩
theorem ahead_out {l : List Th} {i E : Nat} {D : List UInt8} (hi : i < l.length) (hD : D = (flatT l).take E) (q : ByteArray) (hq : q.data.toList = D.drop (offT l i)) (hE : E < offT l (i + 1)) (h0 : offT l i ≤ E) : q.data.toList = (thB l[i]).take (E - offT l i) ∧ E - offT l i < (thB l[i]).length := by
  have h := ahead_of hi hD q hq
  rw [offT_succ hi] at hE
  rw [List.take_append_of_le_length (by omega)] at h
  exact ⟨h, by omega⟩
end Go.Proofs.YtbnnemiiodhjbaaDoor
