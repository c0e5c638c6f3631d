/- Both read alike: plain. -/
import Derived.Test.YtdnnbnohemkfkaaDoorQ3
import Derived.Test.YtdnnbnohemkfkaaDoorQ5
namespace Go.Proofs.YtdnnbnohemkfkaaDoor
open Go.RowKit
set_option linter.unusedVariables false
set_option linter.unusedSimpArgs false

theorem ba_ext {a b : ByteArray} (h : a.data.toList = b.data.toList) : a = b := by
  apply ByteArray.ext
  rw [← Array.toList_inj, h]
theorem be1_cons {q : ByteArray} {a : UInt8} {l : List UInt8} (h : q.data.toList = a :: l) : be1 q = a.toNat := by unfold be1; rw [h]; rfl
theorem byteAt_l {q : ByteArray} {l : List UInt8} (h : q.data.toList = l) (k : Nat) : byteAt q k = (l.getD k 0).toNat := by unfold byteAt; rw [h]
theorem drop_l {q : ByteArray} {l : List UInt8} (h : q.data.toList = l) (n : Nat) : (dropB q n).data.toList = l.drop n := by rw [dropB_list, h]
theorem take_l {q : ByteArray} {l : List UInt8} (h : q.data.toList = l) (n : Nat) : (takeB q n).data.toList = l.take n := by rw [takeB_list, h]
theorem size_l {q : ByteArray} {l : List UInt8} (h : q.data.toList = l) : q.size = l.length := by rw [← size_toList, h]

/-! ### seats -/
theorem sq1_eq (q : ByteArray) : sq1 q = byteAt q 1 := by
  unfold sq1 be1 byteAt
  rw [dropB_list]
  simp [List.getD_eq_getElem?_getD, List.getElem?_drop]
theorem sq2_eq (q : ByteArray) : sq2 q = byteAt q 2 := by
  unfold sq2 be1 byteAt
  rw [dropB_list, dropB_list]
  simp [List.getD_eq_getElem?_getD, List.getElem?_drop]
theorem isSeat_iff (q : ByteArray) : isSeat q ↔ q.size = 3 ∧ rSeat (byteAt q 0) (byteAt q 1) (byteAt q 2) = q.toList := by
  have hl : q.toList.length = q.size := by rw [tl, size_toList]
  unfold isSeat
  rw [rSeat_eq, sq1_eq, sq2_eq]
  constructor
  · rintro ⟨h1, h2⟩
    have := kSeat_len (be1 q) (byteAt q 1) (byteAt q 2)
    rw [← h2, hl] at this
    exact ⟨by omega, h2.symm⟩
  · rintro ⟨h1, h2⟩
    exact ⟨by omega, h2.symm⟩
theorem stV_eq (q : ByteArray) : stV q = .tuple #[.int .i64 (s1 (rdSeat q)), .int .i64 (s2 (rdSeat q)), .int .i64 (s3 (rdSeat q)), .bool (rdSeat q).isSome] := by
  unfold stV rdSeat
  by_cases h : isSeat q
  · rw [if_pos h, if_pos ((isSeat_iff q).1 h), sq1_eq, sq2_eq]
    rfl
  · rw [if_neg h, if_neg (fun k => h ((isSeat_iff q).2 k))]
    rfl

/-! ### persons -/
theorem beB4 (n : Nat) : beB 4 n = [UInt8.ofNat (n / 256 / 256 / 256 % 256), UInt8.ofNat (n / 256 / 256 % 256), UInt8.ofNat (n / 256 % 256), UInt8.ofNat (n % 256)] := by simp [beB]
theorem be4_beB {q : ByteArray} {id : Int} (h0 : 0 ≤ id) (h1 : id < 4294967296) (h : q.data.toList = beB 4 id.toNat) : be4 q = id := by
  rw [beB4] at h
  unfold be4
  rw [h]
  simp
  omega

/-- A person's key. -/
structure PK (q : ByteArray) (e : Int) (s : ByteArray) (id : Int) : Prop where
  h : q.toList = kPerson e s.data.toList id
  e0 : 0 ≤ e ∧ e < 256
  i0 : 0 ≤ id ∧ id < 4294967296
  n : 1 ≤ q.size

theorem kPerson_cases (e : Int) (s : List UInt8) (id : Int) : kPerson e s id = [] ∨ (inB 0 3 e = true ∧ personB s = true ∧ kPerson e s id = beB 1 (e % 256).toNat ++ (textB s ++ beB 4 id.toNat)) := by
  unfold kPerson
  rw [keyB_three]
  by_cases h : inB 0 3 e = true ∧ personB s = true ∧ true = true
  · rw [if_pos h]; exact .inr ⟨h.1, h.2.1, rfl⟩
  · rw [if_neg h]; exact .inl rfl

theorem PK.list {q s : ByteArray} {e id : Int} (h : PK q e s id) : s.size ≤ 24 ∧ q.data.toList = UInt8.ofNat e.toNat :: UInt8.ofNat s.size :: (s.data.toList ++ beB 4 id.toNat) := by
  have hl : q.toList.length = q.size := by rw [tl, size_toList]
  rcases kPerson_cases e s.data.toList id with h1 | ⟨h1, h2, h3⟩
  · have := h.n
    rw [h.h, h1] at hl
    simp at hl
    omega
  · have h4 : s.size ≤ 24 := by
      unfold personB at h2
      simp only [Bool.and_eq_true, decide_eq_true_eq] at h2
      rw [size_toList] at h2
      exact h2.1.2
    refine ⟨h4, ?_⟩
    rw [← tl, h.h, h3]
    have e1 : (e % 256).toNat = e.toNat := by have := h.e0; omega
    have e2 : e.toNat % 256 = e.toNat := by have := h.e0; omega
    unfold textB
    rw [size_toList, if_pos (by omega), e1]
    simp [beB, e2]

theorem PK.prog {q s : ByteArray} {e id : Int} (h : PK q e s id) : isPerson q ∧ be1 q = e ∧ tText (dropB q 1) = s ∧ be4 (pRest q) = id := by
  obtain ⟨hs, hq⟩ := h.list
  have he := h.e0
  have hi := h.i0
  have b1 : be1 q = e := by rw [be1_cons hq]; simp; omega
  have d1 : (dropB q 1).data.toList = UInt8.ofNat s.size :: (s.data.toList ++ beB 4 id.toNat) := by rw [drop_l hq]; rfl
  have b2 : be1 (dropB q 1) = s.size := by rw [be1_cons d1]; simp; omega
  have l2 : tLen (dropB q 1) = s.size + 1 := by unfold tLen; omega
  have t2 : tText (dropB q 1) = s := by
    apply ba_ext
    unfold tText
    rw [dropB_list, l2, take_l d1]
    rw [← size_toList]
    simp
  have p2 : (pRest q).data.toList = beB 4 id.toNat := by
    unfold pRest
    rw [l2, drop_l d1]
    rw [← size_toList]
    simp
  have p3 : be4 (pRest q) = id := be4_beB hi.1 hi.2 p2
  have z : (dropB q 1).size = s.size + 5 := by rw [size_l d1]; simp [beB_len, size_toList]
  refine ⟨⟨h.n, ?_, ?_, ?_⟩, b1, t2, p3⟩
  · unfold tCode
    rw [if_neg (by omega), if_neg (by omega), if_neg (by omega), if_neg (by omega)]
  · rw [size_l p2, beB_len]; exact Nat.le_refl _
  · rw [b1, t2, p3]; exact h.h

theorem PK.ref {q s : ByteArray} {e id : Int} (h : PK q e s id) : (6 ≤ q.size ∧ rPerson (byteAt q 0) (midB q).data.toList (lastB q) = q.toList) ∧ byteAt q 0 = e ∧ midB q = s ∧ lastB q = id := by
  obtain ⟨hs, hq⟩ := h.list
  have he := h.e0
  have hi := h.i0
  have z : q.size = s.size + 6 := by rw [size_l hq]; simp [beB_len, size_toList]
  have b1 : byteAt q 0 = e := by rw [byteAt_l hq]; simp; omega
  have t2 : midB q = s := by
    apply ba_ext
    unfold midB
    rw [dropB_list, takeB_list, hq, z]
    have e1 : s.size + 6 - 4 = s.size + 2 := by omega
    rw [e1]
    rw [← size_toList]
    simp
  have p3 : lastB q = id := by
    refine be4_beB hi.1 hi.2 ?_
    rw [dropB_list, hq, z]
    have e1 : s.size + 6 - 4 = s.size + 2 := by omega
    rw [e1]
    rw [← size_toList]
    simp
  refine ⟨⟨by omega, ?_⟩, b1, t2, p3⟩
  rw [b1, t2, p3, rPerson_eq]
  exact h.h.symm

def perV (q : ByteArray) : Value := .tuple #[.int .i64 (pe (rdPer q)), .string (pn (rdPer q)), .int .u32 (pi (rdPer q)), .bool (rdPer q).isSome]
theorem perV_eq (q : ByteArray) : (if isPerson q then Value.tuple #[.int .i64 (be1 q), .string (tText (dropB q 1)), .int .u32 (be4 (pRest q)), .bool true] else .tuple #[.int .i64 0, .string ⟨#[]⟩, .int .u32 0, .bool false]) = perV q := by
  unfold perV rdPer
  by_cases h : isPerson q
  · have hk : PK q (be1 q) (tText (dropB q 1)) (be4 (pRest q)) := ⟨h.2.2.2, be1_bounds q, be4_bounds _, h.1⟩
    obtain ⟨h1, h2, h3, h4⟩ := hk.ref
    rw [if_pos h, if_pos h1, h2, h3, h4]
    rfl
  · rw [if_neg h, if_neg]
    · rfl
    · intro h1
      have hk : PK q (byteAt q 0) (midB q) (lastB q) := ⟨by rw [← rPerson_eq]; exact h1.2.symm, byteAt_bounds q 0, lastB_bounds q, by omega⟩
      exact h hk.prog.1
end Go.Proofs.YtdnnbnohemkfkaaDoor
