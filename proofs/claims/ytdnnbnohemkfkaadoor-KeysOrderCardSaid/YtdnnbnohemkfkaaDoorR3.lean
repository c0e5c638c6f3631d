/- Keys are read back: plain. -/
import Derived.Test.YtdnnbnohemkfkaaDoorR2
namespace Go.Proofs.YtdnnbnohemkfkaaDoor
open Go.RowKit
set_option linter.unusedVariables false
set_option linter.unusedSimpArgs false

theorem mkl (l : List UInt8) : (ByteArray.mk l.toArray).data.toList = l := rfl
theorem mks (l : List UInt8) : (ByteArray.mk l.toArray).size = l.length := by show l.toArray.size = _; simp
theorem mkt (l : List UInt8) : (ByteArray.mk l.toArray).toList = l := by rw [tl, mkl]

theorem back_id {x a : Int} (hx : 0 ≤ x ∧ x < 4) (ha : 0 ≤ a ∧ a < 4294967296) : rdId ⟨(kId x a).toArray⟩ = some (x, a) := by
  have hl := kId_is hx a
  have h1 : be1 ⟨(kId x a).toArray⟩ = x := by
    rw [be1_cons (a := UInt8.ofNat x.toNat) (l := beB 4 a.toNat) (by rw [mkl, hl]; show [UInt8.ofNat (x.toNat % 256)] ++ beB 4 a.toNat = _; rw [Nat.mod_eq_of_lt (by omega)]; rfl)]
    simp; omega
  have h2 : be4 (dropB ⟨(kId x a).toArray⟩ 1) = a := be4_beB ha.1 ha.2 (by rw [dropB_list, mkl, hl]; simp [beB])
  unfold rdId
  rw [h1, h2, if_pos ⟨by rw [mks, hl]; simp [beB_len], mkt _⟩]
theorem back_number {a : Int} (ha : 0 ≤ a ∧ a < 4294967296) : rdNumber ⟨(kNumber a).toArray⟩ = some a := by
  have e : kNumber a = beB 4 a.toNat := by unfold kNumber keyB; simp
  unfold rdNumber
  rw [if_pos (by rw [mks, e, beB_len]), be4_beB ha.1 ha.2 (by rw [mkl, e])]
theorem back_seat {x m i : Int} (hx : 0 ≤ x ∧ x < 4) (hm : 1 ≤ m ∧ m ≤ 2) (hi : 0 ≤ i ∧ i < 64) : rdSeat ⟨(kSeat x m i).toArray⟩ = some (x, m, i) := by
  have hl : kSeat x m i = [UInt8.ofNat x.toNat, UInt8.ofNat m.toNat, UInt8.ofNat i.toNat] := by
    rw [kSeat_is hx hm hi]
    have e1 : x.toNat % 256 = x.toNat := by omega
    have e2 : m.toNat % 256 = m.toNat := by omega
    have e3 : i.toNat % 256 = i.toNat := by omega
    simp [beB, e1, e2, e3]
  have h0 : byteAt ⟨(kSeat x m i).toArray⟩ 0 = x := by rw [byteAt_l (l := kSeat x m i) rfl, hl]; simp; omega
  have h1 : byteAt ⟨(kSeat x m i).toArray⟩ 1 = m := by rw [byteAt_l (l := kSeat x m i) rfl, hl]; simp; omega
  have h2 : byteAt ⟨(kSeat x m i).toArray⟩ 2 = i := by rw [byteAt_l (l := kSeat x m i) rfl, hl]; simp; omega
  unfold rdSeat
  rw [h0, h1, h2, rSeat_eq, if_pos ⟨by rw [mks, hl]; rfl, (mkt _).symm⟩]
theorem back_person {x a : Int} {p : ByteArray} (hx : 0 ≤ x ∧ x < 4) (ha : 0 ≤ a ∧ a < 4294967296) (hp : personB p.data.toList = true) : rdPer ⟨(kPerson x p.data.toList a).toArray⟩ = some (x, p, a) := by
  have hk : PK ⟨(kPerson x p.data.toList a).toArray⟩ x p a := ⟨mkt _, by omega, ha, by rw [mks, kPerson_is hx hp]; simp [beB_len]⟩
  obtain ⟨h1, h2, h3, h4⟩ := hk.ref
  unfold rdPer
  rw [if_pos h1, h2, h3, h4]

theorem person_ne {x a : Int} {p : List UInt8} (hx : 0 ≤ x ∧ x < 4) (hp : personB p = true) : kPerson x p a ≠ [] := by
  rw [kPerson_is hx hp]
  simp [beB]
theorem person_nil {x a : Int} {p : List UInt8} (hp : personB p = false) : kPerson x p a = [] := by
  rcases kPerson_cases x p a with h | ⟨_, h, _⟩
  · exact h
  · rw [hp] at h; cases h
theorem persons_nil {x : Int} {p : List UInt8} (hp : personB p = false) : kPersons x p = [] := by
  unfold kPersons
  rw [keyB_two, hp]
  simp

theorem prefix_app (a b x y : List UInt8) (h : a.length = b.length) : (a ++ x).isPrefixOf (b ++ y) = (a == b && x.isPrefixOf y) := by
  induction a generalizing b with
  | nil =>
    have : b = [] := by cases b with | nil => rfl | cons => simp at h
    subst this
    simp
  | cons p a ih =>
    cases b with
    | nil => simp at h
    | cons q b =>
      have e := ih b (by simpa using h)
      show (p == q && (a ++ x).isPrefixOf (b ++ y)) = ((p :: a) == (q :: b) && x.isPrefixOf y)
      rw [e, List.cons_beq_cons, Bool.and_assoc]

/-- A person's keys begin as that one's alone. -/
theorem begins_person {x y b : Int} {p q : List UInt8} (hx : 0 ≤ x ∧ x < 4) (hy : 0 ≤ y ∧ y < 4) (hp : personB p = true) (hq : personB q = true) :
    (kPersons x p).isPrefixOf (kPerson y q b) = (x == y && p == q) := by
  have hpl : p.length ≤ 24 := by unfold personB at hp; simp only [Bool.and_eq_true, decide_eq_true_eq] at hp; exact hp.1.2
  have hql : q.length ≤ 24 := by unfold personB at hq; simp only [Bool.and_eq_true, decide_eq_true_eq] at hq; exact hq.1.2
  rw [kPersons_is hx hp, kPerson_is hy hq, prefix_app _ _ _ _ (by rw [beB_len, beB_len]), beB_eq (k := 1) (by omega) (by omega)]
  have e1 : decide (x.toNat = y.toNat) = (x == y) := by
    rw [Bool.eq_iff_iff]
    simp only [decide_eq_true_eq, beq_iff_eq]
    omega
  rw [e1]
  congr 1
  unfold textB
  rw [if_pos (by omega), if_pos (by omega)]
  show (UInt8.ofNat p.length == UInt8.ofNat q.length && p.isPrefixOf (q ++ beB 4 b.toNat)) = _
  rw [ofNat_eq (by omega) (by omega)]
  by_cases hl : p.length = q.length
  · have e2 : p.isPrefixOf (q ++ beB 4 b.toNat) = (p == q) := by
      have := prefix_app p q [] (beB 4 b.toNat) hl
      rw [List.append_nil] at this
      rw [this]
      simp
    rw [e2]
    simp [hl]
  · have : (p == q) = false := by
      rw [beq_eq_false_iff_ne]
      intro h; exact hl (by rw [h])
    rw [this]
    simp [hl]
theorem begins_own {x a : Int} {p : List UInt8} (hx : 0 ≤ x ∧ x < 4) (hp : personB p = true) : (kPersons x p).isPrefixOf (kPerson x p a) = true := by
  rw [begins_person hx hx hp hp]
  simp
end Go.Proofs.YtdnnbnohemkfkaaDoor
