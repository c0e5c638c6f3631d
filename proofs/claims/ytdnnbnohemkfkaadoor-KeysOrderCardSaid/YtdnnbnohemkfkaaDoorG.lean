/- keys: the keys, and beginnings. -/
import Derived.Test.YtdnnbnohemkfkaaDoorF
namespace Go.Proofs.YtdnnbnohemkfkaaDoor
open Go.RowKit
set_option linter.unusedVariables false

theorem beB_length (k : Nat) : ∀ n, (beB k n).length = k := by
  induction k with
  | zero => intro n; rfl
  | succ k ih => intro n; simp [beB, ih]

theorem textB_le (l : List UInt8) : (textB l).length ≤ 256 := by
  unfold textB; split <;> simp; omega

/- What the keys are. -/
def kId (event : Int) (id : Int) : List UInt8 := keyB [(beB 1 (event % 256).toNat, inB 0 3 event), (beB 4 id.toNat, true)]
def kSeat (event : Int) (m : Int) (seat : Int) : List UInt8 := keyB [(beB 1 (event % 256).toNat, inB 0 3 event), (beB 1 (m % 256).toNat, inB 1 2 m), (beB 1 (seat % 256).toNat, inB 0 63 seat)]
def kPerson (event : Int) (s : List UInt8) (id : Int) : List UInt8 := keyB [(beB 1 (event % 256).toNat, inB 0 3 event), (textB s, personB s), (beB 4 id.toNat, true)]
def kNumber (id : Int) : List UInt8 := keyB [(beB 4 id.toNat, true)]
def kEvent (event : Int) : List UInt8 := keyB [(beB 1 (event % 256).toNat, inB 0 3 event)]
def kMap (event : Int) (m : Int) : List UInt8 := keyB [(beB 1 (event % 256).toNat, inB 0 3 event), (beB 1 (m % 256).toNat, inB 1 2 m)]
def kPersons (event : Int) (s : List UInt8) : List UInt8 := keyB [(beB 1 (event % 256).toNat, inB 0 3 event), (textB s, personB s)]

theorem IsPiece.form {w : World} {f : Value} {bs : List UInt8} {ok : Bool} (h : IsPiece w f bs ok) : ∃ i c, f = .func (.func i) #[] c := by
  obtain ⟨fid, cap, e, _⟩ := h
  exact ⟨fid, cap, e⟩

theorem cells_lit (w : World) (fs : Array Value) (t : TypeId) (j : Nat) (f : Value) (hf : fs.toList[j]? = some f) : (w.alloc (.cells fs t)).cell? ⟨w.heap.size, j, none⟩ = some f := by
  rw [cell_of_row _ _ j _ _ _ (heap_alloc_new w _)]
  simpa using hf

set_option maxHeartbeats 4000000 in
theorem Id_any (event : Int) (id : Int) (w : World) (h0 : 0 ≤ id) (h1 : id < 4294967296) : Calls Tryd.prog 8 #[.int .i64 event, .int .u32 id] w fun e w' => e = .returned (.string ⟨(kId event id).toArray⟩) ∧ Below w.heap.size w w' := by
  go_enter Tryd.func8, Tryd.ntmps8
  go_wp2_with fail
  refine (of_any event _).mono ?_
  rintro e w1 ⟨f1, rfl, hp1, hB1⟩
  obtain ⟨i1, c1, rfl⟩ := hp1.form
  go_wp2_with fail
  refine (number_any id _ h0 h1).mono ?_
  rintro e w2 ⟨f2, rfl, hp2, hB2⟩
  obtain ⟨i2, c2, rfl⟩ := hp2.form
  go_wp2_with fail
  have hBa : Below w2.heap.size w2 (w2.alloc (.cells #[.func (.func i1) #[] c1, .func (.func i2) #[] c2] 55)) := (Below.refl _ _).alloc (Nat.le_refl _) _
  have q1 := ((hp1).below hB2).below hBa
  have q2 := (hp2).below hBa
  refine (key_any _ 2 [.func (.func i1) #[] c1, .func (.func i2) #[] c2] [(beB 1 (event % 256).toNat, inB 0 3 event), (beB 4 id.toNat, true)] _ rfl (by simp) (by simp) ?_ ?_ (by simp [beB_length])).mono ?_
  · exact fun j f hf => cells_lit _ _ _ j f hf
  · intro j f p hf hpp
    match j, hf, hpp with
    | 0, hf, hpp => cases hf; cases hpp; exact q1
    | 1, hf, hpp => cases hf; cases hpp; exact q2
    | j + 2, hf, hpp => simp at hf
  rintro e w' ⟨rfl, hB⟩
  go_wp2
  go_ret
  exact ⟨rfl, (((hB1).trans (hB2.mono (hB1).size)).trans (hBa.mono ((hB1).trans (hB2.mono (hB1).size)).size)).trans (hB.mono (((hB1).trans (hB2.mono (hB1).size)).trans (hBa.mono ((hB1).trans (hB2.mono (hB1).size)).size)).size)⟩

set_option maxHeartbeats 4000000 in
theorem Seat_any (event : Int) (m : Int) (seat : Int) (w : World) : Calls Tryd.prog 10 #[.int .i64 event, .int .i64 m, .int .i64 seat] w fun e w' => e = .returned (.string ⟨(kSeat event m seat).toArray⟩) ∧ Below w.heap.size w w' := by
  go_enter Tryd.func10, Tryd.ntmps10
  go_wp2_with fail
  refine (of_any event _).mono ?_
  rintro e w1 ⟨f1, rfl, hp1, hB1⟩
  obtain ⟨i1, c1, rfl⟩ := hp1.form
  go_wp2_with fail
  refine (which_any m _).mono ?_
  rintro e w2 ⟨f2, rfl, hp2, hB2⟩
  obtain ⟨i2, c2, rfl⟩ := hp2.form
  go_wp2_with fail
  refine (on_any seat _).mono ?_
  rintro e w3 ⟨f3, rfl, hp3, hB3⟩
  obtain ⟨i3, c3, rfl⟩ := hp3.form
  go_wp2_with fail
  have hBa : Below w3.heap.size w3 (w3.alloc (.cells #[.func (.func i1) #[] c1, .func (.func i2) #[] c2, .func (.func i3) #[] c3] 55)) := (Below.refl _ _).alloc (Nat.le_refl _) _
  have q1 := (((hp1).below hB2).below hB3).below hBa
  have q2 := ((hp2).below hB3).below hBa
  have q3 := (hp3).below hBa
  refine (key_any _ 3 [.func (.func i1) #[] c1, .func (.func i2) #[] c2, .func (.func i3) #[] c3] [(beB 1 (event % 256).toNat, inB 0 3 event), (beB 1 (m % 256).toNat, inB 1 2 m), (beB 1 (seat % 256).toNat, inB 0 63 seat)] _ rfl (by simp) (by simp) ?_ ?_ (by simp [beB_length])).mono ?_
  · exact fun j f hf => cells_lit _ _ _ j f hf
  · intro j f p hf hpp
    match j, hf, hpp with
    | 0, hf, hpp => cases hf; cases hpp; exact q1
    | 1, hf, hpp => cases hf; cases hpp; exact q2
    | 2, hf, hpp => cases hf; cases hpp; exact q3
    | j + 3, hf, hpp => simp at hf
  rintro e w' ⟨rfl, hB⟩
  go_wp2
  go_ret
  exact ⟨rfl, ((((hB1).trans (hB2.mono (hB1).size)).trans (hB3.mono ((hB1).trans (hB2.mono (hB1).size)).size)).trans (hBa.mono (((hB1).trans (hB2.mono (hB1).size)).trans (hB3.mono ((hB1).trans (hB2.mono (hB1).size)).size)).size)).trans (hB.mono ((((hB1).trans (hB2.mono (hB1).size)).trans (hB3.mono ((hB1).trans (hB2.mono (hB1).size)).size)).trans (hBa.mono (((hB1).trans (hB2.mono (hB1).size)).trans (hB3.mono ((hB1).trans (hB2.mono (hB1).size)).size)).size)).size)⟩

set_option maxHeartbeats 4000000 in
theorem Person_any (event : Int) (s : ByteArray) (id : Int) (w : World) (h0 : 0 ≤ id) (h1 : id < 4294967296) (hG : GP w) (hs : s.size ≤ 140737488351232) : Calls Tryd.prog 12 #[.int .i64 event, .string s, .int .u32 id] w fun e w' => e = .returned (.string ⟨(kPerson event s.data.toList id).toArray⟩) ∧ Below w.heap.size w w' := by
  go_enter Tryd.func12, Tryd.ntmps12
  go_wp2_with fail
  refine (of_any event _).mono ?_
  rintro e w1 ⟨f1, rfl, hp1, hB1⟩
  obtain ⟨i1, c1, rfl⟩ := hp1.form
  go_wp2_with fail
  refine (named_any s _ (hG.below (hB1)) hs).mono ?_
  rintro e w2 ⟨f2, rfl, hp2, hB2⟩
  obtain ⟨i2, c2, rfl⟩ := hp2.form
  go_wp2_with fail
  refine (number_any id _ h0 h1).mono ?_
  rintro e w3 ⟨f3, rfl, hp3, hB3⟩
  obtain ⟨i3, c3, rfl⟩ := hp3.form
  go_wp2_with fail
  have hBa : Below w3.heap.size w3 (w3.alloc (.cells #[.func (.func i1) #[] c1, .func (.func i2) #[] c2, .func (.func i3) #[] c3] 55)) := (Below.refl _ _).alloc (Nat.le_refl _) _
  have q1 := (((hp1).below hB2).below hB3).below hBa
  have q2 := ((hp2).below hB3).below hBa
  have q3 := (hp3).below hBa
  refine (key_any _ 3 [.func (.func i1) #[] c1, .func (.func i2) #[] c2, .func (.func i3) #[] c3] [(beB 1 (event % 256).toNat, inB 0 3 event), (textB s.data.toList, personB s.data.toList), (beB 4 id.toNat, true)] _ rfl (by simp) (by simp) ?_ ?_ (by simp [beB_length]; have := textB_le s.data.toList; omega)).mono ?_
  · exact fun j f hf => cells_lit _ _ _ j f hf
  · intro j f p hf hpp
    match j, hf, hpp with
    | 0, hf, hpp => cases hf; cases hpp; exact q1
    | 1, hf, hpp => cases hf; cases hpp; exact q2
    | 2, hf, hpp => cases hf; cases hpp; exact q3
    | j + 3, hf, hpp => simp at hf
  rintro e w' ⟨rfl, hB⟩
  go_wp2
  go_ret
  exact ⟨rfl, ((((hB1).trans (hB2.mono (hB1).size)).trans (hB3.mono ((hB1).trans (hB2.mono (hB1).size)).size)).trans (hBa.mono (((hB1).trans (hB2.mono (hB1).size)).trans (hB3.mono ((hB1).trans (hB2.mono (hB1).size)).size)).size)).trans (hB.mono ((((hB1).trans (hB2.mono (hB1).size)).trans (hB3.mono ((hB1).trans (hB2.mono (hB1).size)).size)).trans (hBa.mono (((hB1).trans (hB2.mono (hB1).size)).trans (hB3.mono ((hB1).trans (hB2.mono (hB1).size)).size)).size)).size)⟩

set_option maxHeartbeats 4000000 in
theorem Number_any (id : Int) (w : World) (h0 : 0 ≤ id) (h1 : id < 4294967296) : Calls Tryd.prog 14 #[.int .u32 id] w fun e w' => e = .returned (.string ⟨(kNumber id).toArray⟩) ∧ Below w.heap.size w w' := by
  go_enter Tryd.func14, Tryd.ntmps14
  go_wp2_with fail
  refine (number_any id _ h0 h1).mono ?_
  rintro e w1 ⟨f1, rfl, hp1, hB1⟩
  obtain ⟨i1, c1, rfl⟩ := hp1.form
  go_wp2_with fail
  have hBa : Below w1.heap.size w1 (w1.alloc (.cells #[.func (.func i1) #[] c1] 55)) := (Below.refl _ _).alloc (Nat.le_refl _) _
  have q1 := (hp1).below hBa
  refine (key_any _ 1 [.func (.func i1) #[] c1] [(beB 4 id.toNat, true)] _ rfl (by simp) (by simp) ?_ ?_ (by simp [beB_length])).mono ?_
  · exact fun j f hf => cells_lit _ _ _ j f hf
  · intro j f p hf hpp
    match j, hf, hpp with
    | 0, hf, hpp => cases hf; cases hpp; exact q1
    | j + 1, hf, hpp => simp at hf
  rintro e w' ⟨rfl, hB⟩
  go_wp2
  go_ret
  exact ⟨rfl, ((hB1).trans (hBa.mono (hB1).size)).trans (hB.mono ((hB1).trans (hBa.mono (hB1).size)).size)⟩

set_option maxHeartbeats 4000000 in
theorem Event_any (event : Int) (w : World) : Calls Tryd.prog 16 #[.int .i64 event] w fun e w' => e = .returned (.string ⟨(kEvent event).toArray⟩) ∧ Below w.heap.size w w' := by
  go_enter Tryd.func16, Tryd.ntmps16
  go_wp2_with fail
  refine (of_any event _).mono ?_
  rintro e w1 ⟨f1, rfl, hp1, hB1⟩
  obtain ⟨i1, c1, rfl⟩ := hp1.form
  go_wp2_with fail
  have hBa : Below w1.heap.size w1 (w1.alloc (.cells #[.func (.func i1) #[] c1] 55)) := (Below.refl _ _).alloc (Nat.le_refl _) _
  have q1 := (hp1).below hBa
  refine (key_any _ 1 [.func (.func i1) #[] c1] [(beB 1 (event % 256).toNat, inB 0 3 event)] _ rfl (by simp) (by simp) ?_ ?_ (by simp [beB_length])).mono ?_
  · exact fun j f hf => cells_lit _ _ _ j f hf
  · intro j f p hf hpp
    match j, hf, hpp with
    | 0, hf, hpp => cases hf; cases hpp; exact q1
    | j + 1, hf, hpp => simp at hf
  rintro e w' ⟨rfl, hB⟩
  go_wp2
  go_ret
  exact ⟨rfl, ((hB1).trans (hBa.mono (hB1).size)).trans (hB.mono ((hB1).trans (hBa.mono (hB1).size)).size)⟩

set_option maxHeartbeats 4000000 in
theorem Map_any (event : Int) (m : Int) (w : World) : Calls Tryd.prog 18 #[.int .i64 event, .int .i64 m] w fun e w' => e = .returned (.string ⟨(kMap event m).toArray⟩) ∧ Below w.heap.size w w' := by
  go_enter Tryd.func18, Tryd.ntmps18
  go_wp2_with fail
  refine (of_any event _).mono ?_
  rintro e w1 ⟨f1, rfl, hp1, hB1⟩
  obtain ⟨i1, c1, rfl⟩ := hp1.form
  go_wp2_with fail
  refine (which_any m _).mono ?_
  rintro e w2 ⟨f2, rfl, hp2, hB2⟩
  obtain ⟨i2, c2, rfl⟩ := hp2.form
  go_wp2_with fail
  have hBa : Below w2.heap.size w2 (w2.alloc (.cells #[.func (.func i1) #[] c1, .func (.func i2) #[] c2] 55)) := (Below.refl _ _).alloc (Nat.le_refl _) _
  have q1 := ((hp1).below hB2).below hBa
  have q2 := (hp2).below hBa
  refine (key_any _ 2 [.func (.func i1) #[] c1, .func (.func i2) #[] c2] [(beB 1 (event % 256).toNat, inB 0 3 event), (beB 1 (m % 256).toNat, inB 1 2 m)] _ rfl (by simp) (by simp) ?_ ?_ (by simp [beB_length])).mono ?_
  · exact fun j f hf => cells_lit _ _ _ j f hf
  · intro j f p hf hpp
    match j, hf, hpp with
    | 0, hf, hpp => cases hf; cases hpp; exact q1
    | 1, hf, hpp => cases hf; cases hpp; exact q2
    | j + 2, hf, hpp => simp at hf
  rintro e w' ⟨rfl, hB⟩
  go_wp2
  go_ret
  exact ⟨rfl, (((hB1).trans (hB2.mono (hB1).size)).trans (hBa.mono ((hB1).trans (hB2.mono (hB1).size)).size)).trans (hB.mono (((hB1).trans (hB2.mono (hB1).size)).trans (hBa.mono ((hB1).trans (hB2.mono (hB1).size)).size)).size)⟩

set_option maxHeartbeats 4000000 in
theorem Persons_any (event : Int) (s : ByteArray) (w : World) (hG : GP w) (hs : s.size ≤ 140737488351232) : Calls Tryd.prog 20 #[.int .i64 event, .string s] w fun e w' => e = .returned (.string ⟨(kPersons event s.data.toList).toArray⟩) ∧ Below w.heap.size w w' := by
  go_enter Tryd.func20, Tryd.ntmps20
  go_wp2_with fail
  refine (of_any event _).mono ?_
  rintro e w1 ⟨f1, rfl, hp1, hB1⟩
  obtain ⟨i1, c1, rfl⟩ := hp1.form
  go_wp2_with fail
  refine (named_any s _ (hG.below (hB1)) hs).mono ?_
  rintro e w2 ⟨f2, rfl, hp2, hB2⟩
  obtain ⟨i2, c2, rfl⟩ := hp2.form
  go_wp2_with fail
  have hBa : Below w2.heap.size w2 (w2.alloc (.cells #[.func (.func i1) #[] c1, .func (.func i2) #[] c2] 55)) := (Below.refl _ _).alloc (Nat.le_refl _) _
  have q1 := ((hp1).below hB2).below hBa
  have q2 := (hp2).below hBa
  refine (key_any _ 2 [.func (.func i1) #[] c1, .func (.func i2) #[] c2] [(beB 1 (event % 256).toNat, inB 0 3 event), (textB s.data.toList, personB s.data.toList)] _ rfl (by simp) (by simp) ?_ ?_ (by simp [beB_length]; have := textB_le s.data.toList; omega)).mono ?_
  · exact fun j f hf => cells_lit _ _ _ j f hf
  · intro j f p hf hpp
    match j, hf, hpp with
    | 0, hf, hpp => cases hf; cases hpp; exact q1
    | 1, hf, hpp => cases hf; cases hpp; exact q2
    | j + 2, hf, hpp => simp at hf
  rintro e w' ⟨rfl, hB⟩
  go_wp2
  go_ret
  exact ⟨rfl, (((hB1).trans (hB2.mono (hB1).size)).trans (hBa.mono ((hB1).trans (hB2.mono (hB1).size)).size)).trans (hB.mono (((hB1).trans (hB2.mono (hB1).size)).trans (hBa.mono ((hB1).trans (hB2.mono (hB1).size)).size)).size)⟩

end Go.Proofs.YtdnnbnohemkfkaaDoor
