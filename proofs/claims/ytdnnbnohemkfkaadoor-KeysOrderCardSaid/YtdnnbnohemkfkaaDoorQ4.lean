/- The references of layer 17: what is read. -/
import Derived.Test.YtdnnbnohemkfkaaDoorQ1
import Derived.Test.YtdnnbnohemkfkaaDoorM
import Derived.Test.YtdnnbnohemkfkaaDoorP8
namespace Go.Proofs.YtdnnbnohemkfkaaDoor
open Go.RowKit
set_option linter.unusedVariables false

/-- A text's byte. -/
def byteAt (q : ByteArray) (k : Nat) : Int := (q.data.toList.getD k 0).toNat
theorem byteAt_bounds (q : ByteArray) (k : Nat) : 0 ≤ byteAt q k ∧ byteAt q k < 256 := by
  unfold byteAt
  have := (q.data.toList.getD k 0).toNat_lt
  omega
theorem run_index_at {P : Program} (T : TypeId) (hT : P.underlying T = some .string) (q : ByteArray) (k : Nat) (h : k < q.size) (W : World) :
    (Instr.index T (.string q) (.int .i64 (k : Int))).run P W = .ok (.int .u8 (byteAt q k)) W := by
  rw [run_index_string (P := P) W T q .i64 (k : Int) hT, dif_pos (by omega)]
  have hlt : k < q.data.size := h
  have hg : q.data[k] = q.data.toList.getD k 0 := by
    rw [List.getD_eq_getElem?_getD, List.getElem?_eq_getElem (by rw [Array.length_toList]; exact hlt)]
    simp
  exact congrArg (fun z : UInt8 => Result.ok (Value.int .u8 (z.toNat : Int)) W) hg

/-- The number of the last four bytes. -/
def lastB (q : ByteArray) : Int := be4 (dropB q (q.size - 4))
theorem lastB_bounds (q : ByteArray) : 0 ≤ lastB q ∧ lastB q < 4294967296 := be4_bounds _
theorem lastB_eq (q : ByteArray) (m : Nat) (h : q.size = m + 4) : lastB q = ((byteAt q m * 256 + byteAt q (m + 1)) * 256 + byteAt q (m + 2)) * 256 + byteAt q (m + 3) := by
  unfold lastB be4 byteAt
  rw [h, dropB_list, Nat.add_sub_cancel]
  simp [List.getD_eq_getElem?_getD, List.getElem?_drop]

set_option maxRecDepth 100000 in
set_option maxHeartbeats 2000000 in
theorem last_any (q : ByteArray) (w : World) (h : 4 ≤ q.size) (hq : q.size ≤ 140737488351232 := by assumption) : Calls Tryd.prog 59 #[.string q] w fun e w' => e = .returned (.int .u32 (lastB q)) ∧ w' = w := by
  obtain ⟨m, hm⟩ : ∃ m, q.size = m + 4 := ⟨q.size - 4, by omega⟩
  have HE : Hid (lastB q = _) := lastB_eq q m hm
  have i0 : ∀ W, (Instr.index 9 (.string q) (.int .i64 (m : Int))).run Tryd.prog W = .ok (.int .u8 (byteAt q m)) W := fun W => run_index_at 9 Tryd.underlying9 q m (by omega) W
  have i1 : ∀ W, (Instr.index 9 (.string q) (.int .i64 ((m : Int) + 1))).run Tryd.prog W = .ok (.int .u8 (byteAt q (m + 1))) W := fun W => run_index_at 9 Tryd.underlying9 q (m + 1) (by omega) W
  have i2 : ∀ W, (Instr.index 9 (.string q) (.int .i64 ((m : Int) + 1 + 1))).run Tryd.prog W = .ok (.int .u8 (byteAt q (m + 2))) W := fun W => run_index_at 9 Tryd.underlying9 q (m + 2) (by omega) W
  have i3 : ∀ W, (Instr.index 9 (.string q) (.int .i64 ((m : Int) + 1 + 1 + 1))).run Tryd.prog W = .ok (.int .u8 (byteAt q (m + 3))) W := fun W => run_index_at 9 Tryd.underlying9 q (m + 3) (by omega) W
  have b0 := byteAt_bounds q m
  have b1 := byteAt_bounds q (m + 1)
  have b2 := byteAt_bounds q (m + 2)
  have b3 := byteAt_bounds q (m + 3)
  go_enter Tryd.func59, Tryd.ntmps59
  go_wp2_with fail
  refine wp_loop_rounds 5 ?_
  rw [rounds_succ]
  go_wp2
  rw [rounds_succ]
  go_wp2
  rw [rounds_succ]
  go_wp2
  rw [rounds_succ]
  go_wp2
  rw [rounds_succ]
  go_wp2
  go_returns
  rw [HE.out]
  exact ⟨rfl, rfl⟩

theorem tl (q : ByteArray) : q.toList = q.data.toList := ByteArray.toList_eq q
theorem kId_len (e id : Int) : (kId e id).length ≤ 5 := by
  unfold kId
  rw [keyB_two]
  split <;> simp [beB_len]
theorem kSeat_len (e m s : Int) : (kSeat e m s).length ≤ 3 := by
  unfold kSeat
  rw [keyB_three]
  split <;> simp [beB_len]

theorem rdId_eq (q : ByteArray) : rdId q = if q.size = 5 ∧ rId (be1 q) (lastB q) = q.toList then some (be1 q, lastB q) else none := by
  have hl : q.toList.length = q.size := by rw [tl, size_toList]
  unfold rdId
  by_cases h5 : q.size = 5
  · have e1 : lastB q = be4 (dropB q 1) := by unfold lastB; rw [h5]
    rw [e1, rId_eq]
    by_cases h : q.toList = kId (be1 q) (be4 (dropB q 1))
    · rw [if_pos ⟨by omega, h⟩, if_pos ⟨h5, h.symm⟩]
    · rw [if_neg (fun k => h k.2), if_neg (fun k => h k.2.symm)]
  · rw [if_neg (fun k => h5 k.1 : ¬ (q.size = 5 ∧ _)), if_neg]
    rintro ⟨h1, h2⟩
    have := kId_len (be1 q) (be4 (dropB q 1))
    rw [← h2, hl] at this
    omega

theorem ret3 {a b : Int} {c : Bool} {x y : Int} {z : Bool} {k1 k2 : IntKind} (h1 : a = x) (h2 : b = y) (h3 : c = z) : Ending.returned (.tuple #[.int k1 a, .int k2 b, .bool c]) = Ending.returned (.tuple #[.int k1 x, .int k2 y, .bool z]) := by rw [h1, h2, h3]

set_option maxRecDepth 100000 in
set_option maxHeartbeats 2000000 in
theorem rReadId_any (q : ByteArray) (w : World) (hq : q.size ≤ 140737488351232) : Calls Tryd.prog 41 #[.string q] w fun e w' => e = .returned (.tuple #[.int .i64 (fst0 (rdId q)), .int .u32 (snd0 (rdId q)), .bool (rdId q).isSome]) ∧ Below w.heap.size w w' := by
  have HB := Below.refl w.heap.size w
  have HE := Lib.hid (rdId_eq q)
  by_cases h5 : q.size = 5
  · have b0 := be1_bounds q
    have i0 : ∀ W, (Instr.index 9 (.string q) (.int .i64 0)).run Tryd.prog W = .ok (.int .u8 (be1 q)) W := fun W => run_index_at 9 Tryd.underlying9 q 0 (by omega) W
    go_enter Tryd.func41, Tryd.ntmps41
    go_wp2_with fail
    replace HB := HB.drew
    have hw : IntKind.i64.wrap (be1 q) = be1 q := IntWalk.i64_in _ (by omega)
    go_region_with (first | (go_at_call 59; refine (last_any _ _ (by omega)).mono ?_; rintro e w1 ⟨rfl, rfl⟩) | (go_at_call 9; refine (rId_any _ _ _ (lastB_bounds _).1 (lastB_bounds _).2).mono ?_; rintro e w1 ⟨rfl, hB⟩; have HB1 := HB.trans (hB.mono HB.size); clear hB))
    all_goals
      go_wp2_with fail
      · go_returns
        have hx : (!rId (be1 q) (lastB q) == q.toList) = true := by assumption
        rw [HE.out, if_neg (fun k => by rw [k.2] at hx; simp at hx)]
        exact ⟨rfl, HB1⟩
      · go_quiet ((first | (go_at_call 59; exact Calls.quiet_of_same (last_any _ _ (by omega)))))
        go_wp2
        go_returns
        have hx : (!rId (be1 q) (lastB q) == q.toList) = false := by assumption
        rw [HE.out, if_pos ⟨h5, by simpa using hx⟩]
        exact ⟨rfl, below_drewN HB1 _⟩
  · have n1 : ((q.size : Int) == 5) = false := by simp; omega
    have n2 : ((q.size : Int) != 5) = true := by simp; omega
    go_enter Tryd.func41, Tryd.ntmps41
    go_wp2_with fail
    go_quiet (fail)
    go_wp2
    go_returns
    rw [HE.out, if_neg (fun h => h5 h.1)]
    exact ⟨rfl, below_drewN HB _⟩

/-- Of what a number's key is. -/
theorem rdNumber_eq (q : ByteArray) : rdNumber q = if q.size = 4 then some (lastB q) else none := by
  unfold rdNumber lastB
  by_cases h : q.size = 4
  · rw [if_pos h, if_pos h, h]
    congr 1
  · rw [if_neg h, if_neg h]

set_option maxRecDepth 100000 in
set_option maxHeartbeats 2000000 in
theorem rReadNumber_any (q : ByteArray) (w : World) (hq : q.size ≤ 140737488351232) : Calls Tryd.prog 44 #[.string q] w fun e w' => e = .returned (.tuple #[.int .u32 ((rdNumber q).getD 0), .bool (rdNumber q).isSome]) ∧ w' = w := by
  have HE := Lib.hid (rdNumber_eq q)
  by_cases h5 : q.size = 4
  · go_enter Tryd.func44, Tryd.ntmps44
    go_wp2_with (first | (go_at_call 59; refine (last_any _ _ (by omega)).mono ?_; rintro e w1 ⟨rfl, rfl⟩))
    go_returns
    rw [HE.out, if_pos h5]
    exact ⟨rfl, rfl⟩
  · have n1 : ((q.size : Int) == 4) = false := by simp; omega
    have n2 : ((q.size : Int) != 4) = true := by simp; omega
    go_enter Tryd.func44, Tryd.ntmps44
    go_wp2_with fail
    go_returns
    rw [HE.out, if_neg h5]
    exact ⟨rfl, rfl⟩

/-- Of what a seat's key is. -/
def rdSeat (q : ByteArray) : Option (Int × Int × Int) := if q.size = 3 ∧ rSeat (byteAt q 0) (byteAt q 1) (byteAt q 2) = q.toList then some (byteAt q 0, byteAt q 1, byteAt q 2) else none
def s1 (o : Option (Int × Int × Int)) : Int := match o with | some x => x.1 | none => 0
def s2 (o : Option (Int × Int × Int)) : Int := match o with | some x => x.2.1 | none => 0
def s3 (o : Option (Int × Int × Int)) : Int := match o with | some x => x.2.2 | none => 0

set_option maxRecDepth 100000 in
set_option maxHeartbeats 4000000 in
theorem rReadSeat_any (q : ByteArray) (w : World) (hq : q.size ≤ 140737488351232) : Calls Tryd.prog 42 #[.string q] w fun e w' => e = .returned (.tuple #[.int .i64 (s1 (rdSeat q)), .int .i64 (s2 (rdSeat q)), .int .i64 (s3 (rdSeat q)), .bool (rdSeat q).isSome]) ∧ Below w.heap.size w w' := by
  have HB := Below.refl w.heap.size w
  have HE := Lib.hid (rdSeat.eq_1 q)
  by_cases h5 : q.size = 3
  · have b0 := byteAt_bounds q 0
    have b1 := byteAt_bounds q 1
    have b2 := byteAt_bounds q 2
    have i0 : ∀ W, (Instr.index 9 (.string q) (.int .i64 0)).run Tryd.prog W = .ok (.int .u8 (byteAt q 0)) W := fun W => run_index_at 9 Tryd.underlying9 q 0 (by omega) W
    have i1 : ∀ W, (Instr.index 9 (.string q) (.int .i64 1)).run Tryd.prog W = .ok (.int .u8 (byteAt q 1)) W := fun W => run_index_at 9 Tryd.underlying9 q 1 (by omega) W
    have i2 : ∀ W, (Instr.index 9 (.string q) (.int .i64 2)).run Tryd.prog W = .ok (.int .u8 (byteAt q 2)) W := fun W => run_index_at 9 Tryd.underlying9 q 2 (by omega) W
    go_enter Tryd.func42, Tryd.ntmps42
    go_wp2_with fail
    replace HB := HB.drew
    have w0 : IntKind.i64.wrap (byteAt q 0) = byteAt q 0 := IntWalk.i64_in _ (by omega)
    have w1 : IntKind.i64.wrap (byteAt q 1) = byteAt q 1 := IntWalk.i64_in _ (by omega)
    have w2 : IntKind.i64.wrap (byteAt q 2) = byteAt q 2 := IntWalk.i64_in _ (by omega)
    go_region_with (first | (go_at_call 11; refine (rSeat_any _ _ _ _).mono ?_; rintro e w1 ⟨rfl, hB⟩; have HB1 := HB.trans (hB.mono HB.size); clear hB))
    all_goals
      go_wp2_with fail
      · go_returns
        have hx : (!rSeat (byteAt q 0) (byteAt q 1) (byteAt q 2) == q.toList) = true := by assumption
        rw [HE.out, if_neg (fun k => by rw [k.2] at hx; simp at hx)]
        exact ⟨rfl, HB1⟩
      · go_quiet (fail)
        go_wp2
        go_returns
        have hx : (!rSeat (byteAt q 0) (byteAt q 1) (byteAt q 2) == q.toList) = false := by assumption
        rw [HE.out, if_pos ⟨h5, by simpa using hx⟩]
        exact ⟨rfl, below_drewN HB1 _⟩
  · have n1 : ((q.size : Int) == 3) = false := by simp; omega
    have n2 : ((q.size : Int) != 3) = true := by simp; omega
    go_enter Tryd.func42, Tryd.ntmps42
    go_wp2_with fail
    go_quiet (fail)
    go_wp2
    go_returns
    rw [HE.out, if_neg (fun h => h5 h.1)]
    exact ⟨rfl, below_drewN HB _⟩
end Go.Proofs.YtdnnbnohemkfkaaDoor
