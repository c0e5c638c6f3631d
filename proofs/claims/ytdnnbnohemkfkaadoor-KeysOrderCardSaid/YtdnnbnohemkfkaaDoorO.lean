/- KeysEnds: the walk. -/
import Derived.Test.YtdnnbnohemkfkaaDoorN
import Derived.Test.YtdnnbnohemkfkaaDoorL
import Derived.Lib.Strings
namespace Go.Proofs.YtdnnbnohemkfkaaDoor
open Go.RowKit
set_option linter.unusedVariables false

theorem prefix_take (p s : List UInt8) (h : p.length ≤ s.length) : (s.take p.length == p) = p.isPrefixOf s := by
  rw [Bool.eq_iff_iff, beq_iff_eq, List.isPrefixOf_iff_prefix]
  constructor
  · intro e; rw [← e]; exact List.take_prefix _ _
  · rintro ⟨r, rfl⟩; simp
theorem prefix_long (p s : List UInt8) (h : s.length < p.length) : p.isPrefixOf s = false := by
  rw [Bool.eq_false_iff, Ne, List.isPrefixOf_iff_prefix]
  intro hp
  have := hp.length_le
  omega

/-- Whether s begins with p. -/
def beginsB (p s : ByteArray) : Bool := p.data.toList.isPrefixOf s.data.toList

set_option maxHeartbeats 1000000 in
theorem begins_any (s p : ByteArray) (w : World) (hs : s.size ≤ 140737488351232) (hp : p.size ≤ 140737488351232) : Calls Tryd.prog 24 #[.string s, .string p] w fun e w' => e = .returned (.bool (beginsB p s)) ∧ w' = w := by
  have h1 := size_toList s
  have h2 := size_toList p
  by_cases h : (p.size : Int) ≤ (s.size : Int)
  · have HQ : Hid (beginsB p s = ((s.extract 0 p.size).toList == p.toList)) := by
      show p.data.toList.isPrefixOf s.data.toList = _
      rw [← prefix_take _ _ (by omega), h2, ByteArray.toList_eq, ByteArray.toList_eq, Lib.extract_data]
      simp only [List.drop_zero, Nat.sub_zero]
    clear h1 h2
    go_enter Tryd.func24, Tryd.ntmps24
    go_wp2
    go_ret
    exact ⟨by rw [HQ.out]; rfl, rfl⟩
  · have HF : Hid (beginsB p s = false) := prefix_long _ _ (by omega)
    clear h1 h2
    go_enter Tryd.func24, Tryd.ntmps24
    go_wp2
    go_ret
    exact ⟨by rw [HF.out]; rfl, rfl⟩

/-- Whether the first j bytes are all 255. -/
def allB (p : ByteArray) (j : Nat) : Bool := (p.data.toList.take j).all (· == 255)
theorem allB_succ (p : ByteArray) (j : Nat) (h : j < p.size) : allB p (j + 1) = (allB p j && (p[j] == 255)) := by
  unfold allB
  rw [take_succ' p j h, List.all_append]
  simp
theorem allB_end (p : ByteArray) : allB p p.size = (kEnd p.data.toList).isEmpty := by
  unfold allB
  rw [List.take_of_length_le (by rw [size_toList]; exact Nat.le_refl _), kEnd_nil_iff]

theorem byte_eq (x : UInt8) : ((x.toNat : Int) == 255) = (x == 255) := by
  rw [Bool.eq_iff_iff, beq_iff_eq, beq_iff_eq]
  constructor
  · intro h; exact UInt8.toNat_inj.1 (by simp; omega)
  · rintro rfl; rfl

theorem run_min {P : Program} (ts : Array TypeId) (ty : TypeId) (a b : Int) (W : World) : (Builtin.min_ ts ty #[.int .i64 a, .int .i64 b]).run P W = .ok (.int .i64 (if b < a then b else a)) W := by
  simp [Builtin.min_, Builtin.min2]

theorem cut_str {P : Program} (t : TypeId) (ht : P.underlying t = some .string) (s : ByteArray) (n : Int) (h0 : 0 ≤ n) (h1 : n ≤ s.size) :
    ∃ q : ByteArray, q.size = n.toNat ∧ q.data.toList = s.data.toList.take n.toNat ∧ ∀ W, (Instr.slice t (.string s) none (some (.int .i64 n)) none).run P W = .ok (.string q) W := by
  refine ⟨s.extract 0 n.toNat, by rw [ByteArray.size_extract]; omega, by rw [Lib.extract_data]; simp, fun W => ?_⟩
  exact run_slice_string_h W t s ht .i64 n h0 h1

set_option maxRecDepth 100000 in
set_option maxHeartbeats 4000000 in
theorem ends_any (s t : ByteArray) (n : Int) (w : World) (hG : GP w) (hs : s.size ≤ 140737488351232) (ht : t.size ≤ 140737488351232) (h0 : 0 ≤ n) (h1 : n < 256) :
    Calls Tryd.prog 4 #[.string s, .string t, .int .u8 n] w fun e w' => e = .returned (.bool true) ∧ Below w.heap.size w w' := by
  have HB := Below.refl w.heap.size w
  obtain ⟨m1, hm1, hm1'⟩ : ∃ m : Int, (if (100 : Int) < (s.size : Int) then 100 else (s.size : Int)) = m ∧ 0 ≤ m ∧ m ≤ s.size ∧ m ≤ 100 := ⟨_, rfl, by split <;> omega, by split <;> omega, by split <;> omega⟩
  obtain ⟨m2, hm2, hm2'⟩ : ∃ m : Int, (if (100 : Int) < (t.size : Int) then 100 else (t.size : Int)) = m ∧ 0 ≤ m ∧ m ≤ t.size ∧ m ≤ 100 := ⟨_, rfl, by split <;> omega, by split <;> omega, by split <;> omega⟩
  have r1 := fun ts ty W => run_min (P := Tryd.prog) ts ty (s.size : Int) 100 W
  have r2 := fun ts ty W => run_min (P := Tryd.prog) ts ty (t.size : Int) 100 W
  rw [hm1] at r1
  rw [hm2] at r2
  obtain ⟨s1, hs1, _, c1⟩ := cut_str (P := Tryd.prog) 9 Tryd.underlying9 s m1 hm1'.1 hm1'.2.1
  obtain ⟨t1, ht1, _, c2⟩ := cut_str (P := Tryd.prog) 9 Tryd.underlying9 t m2 hm2'.1 hm2'.2.1
  have hs1' : s1.size ≤ 100 := by omega
  have ht1' : t1.size ≤ 100 := by omega
  clear hm1 hm2 hs1 ht1
  have hj0 : 0 ≤ n % ((s1.size : Int) + 1) := Int.emod_nonneg _ (by omega)
  have hj1 : n % ((s1.size : Int) + 1) ≤ s1.size := by have := Int.emod_lt_of_pos n (show 0 < (s1.size : Int) + 1 by omega); omega
  obtain ⟨q1, hq1, _, c3⟩ := cut_str (P := Tryd.prog) 9 Tryd.underlying9 s1 (n % ((s1.size : Int) + 1)) hj0 hj1
  have hq1' : q1.size ≤ 100 := by omega
  clear hq1
  go_enter Tryd.func4, Tryd.ntmps4
  go_wp2_with (go_at_call 22; refine (works_any _ (hG.below HB)).mono ?_; rintro e w' ⟨rfl, hB⟩; replace HB := bstep HB hB; clear hB)
  go_quiet (fail)
  replace HB := below_drewN HB nq
  generalize w'.drewN nq = w1 at HB ⊢
  go_wp2_with fail
  clear hs ht hm1' hm2' r1 r2 c1 c2 c3 hj0 hj1
  obtain ⟨B, hBB⟩ : ∃ B, B = w1.heap.size := ⟨_, rfl⟩
  have HB1 : Below w.heap.size w (w1.alloc (.cells #[.string t1, .string q1] 33)) := HB.alloc HB.size _
  have hwB : w.heap.size ≤ B := by rw [hBB]; exact HB.size
  have d0 : (w1.alloc (.cells #[.string t1, .string q1] 33)).cell? ⟨B, 0, none⟩ = some (.string t1) := by rw [hBB]; exact cell_of_row _ _ 0 _ _ _ (heap_alloc_new w1 _)
  have d1 : (w1.alloc (.cells #[.string t1, .string q1] 33)).cell? ⟨B, 1, none⟩ = some (.string q1) := by rw [hBB]; exact cell_of_row _ _ 1 _ _ _ (heap_alloc_new w1 _)
  rw [← hBB]
  generalize (w1.alloc (.cells #[.string t1, .string q1] 33)) = w2 at HB1 d0 d1 ⊢
  clear HB hBB
  go_loopw [8] (fun i wr => ∃ k : Nat, k ≤ 2 ∧ i = .int .i64 k ∧ Below w.heap.size w wr ∧ wr.cell? ⟨B, 0, none⟩ = some (.string t1) ∧ wr.cell? ⟨B, 1, none⟩ = some (.string q1)) (fun i _ => 2 - (intOf i).toNat)
  case atStart => exact ⟨0, by omega, rfl, HB1, d0, d1⟩
  case round =>
    clear HB1 d0 d1
    obtain ⟨k, hk, rfl, HB, d0, d1⟩ := hrel
    by_cases hk2 : k < 2
    · obtain ⟨p, hp, hc⟩ : ∃ p : ByteArray, p.size ≤ 100 ∧ wr.cell? ⟨B, k, none⟩ = some (.string p) := by
        rcases k with _ | _ | k
        · exact ⟨t1, ht1', d0⟩
        · exact ⟨q1, hq1', d1⟩
        · omega
      go_wp2_with (go_at_call 23; refine (end_any _ _ (by omega)).mono ?_; rintro e w' ⟨rfl, hB⟩; have hc' := (hB.cell (World.block_lt_of_cell? wr _ hc)).trans hc; have d0' := (hB.cell (World.block_lt_of_cell? wr _ d0)).trans d0; have d1' := (hB.cell (World.block_lt_of_cell? wr _ d1)).trans d1; replace HB := bstep HB hB; clear hB)
      clear hc d0 d1
      go_loop [10, 11] (fun a i => ∃ j : Nat, j ≤ p.size ∧ i = .int .i64 j ∧ a = .bool (allB p j)) (fun _ i => p.size - (intOf i).toNat)
      case atStart => exact ⟨0, Nat.zero_le _, rfl, rfl⟩
      case round =>
        obtain ⟨j, hj, rfl, rfl⟩ := hrel
        by_cases hjl : j < p.size
        · have HA : Hid (allB p (j + 1) = (allB p j && (p[j] == 255))) := allB_succ p j hjl
          cases hab : allB p j with
          | false =>
            have HAB := Lib.hid hab
            clear hab
            go_wp2
            go_round
            case rel => exact ⟨j + 1, by omega, by go_num, by rw [HA.out, HAB.out]; rfl⟩
            case measure => simp [intOf]; omega
          | true =>
            have HAB := Lib.hid hab
            clear hab
            go_wp2
            go_round
            case rel => exact ⟨j + 1, by omega, by go_num, by rw [HA.out, HAB.out, Bool.true_and]; exact congrArg Value.bool (byte_eq _)⟩
            case measure => simp [intOf]; omega
        · have hje : j = p.size := by omega
          have HA : Hid (allB p j = (kEnd p.data.toList).isEmpty) := by rw [hje]; exact allB_end p
          have HL := ends_law p.data.toList s1.data.toList
          have hbg : beginsB p s1 = p.data.toList.isPrefixOf s1.data.toList := rfl
          rw [← hbg] at HL
          rw [← ByteArray.toList_eq s1, ← ByteArray.toList_eq p] at HL
          have HA2 : Hid (allB p j = (kEnd p.toList).isEmpty) := by rw [ByteArray.toList_eq]; exact HA
          clear hje hbg HA
          rw [← ByteArray.toList_eq p]
          generalize kEnd p.toList = en at *
          rw [HA2.out]
          cases h1 : Op.bytesLess s1.toList p.toList with
          | true =>
            rw [h1] at HL
            have hb : beginsB p s1 = false := by rw [HL]; rfl
            clear HL
            go_wp2_with fail
            go_quiet ((go_at_call 24; exact Calls.quiet_of_same (begins_any s1 p _ (by omega) (by omega))))
            go_wp2_with fail
            go_roundw
            case rel => exact ⟨k + 1, by omega, by go_num, below_drewN HB _, d0', d1'⟩
            case measure => simp [intOf]; omega
          | false =>
            rw [h1] at HL
            cases h2 : en.isEmpty with
            | true =>
              rw [h2] at HL
              have hb : beginsB p s1 = true := by rw [HL]; rfl
              clear HL
              go_wp2_with fail
              go_quiet ((go_at_call 24; exact Calls.quiet_of_same (begins_any s1 p _ (by omega) (by omega))))
              go_wp2_with fail
              go_roundw
              case rel => exact ⟨k + 1, by omega, by go_num, below_drewN HB _, d0', d1'⟩
              case measure => simp [intOf]; omega
            | false =>
              rw [h2] at HL
              cases h3 : Op.bytesLess s1.toList en with
              | true =>
                rw [h3] at HL
                have hb : beginsB p s1 = true := by rw [HL]; rfl
                clear HL
                go_wp2_with fail
                go_quiet ((go_at_call 24; exact Calls.quiet_of_same (begins_any s1 p _ (by omega) (by omega))))
                go_wp2_with fail
                go_roundw
                case rel => exact ⟨k + 1, by omega, by go_num, below_drewN HB _, d0', d1'⟩
                case measure => simp [intOf]; omega
              | false =>
                rw [h3] at HL
                have hb : beginsB p s1 = false := by rw [HL]; rfl
                clear HL
                go_wp2_with fail
                go_quiet ((go_at_call 24; exact Calls.quiet_of_same (begins_any s1 p _ (by omega) (by omega))))
                go_wp2_with fail
                go_roundw
                case rel => exact ⟨k + 1, by omega, by go_num, below_drewN HB _, d0', d1'⟩
                case measure => simp [intOf]; omega
    · go_wp2
      go_ret
      exact ⟨rfl, HB⟩
end Go.Proofs.YtdnnbnohemkfkaaDoor
