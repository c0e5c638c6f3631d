/- The reference of layer 17: ends. -/
import Derived.Test.YtdnnbnohemkfkaaDoorK
import Derived.Test.YtdnnbnohemkfkaaDoorP1
namespace Go.Proofs.YtdnnbnohemkfkaaDoor
open Go.RowKit
set_option linter.unusedVariables false

def intv : Value → Nat | .int _ n => n.toNat | _ => 0

theorem go_below_new (w : World) (o : Obj) : Below w.heap.size w (w.alloc o).drew := ((Below.refl _ _).alloc (Nat.le_refl _) o).drew

set_option maxRecDepth 100000 in
set_option maxHeartbeats 4000000 in
theorem rEnd_any (s : ByteArray) (w : World) (hs : s.size ≤ 140737488351232) : Calls Tryd.prog 45 #[.string s] w fun e w' => e = .returned (.string ⟨(kEnd s.data.toList).toArray⟩) ∧ Below w.heap.size w w' := by
  have HS0 : Hid (strip s.data.toList = strip (s.data.toList.take s.size)) := by show strip _ = strip _; rw [List.take_of_length_le (by rw [size_toList]; exact Nat.le_refl _)]
  go_enter Tryd.func45, Tryd.ntmps45
  go_wp2_with fail
  go_loop [3] (fun n => ∃ k : Nat, k ≤ s.size ∧ n = .int .i64 k ∧ Hid (strip s.data.toList = strip (s.data.toList.take k))) (fun n => intv n)
  case atStart => exact ⟨s.size, Nat.le_refl _, rfl, HS0⟩
  case round =>
    obtain ⟨k, hk, rfl, hst⟩ := hrel
    rcases k with _ | m
    · have HE : Hid (kEnd s.data.toList = []) := by
        show kEnd _ = []
        unfold kEnd
        rw [hst.out]
        rfl
      go_wp2
      go_ret
      exact ⟨by rw [HE.out]; rfl, Below.refl _ _⟩
    · have hm : (0 : Int) < ((m + 1 : Nat) : Int) := by omega
      have hml : m < s.data.toList.length := by rw [size_toList]; omega
      have htk : s.data.toList.take (m + 1) = s.data.toList.take m ++ [s[m]] := take_succ' s m (by omega)
      have HT := Lib.hid htk
      clear htk
      go_wp2
      · have h255 : s[m] = 255 := by
          have h : ((s[m].toNat : Int) == 255) = true := by assumption
          apply UInt8.toNat_inj.1
          simp at h ⊢
          omega
        exact ⟨⟨m, by omega, rfl, by show strip _ = strip _; rw [hst.out, HT.out, h255, strip_255]⟩, by simp [intv]⟩
      · have h255 : s[m] ≠ 255 := by
          have h : ((s[m].toNat : Int) == 255) = false := by assumption
          intro e
          rw [e] at h
          simp at h
        have HE : Hid (kEnd s.data.toList = s.data.toList.take m ++ [s[m] + 1]) := by
          show kEnd _ = _
          unfold kEnd
          rw [hst.out, HT.out, strip_other _ _ h255]
          simp
        have hx := s[m].toNat_lt
        have hne : s[m].toNat ≠ 255 := fun e => h255 (UInt8.toNat_inj.1 (by simp; exact e))
        clear h255
        have hlt : (s[m].toNat : Int) + 1 < 256 := by omega
        have hwr : IntKind.u8.wrap ((s[m].toNat : Int) + 1) = (s[m].toNat : Int) + 1 := by simp only [IntKind.wrap_u8]; omega
        have hw1 : IntKind.i64.wrap ((m : Int) + 1 - 1) = (m : Int) := by simp only [IntKind.wrap_i64]; omega
        have hw2 : IntKind.i64.wrap (m : Int) = (m : Int) := by simp only [IntKind.wrap_i64]; omega
        have hsl := run_takeB (P := Tryd.prog) 9 Tryd.underlying9 s m (by omega)
        have hcv : (convert 41 9 (.slice (some ⟨w.heap.size, 0, none⟩) 1 1)).run Tryd.prog ((w.alloc (.cells #[.int .u8 ((s[m].toNat : Int) + 1)] 5)).drew) = .ok (.string ⟨#[s[m] + 1]⟩) ((w.alloc (.cells #[.int .u8 ((s[m].toNat : Int) + 1)] 5)).drew) := by
          have hr : RdB ((w.alloc (.cells #[.int .u8 ((s[m].toNat : Int) + 1)] 5)).drew) (.slice (some ⟨w.heap.size, 0, none⟩) 1 1) [s[m] + 1] := by
            refine ⟨some (w.heap.size, 0), 1, rfl, Nat.le_refl _, (fun h => by cases h), fun p hp j u hu => ?_⟩
            obtain rfl : (w.heap.size, 0) = p := by simpa using hp
            rcases j with _ | j
            · have e1 : ((s[m] + 1).toNat : Int) = (s[m].toNat : Int) + 1 := by rw [UInt8.toNat_add]; simp; omega
              simp only [bv, List.map_cons, List.map_nil, List.getElem?_cons_zero, Option.some.injEq] at hu
              rw [← hu, e1]
              exact cell_of_row _ _ 0 _ _ _ (heap_alloc_new w _)
            · simp [bv] at hu
          exact hr.str 41 9 5 Tryd.underlying41 Tryd.underlying5 Tryd.underlying9
        clear hne
        have hts : (takeB s m).size = m := takeB_size s m (by omega)
        go_region_with fail
        all_goals
          go_wp2
          go_returns
          refine ⟨?_, go_below_new _ _⟩
          rw [HE.out]
          have e1 : takeB s m ++ ⟨#[s[m] + 1]⟩ = ⟨(s.data.toList.take m ++ [s[m] + 1]).toArray⟩ := by
            apply ByteArray.ext
            simp [takeB]
          rw [← e1]
          rfl
end Go.Proofs.YtdnnbnohemkfkaaDoor
