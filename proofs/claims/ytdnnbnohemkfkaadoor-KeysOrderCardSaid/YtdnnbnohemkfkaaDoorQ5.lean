/- The references of layer 17: persons' keys and ends. -/
import Derived.Test.YtdnnbnohemkfkaaDoorQ4
import Derived.Test.YtdnnbnohemkfkaaDoorQ2
import Derived.Test.YtdnnbnohemkfkaaDoorK
namespace Go.Proofs.YtdnnbnohemkfkaaDoor
open Go.RowKit
set_option linter.unusedVariables false

/-- The text between. -/
def midB (q : ByteArray) : ByteArray := dropB (takeB q (q.size - 4)) 2
def rdPer (q : ByteArray) : Option (Int × ByteArray × Int) := if 6 ≤ q.size ∧ rPerson (byteAt q 0) (midB q).data.toList (lastB q) = q.toList then some (byteAt q 0, midB q, lastB q) else none
def pe (o : Option (Int × ByteArray × Int)) : Int := match o with | some x => x.1 | none => 0
def pn (o : Option (Int × ByteArray × Int)) : ByteArray := match o with | some x => x.2.1 | none => ⟨#[]⟩
def pi (o : Option (Int × ByteArray × Int)) : Int := match o with | some x => x.2.2 | none => 0

theorem run_mid {P : Program} (t : TypeId) (ht : P.underlying t = some .string) (q : ByteArray) (h : 6 ≤ q.size) (n : Int) (hn : n = q.size - 4) (W : World) :
    (Instr.slice t (.string q) (some (.int .i64 2)) (some (.int .i64 n)) none).run P W = .ok (.string (midB q)) W := by
  rw [run_slice_string (w := W) t q .i64 .i64 2 n ht (by omega) (by omega) (by omega)]
  congr 2
  apply ByteArray.ext
  rw [← Array.toList_inj, Lib.extract_data]
  have e1 : n.toNat = q.size - 4 := by omega
  simp only [midB, dropB, takeB, List.toList_toArray]
  rw [e1, List.drop_take]
  rfl

set_option maxRecDepth 100000 in
set_option maxHeartbeats 4000000 in
theorem rReadPerson_any (q : ByteArray) (w : World) (hq : q.size ≤ 140737488351232) : Calls Tryd.prog 43 #[.string q] w fun e w' => e = .returned (.tuple #[.int .i64 (pe (rdPer q)), .string (pn (rdPer q)), .int .u32 (pi (rdPer q)), .bool (rdPer q).isSome]) ∧ Below w.heap.size w w' := by
  have HB := Below.refl w.heap.size w
  have HE := Lib.hid (rdPer.eq_1 q)
  by_cases h5 : 6 ≤ q.size
  · have hz : (midB q).size ≤ 140737488351232 := by unfold midB; rw [dropB_size, takeB_size _ _ (by omega)]; omega
    have b0 := byteAt_bounds q 0
    have i0 : ∀ W, (Instr.index 9 (.string q) (.int .i64 0)).run Tryd.prog W = .ok (.int .u8 (byteAt q 0)) W := fun W => run_index_at 9 Tryd.underlying9 q 0 (by omega) W
    have hm := fun W => run_mid (P := Tryd.prog) 9 Tryd.underlying9 q h5 ((q.size : Int) - 4) rfl W
    go_enter Tryd.func43, Tryd.ntmps43
    go_wp2_with fail
    replace HB := HB.drew
    have w0 : IntKind.i64.wrap (byteAt q 0) = byteAt q 0 := IntWalk.i64_in _ (by omega)
    go_region_with (first | (go_at_call 59; refine (last_any _ _ (by omega)).mono ?_; rintro e w1 ⟨rfl, rfl⟩) | (go_at_call 13; refine (rPerson_any _ _ _ _ (lastB_bounds _).1 (lastB_bounds _).2 (by assumption)).mono ?_; rintro e w1 ⟨rfl, hB⟩; have HB1 := HB.trans (hB.mono HB.size); clear hB))
    all_goals
      go_wp2_with fail
      · go_returns
        have hx : (!rPerson (byteAt q 0) (midB q).data.toList (lastB q) == q.toList) = true := by assumption
        rw [HE.out, if_neg (fun k => by rw [k.2] at hx; simp at hx)]
        exact ⟨rfl, HB1⟩
      · go_quiet ((first | (go_at_call 59; exact Calls.quiet_of_same (last_any _ _ (by omega)))))
        go_wp2
        go_returns
        have hx : (!rPerson (byteAt q 0) (midB q).data.toList (lastB q) == q.toList) = false := by assumption
        rw [HE.out, if_pos ⟨h5, by simpa using hx⟩]
        exact ⟨rfl, below_drewN HB1 _⟩
  · have n1 : ((q.size : Int) < 6) := by omega
    go_enter Tryd.func43, Tryd.ntmps43
    go_wp2_with fail
    go_returns
    rw [HE.out, if_neg (fun h => h5 h.1)]
    exact ⟨rfl, HB⟩
end Go.Proofs.YtdnnbnohemkfkaaDoor
