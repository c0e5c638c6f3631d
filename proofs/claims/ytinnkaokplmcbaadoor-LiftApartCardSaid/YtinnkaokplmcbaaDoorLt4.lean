/- The moves, as a row of the call's own. -/
import Derived.Test.YtinnkaokplmcbaaDoorLg
namespace Go.Proofs.YtinnkaokplmcbaaDoor
open Go.RowKit
set_option linter.unusedVariables false

set_option maxRecDepth 100000 in
set_option maxHeartbeats 4000000 in
theorem moves2_any (l : List (Int × Int)) (v : Value) (w : World) (hv : RdU w v l) (hl : l.length ≤ maxLen) :
    Calls Tryd.prog 10 #[v] w fun e w' => ∃ v1, e = .returned v1 ∧ w'.ownsRow w.heap.size 56 2 v1 (mvs l).length ((mvs l).flatMap mvC) ∧ Below w.heap.size w w' := by
  obtain ⟨a, c, rfl, hc, hr⟩ := hv
  have HR := Lib.hid hr
  clear hr
  go_enter Tryd.func10, Tryd.ntmps10
  go_wp2_with fail
  go_loopw [3, 4] (fun oo i wr => ∃ k : Nat, k ≤ l.length ∧ k ≤ 30 ∧ i = .int .i64 k ∧ wr.ownsRow w.heap.size 56 2 oo k (((l.take k).map mv1).flatMap mvC) ∧ Below w.heap.size w wr) (fun _ i _ => l.length - (intOf i).toNat)
  case atStart => exact ⟨0, Nat.zero_le _, Nat.zero_le _, rfl, by simpa using World.ownsRow_nil w w.heap.size 56 2, Below.refl _ _⟩
  case round =>
    obtain ⟨k, hk, hk2, rfl, HO, HB⟩ := hrel
    by_cases hkl : k < l.length
    · by_cases hk30 : k < 30
      · obtain ⟨x, hx⟩ : ∃ x, l[k]? = some x := ⟨l[k], List.getElem?_eq_getElem hkl⟩
        obtain ⟨⟨hb0, hb1, hb2, hb3⟩, b, o, rfl, c0, c1⟩ := HR.out k x hx
        have d0 := keep_cell HB c0
        have d1 := keep_cell HB c1
        have HT : Hid (((l.take (k + 1)).map mv1).flatMap mvC = ((l.take k).map mv1).flatMap mvC ++ [.int .i64 (x.1 % 64), .int .i64 (x.2 % 64)]) := mvs_take hx
        have H0 := Lib.hid c0
        have H1 := Lib.hid c1
        clear hx c0 c1
        have hw1 : Hid (IntKind.i64.wrap (x.1.tmod 64) = x.1 % 64) := wrap_mod64 _ hb0 (by omega)
        have hw2 : Hid (IntKind.i64.wrap (x.2.tmod 64) = x.2 % 64) := wrap_mod64 _ hb2 (by omega)
        have HA : Below wr.heap.size wr (wr.alloc (.cells #[.int .i64 (IntKind.i64.wrap (x.1.tmod 64)), .int .i64 (IntKind.i64.wrap (x.2.tmod 64))] 56)).drew := by
          have h := (Below.refl wr.heap.size wr).alloc (Nat.le_refl _) (.cells #[.int .i64 (IntKind.i64.wrap (x.1.tmod 64)), .int .i64 (IntKind.i64.wrap (x.2.tmod 64))] 56)
          exact ⟨h.os, h.tape, h.output, h.size, h.block⟩
        have HBA := bstep HB HA
        have hblk : (wr.alloc (.cells #[.int .i64 (IntKind.i64.wrap (x.1.tmod 64)), .int .i64 (IntKind.i64.wrap (x.2.tmod 64))] 56)).drew.heap[wr.heap.size]? = some (.cells #[.int .i64 (IntKind.i64.wrap (x.1.tmod 64)), .int .i64 (IntKind.i64.wrap (x.2.tmod 64))] 56 (0, 0)) := heap_alloc_new wr _
        have HOA := own_kept HO HA
        have hsz := HBA.size
        go_wp2_with fail
        go_region_held3 (fun w' => w'.cell? ⟨b, o + k * 2, none⟩ = some (.int .u8 x.1) ∧ w'.cell? ⟨b, o + k * 2 + 1, none⟩ = some (.int .u8 x.2)) (first | go_keep | (exact ⟨keep_cell HA d0, keep_cell HA d1⟩) | (exact ⟨keep_cell hB1 H0.out, keep_cell hB1 H1.out⟩)) (first | (refine step_append_box w.heap.size rfl (.tmp 15) (.tmp 31) 36 56 rfl Tryd.underlying36 info_mv rfl (by decide) _ k _ #[.int .i64 (IntKind.i64.wrap (x.1.tmod 64)), .int .i64 (IntKind.i64.wrap (x.2.tmod 64))] rfl (by simp [Value.oneCell']) rfl rfl hblk HOA HBA hsz (by omega) (by omega) ?_; intro v1 w1 hown hB1 hsz1))
        go_wp2_with fail
        go_roundw
        case rel => exact ⟨k + 1, by omega, by omega, by go_num, by rw [HT.out, ← hw1.out, ← hw2.out]; exact hown, hB1⟩
        case measure => simp [intOf]; omega
      · have hke : Hid (((l.take k).map mv1) = mvs l) := by
          have : k = 30 := by omega
          subst this
          rfl
        have hm : (mvs l).length = k := by rw [← hke.out]; simp; omega
        go_wp2_with fail
        go_ret
        refine ⟨_, rfl, ?_, HB⟩
        rw [hm, ← hke.out]
        exact HO
    · have hke : Hid (((l.take k).map mv1) = mvs l) := by
        show _ = (l.take 30).map mv1
        rw [List.take_of_length_le (by omega), List.take_of_length_le (by omega)]
      have hm : (mvs l).length = k := by rw [← hke.out]; simp; omega
      go_wp2_with fail
      go_ret
      refine ⟨_, rfl, ?_, HB⟩
      rw [hm, ← hke.out]
      exact HO
end Go.Proofs.YtinnkaokplmcbaaDoor
