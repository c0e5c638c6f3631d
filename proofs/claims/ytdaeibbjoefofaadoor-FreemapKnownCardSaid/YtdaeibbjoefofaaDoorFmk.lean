/- FreemapKnown: a map that is none; the walk. -/
import Derived.Test.YtdaeibbjoefofaaDoorFme
import Derived.RangeFuncBox
import Derived.RangeFuncNested
import Derived.RangeFuncLeaves
import Derived.Shelf.Abstract
import Derived.OwnWalkIn
import Derived.TacticsInMore
import Derived.LoopNIn
import Derived.LoopIn
import Derived.Maps.AppendAt
namespace Go.Proofs.YtdaeibbjoefofaaDoor
open Go.RowKit Go.Shelf
attribute [local go_sem] Oper.semAt_some
set_option linter.unusedVariables false
set_option linter.unusedSimpArgs false

set_option maxRecDepth 100000 in
set_option maxHeartbeats 2000000 in
theorem free1_nil (l Bn : Nat) (J Jx : List (Nat × Nat) → World → Prop) (W : World) (hBn : Boxed W Bn 25 (.pointer none)) (h0 : J [] W) :
    CallsIn Fence.wide 2 Tryd.prog 36 #[.func (.yield l) #[] #[], .pointer (some ⟨Bn, 0, none⟩)] W fun e W' => (∃ v, e = .returned v) ∧
      ((∃ ys, ys = [] ∧ J ys W') ∨ (∃ pre, pre <+: [] ∧ Jx pre W')) := by
  have hcb := hBn.cell
  refine callsIn_of_wp Tryd.func36 rfl trivial ?_ rfl
  simp only [Tryd.ntmps36, List.size_toArray, List.length_cons, List.length_nil, Nat.reduceAdd, Nat.reduceSub, Array.replicate_succ, Array.replicate_zero, List.push_toArray, List.append_toArray, List.nil_append, List.cons_append]
  gi_wp2
  gi_loopw [3, 4] (fun i _ wr => i = .int .i64 0 ∧ Hid (W = wr)) (fun i _ wr => 0)
  case atStart => exact ⟨rfl, rfl⟩
  case round =>
    obtain ⟨rfl, HW⟩ := hrel
    have hw := HW.out
    subst hw
    gi_wp2_with (first | (refine ⟨trivial, ?_⟩; gi_at_call 27; refine (callsIn_wide.2 (len_nil _)).mono ?_; rintro e w' ⟨rfl, rfl⟩))
    go_end0
    exact ⟨⟨_, rfl⟩, .inl ⟨_, rfl, h0⟩⟩
set_option maxHeartbeats 1000000 in
theorem free_nil_in (w : World) : CallsIn Fence.wide 2 Tryd.prog 32 #[.pointer none] w fun e w' => e = .returned (.func (.func 36) #[] #[.pointer (some ⟨w.heap.size, 0, none⟩)]) ∧ w' = w.alloc (.cells #[.pointer none] 25) := by
  refine callsIn_of_wp Tryd.func32 rfl trivial ?_ rfl
  simp only [Tryd.ntmps32, List.size_toArray, List.length_cons, List.length_nil, Nat.reduceAdd, Nat.reduceSub, Array.replicate_succ, Array.replicate_zero, List.push_toArray, List.append_toArray, List.nil_append, List.cons_append]
  gi_wp2
  go_ret
  exact ⟨rfl, rfl⟩
set_option maxRecDepth 100000 in
set_option maxHeartbeats 2000000 in
theorem runs_nil (w : World) : Calls Tryd.prog 13 #[.pointer none] w fun e w' => ∃ v, e = .returned v ∧ w'.ownsRow w.heap.size 53 2 v 0 [] ∧ Below w.heap.size w w' := by
  obtain ⟨i0, hi, hz0, hz1, hz2⟩ := info_parts info_run
  refine callsIn_wide (n := 3) |>.1 ?_
  refine callsIn_of_wp_marks Tryd.func13 rfl trivial ?_ rfl
  simp only [Tryd.ntmps13, List.size_toArray, List.length_cons, List.length_nil, Nat.reduceAdd, Nat.reduceSub, Array.replicate_succ, Array.replicate_zero, List.push_toArray, List.append_toArray, List.nil_append, List.cons_append]
  gi_wp2_with (refine ⟨trivial, ?_⟩; gi_at_call 32; refine (free_nil_in _).mono ?_; rintro e w' ⟨rfl, rfl⟩)
  have bO := Boxed.new w 33 (.slice none 0 0)
  have bN := Boxed.new (w.alloc (.cells #[.slice none 0 0] 33)) 25 (.pointer none)
  rw [World.size_alloc] at bN
  have hB0 : Below w.heap.size w ((w.alloc (.cells #[.slice none 0 0] 33)).alloc (.cells #[.pointer none] 25)) := ((Below.refl _ w).alloc (Nat.le_refl _) _).alloc (by simp) _
  have hs0 : ((w.alloc (.cells #[.slice none 0 0] 33)).alloc (.cells #[.pointer none] 25)).heap.size = w.heap.size + 2 := by simp
  refine wpIn_rangeFunc_ownG (w0 := ((w.alloc (.cells #[.slice none 0 0] 33)).alloc (.cells #[.pointer none] 25))) rfl (by omega) (gf := 36) (lb := #[.pointer (some ⟨w.heap.size + 1, 0, none⟩)]) rfl trivial (enters_of Tryd.func36 (by kernel_rfl) rfl)
    (encs := runA) (Kp := KpR w.heap.size (w.heap.size + 1)) (S := fun ys => ys = []) (Sp := fun (pre : List (Nat × Nat)) => pre <+: []) (N := 0)
    (fun l J Jx W hW _ _ hY h0 => free1_nil l (w.heap.size + 1) J Jx W (bN.kept (grown_below hW none) (by simp)) h0)
    KpR.t (KpR.b (by rw [hs0]; omega)) (Below.refl _ _) (fun _ => rfl)
    (fun (pre : List (Nat × Nat)) W => (∃ v, Boxed W w.heap.size 33 v ∧ W.ownsRow w.heap.size 53 2 v pre.length (pre.flatMap runC) ∧ True) ∧ Below w.heap.size w W)
    (fun _ _ _ => False)
    (OwnFrom.and (Own.from (holdsRow_own w.heap.size w.heap.size 33 53 2 (fun (pre : List (Nat × Nat)) => pre.length) (fun pre => pre.flatMap runC) (fun pre v => True)) _) (ownFrom_below (Nat.le_refl _) (by rw [hs0]; omega)))
    (fun _ _ _ _ _ hs _ _ => hs)
    ⟨⟨_, bO.alloc _, World.ownsRow_nil _ _ _ _, trivial⟩, hB0⟩
    (fun x => { tmps := #[.pointer none, undef, .slice none 0 0, .pointer (some ⟨w.heap.size, 0, none⟩), .int .i64 x.1, .int .i64 x.2, .pointer none, .func (.func 36) #[] #[.pointer (some ⟨w.heap.size + 1, 0, none⟩)], .int .i64 x.1, .int .i64 x.2, undef, undef, undef, undef, undef, undef, undef], defers := [] }) ?assign ?body ?done ?stop
  case assign =>
    intro l x W K hK
    dsimp only [runA]
    gi_wp2
    exact hK
  case body =>
    rintro l pre x W _ hlt
    exact absurd hlt (Nat.not_lt_zero _)
  case done =>
    rintro D ys W hD rfl ⟨⟨v, hv, hrow, _⟩, hB⟩ hK
    have hc := hv.cell
    gi_wp2
    refine ⟨by simp, .inl ⟨_, _, rfl, run_takeDeferred hK, ?_⟩⟩
    exact ⟨_, results_tmp rfl _ _ _, v, rfl, ownsRow_putObj hrow _ hK rfl, hB.trans (belowK_b (w := w) (Nat.le_refl _) W D _ _ (by rw [hs0] at hD; omega) hK rfl rfl)⟩
  case stop =>
    rintro D c pre W _ _ h _
    exact h.elim

set_option maxRecDepth 100000 in
set_option maxHeartbeats 1000000 in
theorem put_nil (w : World) : Calls Tryd.prog 26 #[.pointer none] w fun e w' => e = .returned (.string ⟨#[]⟩) ∧ Below w.heap.size w w' := by
  have hmk : ∀ w : World, (Instr.makeSlice 67 (.int .i64 0) (.int .i64 0)).run Tryd.prog w = .ok (.slice (some ⟨w.heap.size, 0, none⟩) 0 0) (w.alloc (.cells (madeCells #[.int .u8 0] 0) 5)) := fun w =>
    run_make_row' (P := Tryd.prog) 67 5 (.int .u8 0) 1 Tryd.underlying67 info_u8 rfl .i64 .i64 0 (by omega) (by omega) w
  have hcv : ∀ (W : World) (g : Nat), (convert 67 9 (.slice (some ⟨g, 0, none⟩) 0 0)).run Tryd.prog W = .ok (.string ⟨#[]⟩) W := by
    intro W g
    have hr : RdB W (.slice (some ⟨g, 0, none⟩) 0 0) [] := ⟨some (g, 0), 0, rfl, Nat.le_refl _, (fun h => by cases h), fun p hp j u hu => by simp [bv] at hu⟩
    exact hr.str _ _ _ Tryd.underlying67 Tryd.underlying5 Tryd.underlying9
  go_enter Tryd.func26, Tryd.ntmps26
  go_wp2_with (go_at_call 27; refine (len_nil _).mono ?_; rintro e w' ⟨rfl, rfl⟩)
  go_loopw [4, 12] (fun _ i wr => i = .int .i64 0 ∧ Hid (Below w.heap.size w wr)) (fun _ _ _ => 0)
  case atStart => exact ⟨rfl, (Below.refl _ _).alloc (Nat.le_refl _) _⟩
  case round =>
    obtain ⟨rfl, HB⟩ := hrel
    go_wp2_with fail
    go_ret
    exact ⟨rfl, HB.out⟩
end Go.Proofs.YtdaeibbjoefofaaDoor
