/- open: which seats a hall has, of a class, that are not taken. -/
import Derived.Test.YtpbfabcihoiiiaaHlA
import Derived.Test.YtpbfabcihoiiiaaHp
import Derived.IntWalk
namespace Go.Proofs.Ytpbfabcihoiiiaa
open Go.RowKit
set_option linter.unusedVariables false
set_option linter.unusedSimpArgs false

def opR (r : HRow) (cl : Int) (t : Bool) (k : Nat) : Bool := ((r.1 == cl) && r.2.testBit k) && !t
def opA (L : List HRow) (cl : Int) (T : Nat → Bool) (j : Nat) : Bool := match L[j / 8]? with | some r => opR r cl (T j) (j % 8) | none => false
def opT (L : List HRow) (cl : Int) (T : Nat → Bool) (n j : Nat) : Bool := decide (j < n) && opA L cl T j
theorem opT_zero (L : List HRow) (cl : Int) (T : Nat → Bool) : tkA (fun _ => false) = tkA (opT L cl T 0) := tkA_ext (fun j _ => by simp [opT])
theorem opT_step {L : List HRow} {cl : Int} {T : Nat → Bool} {n : Nat} (hn : n < 64) {b : Bool} (hb : opA L cl T n = b) : (tkA (opT L cl T n)).setIfInBounds n (.bool b) = tkA (opT L cl T (n + 1)) := by
  rw [tkA_set _ n _ hn]
  refine tkA_ext (fun j hj => ?_)
  unfold opT
  by_cases e : j = n
  · subst e
    rw [if_pos rfl, hb]
    simp
  · rw [if_neg e]
    congr 1
    rw [decide_eq_decide]
    omega
theorem opT_end {L : List HRow} {cl : Int} {T : Nat → Bool} : tkA (opT L cl T (8 * L.length)) = tkA (opA L cl T) := tkA_ext (fun j hj => by
  unfold opT
  by_cases h : j < 8 * L.length
  · simp [h]
  · have hn : L[j / 8]? = none := List.getElem?_eq_none (by omega)
    unfold opA
    rw [hn]
    simp)
theorem opA_at {L : List HRow} {cl : Int} {T : Nat → Bool} {k q : Nat} {r : HRow} (hr : L[k]? = some r) (hq : q < 8) : opA L cl T (8 * k + q) = opR r cl (T (8 * k + q)) q := by
  unfold opA
  rw [show (8 * k + q) / 8 = k by omega, show (8 * k + q) % 8 = q by omega, hr]
set_option maxRecDepth 100000 in
set_option maxHeartbeats 8000000 in
theorem open_any (v : Value) (L : List HRow) (cl : Int) (T : Nat → Bool) (w : World) (hv : RdH w v L) (hL : L.length ≤ 8) : Calls Try.prog 12 #[.agg #[v], .int .i64 cl, tkV T] w fun e w' => e = .returned (tkV (opA L cl T)) ∧ Below w.heap.size w w' := by
  obtain ⟨a, c, rfl, hc, hr⟩ := hv
  have HR := Lib.hid hr
  clear hr
  go_enter Try.func12, Try.ntmps12
  go_wp2_with fail
  rename_i cs hce
  have hcs : cs = tkA T := by unfold tkV at hce; injection hce with q; exact q.symm
  subst hcs
  clear hce
  have b0 := heap_alloc_new w (.cells #[.slice a L.length c] 26)
  have b1 := heap_alloc_new (w.alloc (.cells #[.slice a L.length c] 26)) (.cells (tkA T) 41)
  have b2 := heap_alloc_new ((w.alloc (.cells #[.slice a L.length c] 26)).alloc (.cells (tkA T) 41)) (.cells (tkA (fun _ => false)) 41)
  have b3 := heap_alloc_new (((w.alloc (.cells #[.slice a L.length c] 26)).alloc (.cells (tkA T) 41)).alloc (.cells (tkA (fun _ => false)) 41)) (.cells (tkA (fun _ => false)) 41)
  simp only [World.size_alloc] at b0 b1 b2 b3
  have c0 := row_kept (row_kept (row_kept b0 (World.grownBy_alloc _ (.cells (tkA T) 41) none) (by simp)) (World.grownBy_alloc _ (.cells (tkA (fun _ => false)) 41) none) (by simp)) (World.grownBy_alloc _ (.cells (tkA (fun _ => false)) 41) none) (by simp)
  have c1 := row_kept (row_kept b1 (World.grownBy_alloc _ (.cells (tkA (fun _ => false)) 41) none) (by simp)) (World.grownBy_alloc _ (.cells (tkA (fun _ => false)) 41) none) (by simp)
  have c2 := row_kept b2 (World.grownBy_alloc _ (.cells (tkA (fun _ => false)) 41) none) (by simp)
  obtain ⟨W1, hW1⟩ : ∃ W1, W1 = (((w.alloc (.cells #[.slice a L.length c] 26)).alloc (.cells (tkA T) 41)).alloc (.cells (tkA (fun _ => false)) 41)).alloc (.cells (tkA (fun _ => false)) 41) := ⟨_, rfl⟩
  have hB1 : Below w.heap.size w W1 := by rw [hW1]; exact ((((Below.refl _ w).alloc (Nat.le_refl _) _).alloc (by simp) _).alloc (by simp; omega) _).alloc (by simp; omega) _
  have hz : W1.heap.size = w.heap.size + 4 := by rw [hW1]; simp
  rw [← hW1] at b3 c0 c1 c2
  rw [opT_zero L cl T] at b3
  have eW : ∀ z : World, z.alloc (.cells (tkA (fun _ => false)) 41) = z.alloc (.cells (tkA (fun _ => false)) 41) := fun _ => rfl
  conv at hW1 => rhs; arg 2; unfold tkA
  conv at hW1 => rhs; arg 1; arg 2; unfold tkA
  rw [← hW1]
  have HB1 := Lib.hid hB1
  have C0 := Lib.hid (cell_of_row _ _ 0 _ _ _ c0)
  have C1 := Lib.hid c1
  have C2 := Lib.hid c2
  have C3 := Lib.hid b3
  have HZ := Lib.hid hz
  clear hW1 hB1 b0 b1 b2 b3 c0 c1 c2 hz eW
  go_loopw [8] (fun i wr => ∃ n : Nat, n ≤ L.length ∧ i = .int .i64 n ∧ Hid (wr.heap[w.heap.size + 1 + 1 + 1]? = some (Obj.cells (tkA (opT L cl T (8 * n))) 41 (0, 0))) ∧ Hid (Below (w.heap.size + 1 + 1 + 1) W1 wr)) (fun i _ => L.length - (intOf i).toNat)
  case atStart => exact ⟨0, by omega, rfl, C3.out, Below.refl _ _⟩
  case round =>
    clear C3
    obtain ⟨n, hn, rfl, HX, HB⟩ := hrel
    have ch : wr.cell? ⟨w.heap.size, 0, none⟩ = some (.slice a L.length c) := (HB.out.cell (p := ⟨w.heap.size, 0, none⟩) (by simp; omega)).trans C0.out
    by_cases hlt : n < L.length
    · obtain ⟨⟨r1, r2⟩, hx⟩ : ∃ x, L[n]? = some x := ⟨_, List.getElem?_eq_getElem hlt⟩
      obtain ⟨⟨_, _, hr2⟩, b, o, rfl, p0, p1⟩ := HR.out n _ hx
      have HXX := Lib.hid hx
      clear hx
      dsimp only at p0 p1 hr2
      have hbl : b < w.heap.size := World.block_lt_of_cell? _ _ p0
      have P0 := Lib.hid (keepC HB1.out p0)
      have P1 := Lib.hid (keepC HB1.out p1)
      clear p0 p1
      go_wp2_with fail
      obtain ⟨wr0, hwr0⟩ : ∃ wr0, wr0 = wr := ⟨_, rfl⟩
      go_loopw [9] (fun i wz => ∃ q : Nat, q ≤ 8 ∧ i = .int .i64 q ∧ Hid (wz.heap[w.heap.size + 1 + 1 + 1]? = some (Obj.cells (tkA (opT L cl T (8 * n + q))) 41 (0, 0))) ∧ Hid (Below (w.heap.size + 1 + 1 + 1) W1 wz)) (fun i _ => 8 - (intOf i).toNat)
      case atStart => exact ⟨0, by omega, rfl, HX, HB⟩
      case round =>
        clear HX HB ch hwr0
        obtain ⟨q, hq, rfl, HX, HB⟩ := hrel
        by_cases hq8 : q < 8
        · have ch : wr.cell? ⟨w.heap.size, 0, none⟩ = some (.slice (some ⟨b, o, none⟩) L.length c) := (HB.out.cell (p := ⟨w.heap.size, 0, none⟩) (by simp; omega)).trans C0.out
          have p0 : wr.cell? ⟨b, o + n * 2, none⟩ = some (.int .i64 r1) := (HB.out.cell (p := ⟨b, o + n * 2, none⟩) (by simp; omega)).trans P0.out
          have p1 : wr.cell? ⟨b, o + n * 2 + 1, none⟩ = some (.int .u8 (r2 : Nat)) := (HB.out.cell (p := ⟨b, o + n * 2 + 1, none⟩) (by simp; omega)).trans P1.out
          have hnt : wr.cell? ⟨w.heap.size + 1, 8 * n + q, none⟩ = some (.bool (T (8 * n + q))) := (HB.out.cell (p := ⟨w.heap.size + 1, 8 * n + q, none⟩) (by simp)).trans ((cell_of_row _ _ _ _ _ _ C1.out).trans (tkA_at _ _ (by omega)))
          have hc3 : wr.cell? ⟨w.heap.size + 1 + 1 + 1, 8 * n + q, none⟩ = some (.bool (opT L cl T (8 * n + q) (8 * n + q))) := (cell_of_row _ _ _ _ _ _ HX.out).trans (tkA_at _ _ (by omega))
          have hf := frozen_of_row wr (w.heap.size + 1 + 1 + 1) (8 * n + q) _ _ HX.out
          have hbit := bit8 r2 q hr2
          have hop := opA_at (cl := cl) (T := T) HXX.out hq8
          unfold opR at hop
          dsimp only at hop
          have hST : ∀ z, opA L cl T (8 * n + q) = z → (tkA (opT L cl T (8 * n + q))).setIfInBounds (8 * n + q) (.bool z) = tkA (opT L cl T (8 * n + q + 1)) := fun z hz => opT_step (by omega) hz
          rw [hop] at hST
          have HST := Lib.hid hST
          clear hST hop
          generalize opT L cl T (8 * n + q) (8 * n + q) = old at hc3
          generalize T (8 * n + q) = t0 at hnt HST
          generalize r2.testBit q = t1 at hbit HST
          have hw8 : IntKind.i64.wrap (8 * (n : Int)) = 8 * (n : Int) := IntWalk.i64_in _ (by omega)
          cases hc0 : (r1 == cl)
          all_goals cases t1
          all_goals cases t0
          all_goals rw [hc0] at HST
          all_goals go_wp2_with fail
          all_goals go_roundw
          all_goals first
            | exact ⟨q + 1, by omega, by go_num, Lib.hid (by
                rw [heap_setCell_same wr _ _ _ _ _ HX.out]
                exact congrArg (fun z => some (Obj.cells z 41 (0, 0))) (HST.out _ rfl)), HB.out.setCell (p := ⟨w.heap.size + 1 + 1 + 1, 8 * n + q, none⟩) (by simp) _⟩
            | (simp [intOf]; omega)
        · obtain rfl : q = 8 := by omega
          go_wp2_with fail
          go_roundw
          case rel => exact ⟨n + 1, by omega, by go_num, Lib.hid HX.out, HB⟩
          case measure => simp [intOf]; omega
    · obtain rfl : n = L.length := by omega
      have hx0 : wr.heap[w.heap.size + 1 + 1]? = some (.cells (tkA (fun _ => false)) 41 (0, 0)) := (HB.out.block _ (by omega)).trans C2.out
      have HX0 := Lib.hid hx0
      have hr := HX.out
      rw [opT_end] at hr
      have HR2 := Lib.hid hr
      clear hr HX hx0
      go_wp2_with (first | (refine wpList_load_row rfl 41 (.tmp 7) rfl (w.heap.size + 1 + 1 + 1) rfl 41 (tkA (opA L cl T)) (0, 0) _ HR2.out Try.underlying41 rfl (tk_info _) ?_) | (refine wpList_store_row rfl 41 (.tmp 6) (.tmp 55) rfl (w.heap.size + 1 + 1) (tkA (opA L cl T)) rfl rfl 41 (tkA (fun _ => false)) HX0.out (tk_info _) rfl (tkA_one _) ?_))
      refine bodyPost_ret (v := tkV (opA L cl T)) (results_cell_row rfl _ _ (w.heap.size + 1 + 1) 41 (tkA (opA L cl T)) (0, 0) _ rfl (setRow_heap _ _ _ _ _ _ HX0.out) Try.underlying41 rfl (tk_info _)) rfl ?_
      exact ⟨rfl, below_setRow (HB1.out.trans (HB.out.mono (by omega))) (by omega) _⟩
end Go.Proofs.Ytpbfabcihoiiiaa
