/- Seats that are taken, by bits; the small hall; lists of pairs. -/
import Derived.Test.YtpbfabcihoiiiaaHl8
import Derived.Test.YtpbfabcihoiiiaaHl9
import Derived.DeepKeys
namespace Go.Proofs.Ytpbfabcihoiiiaa
open Go.RowKit
set_option linter.unusedVariables false
set_option linter.unusedSimpArgs false

theorem tkA_size (T : Nat → Bool) : (tkA T).size = 64 := rfl
theorem tkA_set (T : Nat → Bool) (k : Nat) (v : Bool) (hk : k < 64) : (tkA T).setIfInBounds k (.bool v) = tkA (fun j => if j = k then v else T j) := by
  apply Array.ext_getElem?
  intro j
  by_cases hj : j < 64
  · rw [tkA_at _ j hj, Array.getElem?_setIfInBounds, tkA_size]
    by_cases e : k = j
    · subst e
      simp [hk]
    · rw [if_neg e, tkA_at _ j hj, if_neg (fun h => e h.symm)]
  · rw [Array.getElem?_eq_none (by rw [Array.size_setIfInBounds, tkA_size]; omega), Array.getElem?_eq_none (by rw [tkA_size]; omega)]
theorem tkA_ext {T U : Nat → Bool} (h : ∀ j, j < 64 → T j = U j) : tkA T = tkA U := by
  apply Array.ext_getElem?
  intro j
  by_cases hj : j < 64
  · rw [tkA_at _ j hj, tkA_at _ j hj, h j hj]
  · rw [Array.getElem?_eq_none (by rw [tkA_size]; omega), Array.getElem?_eq_none (by rw [tkA_size]; omega)]
theorem tkA_one (T : Nat → Bool) : (tkA T).all (·.oneCell') = true := by
  rw [Array.all_eq_true]
  intro i hi
  have h := tkA_at T i hi
  rw [Array.getElem?_eq_getElem hi] at h
  rw [Option.some.inj h]
  rfl
theorem tk_info (T : Nat → Bool) : (Try.prog.info? 41).map (·.size) = some (tkA T).size := by kernel_rfl
theorem below_setRow {B g : Nat} {w0 w : World} (hb : Below B w0 w) (hBg : B ≤ g) (cs : Array Value) : Below B w0 (w.setRow g cs) :=
  hb.trans ⟨rfl, rfl, rfl, by simp [World.setRow], fun k hk => setRow_other w g k cs (by omega)⟩
theorem bit64 (m k : Nat) (hm : m < 18446744073709551616) : (bits .and .u64 ((m : Int) / 2 ^ k) 1 == 1) = m.testBit k := by
  have e : ((m : Nat) : Int) / (2 : Int) ^ k = ((m / 2 ^ k : Nat) : Int) := by simp
  have hd : m / 2 ^ k < 18446744073709551616 := Nat.lt_of_le_of_lt (Nat.div_le_self _ _) hm
  rw [e, show (1 : Int) = ((1 : Nat) : Int) from rfl, bits_and_u64_nat _ 1 hd (by decide), Nat.and_one_is_mod, Nat.testBit_eq_decide_div_mod_eq]
  generalize m / 2 ^ k % 2 = z
  rw [Bool.eq_iff_iff]
  simp
  omega
def bitsT (m : Nat) (k j : Nat) : Bool := decide (j < k) && m.testBit j
set_option maxRecDepth 100000 in
set_option maxHeartbeats 4000000 in
theorem taken_any (m : Nat) (w : World) (hm : m < 18446744073709551616) : Calls Try.prog 11 #[.int .u64 (m : Nat)] w fun e w' => e = .returned (tkV (fun j => m.testBit j)) ∧ Below w.heap.size w w' := by
  go_enter Try.func11, Try.ntmps11
  go_wp2_with fail
  obtain ⟨W1, hW1⟩ : ∃ W1, W1 = (w.alloc (.cells (tkA (fun _ => false)) 41)).alloc (.cells (tkA (fun _ => false)) 41) := ⟨_, rfl⟩
  have hB1 : Below w.heap.size w W1 := by rw [hW1]; exact ((Below.refl _ _).alloc (Nat.le_refl _) _).alloc (by simp) _
  have h0 : W1.heap[w.heap.size]? = some (.cells (tkA (fun _ => false)) 41 (0, 0)) := by rw [hW1]; exact heap_alloc2_old w _ _
  have h1 : W1.heap[w.heap.size + 1]? = some (.cells (tkA (bitsT m 0)) 41 (0, 0)) := by
    rw [hW1, show tkA (bitsT m 0) = tkA (fun _ => false) from tkA_ext (fun j _ => by simp [bitsT])]
    exact heap_alloc2_new w _ _
  have hz : W1.heap.size = w.heap.size + 2 := by rw [hW1]; simp
  unfold tkA at hW1
  rw [← hW1]
  have HB1 := Lib.hid hB1
  have H0 := Lib.hid h0
  have H1 := Lib.hid h1
  have HZ := Lib.hid hz
  clear hW1 hB1 h0 h1 hz
  go_loopw [4] (fun i wr => ∃ k : Nat, k ≤ 64 ∧ i = .int .i64 k ∧ Hid (wr.heap[w.heap.size + 1]? = some (Obj.cells (tkA (bitsT m k)) 41 (0, 0))) ∧ Hid (Below (w.heap.size + 1) W1 wr)) (fun i _ => 64 - (intOf i).toNat)
  case atStart => exact ⟨0, by omega, rfl, H1.out, Below.refl _ _⟩
  case round =>
    clear H1
    obtain ⟨k, hk, rfl, HR, HB⟩ := hrel
    by_cases hlt : k < 64
    · have hc : wr.cell? ⟨w.heap.size + 1, k, none⟩ = some (.bool (bitsT m k k)) := (cell_of_row _ _ k _ _ _ HR.out).trans (tkA_at _ k hlt)
      have hf := frozen_of_row wr (w.heap.size + 1) k _ _ HR.out
      have hbit := bit64 m k hm
      go_wp2_with fail
      go_roundw
      case rel => exact ⟨k + 1, by omega, by go_num, Lib.hid (by
          rw [heap_setCell_same wr _ k _ _ _ HR.out, tkA_set _ k _ hlt]
          rw [show tkA (fun j => if j = k then m.testBit k else bitsT m k j) = tkA (bitsT m (k + 1)) from tkA_ext (fun j hj => by
            unfold bitsT
            by_cases e : j = k
            · subst e; simp
            · have : decide (j < k) = decide (j < k + 1) := by rw [decide_eq_decide]; omega
              rw [if_neg e, this])]), HB.out.setCell (p := ⟨w.heap.size + 1, k, none⟩) (by simp) _⟩
      case measure => simp [intOf]; omega
    · obtain rfl : k = 64 := by omega
      have hx0 : wr.heap[w.heap.size]? = some (.cells (tkA (fun _ => false)) 41 (0, 0)) := (HB.out.block _ (by omega)).trans H0.out
      have HX0 := Lib.hid hx0
      have hT : tkA (bitsT m 64) = tkA (fun j => m.testBit j) := tkA_ext (fun j hj => by unfold bitsT; simp [hj])
      have hr := HR.out
      rw [hT] at hr
      have HR2 := Lib.hid hr
      clear hr hT HR hx0
      go_wp2_with (first | (refine wpList_load_row rfl 41 (.tmp 3) rfl (w.heap.size + 1) rfl 41 (tkA (fun j => m.testBit j)) (0, 0) _ HR2.out Try.underlying41 rfl (tk_info _) ?_) | (refine wpList_store_row rfl 41 (.tmp 2) (.tmp 16) rfl w.heap.size (tkA (fun j => m.testBit j)) rfl rfl 41 (tkA (fun _ => false)) HX0.out (tk_info _) rfl (tkA_one _) ?_))
      refine bodyPost_ret (v := tkV (fun j => m.testBit j)) (results_cell_row rfl _ _ w.heap.size 41 (tkA (fun j => m.testBit j)) (0, 0) _ rfl (setRow_heap _ _ _ _ _ _ HX0.out) Try.underlying41 rfl (tk_info _)) rfl ?_
      exact ⟨rfl, below_setRow (HB1.out.trans (HB.out.mono (by omega))) (Nat.le_refl _) _⟩

/-- The value v is a slice that reads as these pairs. -/
def RdP (w : World) (v : Value) (l : List (Int × Int)) : Prop :=
  ∃ (a : Option Addr) (c : Nat), v = .slice a l.length c ∧ l.length ≤ c ∧ ∀ (k : Nat) (x : Int × Int), l[k]? = some x → ∃ b, a = some ⟨b, 0, none⟩ ∧ w.cell? ⟨b, k * 2, none⟩ = some (.int .i64 x.1) ∧ w.cell? ⟨b, k * 2 + 1, none⟩ = some (.int .i64 x.2)
theorem RdP.below {w w1 : World} {v : Value} {l : List (Int × Int)} (h : RdP w v l) (hb : Below w.heap.size w w1) : RdP w1 v l := by
  obtain ⟨a, c, e, h1, h2⟩ := h
  exact ⟨a, c, e, h1, fun k x hx => by obtain ⟨b, e1, e2, e3⟩ := h2 k x hx; exact ⟨b, e1, keepC hb e2, keepC hb e3⟩⟩
theorem RdP.own {w : World} {base : Nat} {e : TypeId} {v : Value} {l : List (Int × Int)} (h : w.ownsRow base e 2 v l.length (l.flatMap runC)) : RdP w v l := by
  rcases own_cells h with ⟨h1, h2⟩ | ⟨g, c, h1, h2, _, h3⟩
  · obtain rfl := List.eq_nil_of_length_eq_zero h2
    subst h1
    exact ⟨none, 0, rfl, Nat.le_refl _, fun k x hx => by simp at hx⟩
  · refine ⟨some ⟨g, 0, none⟩, c, h1, h2, fun k x hx => ⟨g, rfl, ?_, ?_⟩⟩
    · have f := flat_at runC 2 (fun _ => rfl) 0 (by omega) l k x hx
      exact h3 _ _ f
    · have f := flat_at runC 2 (fun _ => rfl) 1 (by omega) l k x hx
      exact h3 _ _ f
theorem key_pair : Try.prog.keyTypeAt 3 46 = true := by kernel_rfl
theorem c_int : Try.prog.cellsOf 3 = 1 := by kernel_rfl
theorem c_pair : Try.prog.cellsOf 46 = 2 := by kernel_rfl
theorem range2 : List.range 2 = [0, 1] := by decide
theorem lits_int {n : Int} (h : (Lit.int .i64 n).wf = true) : Try.prog.keyLits 2 3 [.int .i64 n] = some [.int .i64 n] := by
  unfold Program.keyLits
  rw [Try.underlying3]
  simp [h]
theorem lits_pair {a b : Int} (ha : (Lit.int .i64 a).wf = true) (hb : (Lit.int .i64 b).wf = true) : Try.prog.keyLits 3 46 [.int .i64 a, .int .i64 b] = some [.int .i64 a, .int .i64 b] := by
  unfold Program.keyLits
  rw [Try.underlying46]
  simp only [c_pair, c_int, range2, List.length_cons, List.length_nil]
  simp [lits_int ha, lits_int hb]
theorem formed_pair (a b : Int) : Value.formed Try.prog 46 (.agg #[.int .i64 a, .int .i64 b]) = true := by kernel_rfl
theorem pair_same {a b : Int} (ha : (Lit.int .i64 a).wf = true) (hb : (Lit.int .i64 b).wf = true) (W : World) : (binOp .neq 46 (.agg #[.int .i64 a, .int .i64 b]) (.agg #[.int .i64 a, .int .i64 b])).run Try.prog W = .ok (.bool false) W := by
  obtain ⟨r, hr, hiff⟩ := run_equalIn_deep (P := Try.prog) 9997 3 46 key_pair W 3 3 (.agg #[.int .i64 a, .int .i64 b]) (.agg #[.int .i64 a, .int .i64 b]) _ _ (formed_pair a b) (formed_pair a b) (lits_pair ha hb) (lits_pair ha hb)
  have : r = true := hiff.2 rfl
  subst this
  rw [run_neq_struct, hr]
  rfl
set_option maxRecDepth 100000 in
set_option maxHeartbeats 2000000 in
theorem pairs_same (v1 v2 : Value) (L : List (Int × Int)) (w : World) (h1 : RdP w v1 L) (h2 : RdP w v2 L) (hl : L.length ≤ 1000) (hw : ∀ x ∈ L, (Lit.int .i64 x.1).wf = true ∧ (Lit.int .i64 x.2).wf = true) : Calls Try.prog 18 #[v1, v2] w fun e w' => e = .returned (.bool true) ∧ Below w.heap.size w w' := by
  obtain ⟨a1, c1, rfl, hc1, hr1⟩ := h1
  obtain ⟨a2, c2, rfl, hc2, hr2⟩ := h2
  have HR1 := Lib.hid hr1
  have HR2 := Lib.hid hr2
  have HW := Lib.hid hw
  clear hr1 hr2 hw
  go_enter Try.func18, Try.ntmps18
  go_wp2_with fail
  go_loopw [5] (fun i wr => ∃ k : Nat, k ≤ L.length ∧ i = .int .i64 k ∧ Hid (Below w.heap.size w wr)) (fun i _ => L.length - (intOf i).toNat)
  case atStart => exact ⟨0, by omega, rfl, Below.refl _ _⟩
  case round =>
    obtain ⟨k, hk, rfl, HB⟩ := hrel
    by_cases hlt : k < L.length
    · obtain ⟨⟨xa, xb⟩, hx⟩ : ∃ x, L[k]? = some x := ⟨_, List.getElem?_eq_getElem hlt⟩
      obtain ⟨b1, rfl, p0, p1⟩ := HR1.out k _ hx
      obtain ⟨b2, rfl, q0, q1⟩ := HR2.out k _ hx
      have p0 := keepC HB.out p0
      have p1 := keepC HB.out p1
      have q0 := keepC HB.out q0
      have q1 := keepC HB.out q1
      have hwx := HW.out _ (List.mem_of_getElem? hx)
      have hne := fun W => pair_same hwx.1 hwx.2 W
      dsimp only at hne
      clear hwx
      clear hx
      dsimp only at p0 p1 q0 q1
      go_wp2_with fail
      go_quiet (fail)
      go_wp2
      go_roundw
      case rel => exact ⟨k + 1, by omega, by go_num, below_drewN HB.out _⟩
      case measure => simp [intOf]; omega
    · go_wp2_with fail
      go_ret
      exact ⟨rfl, HB.out⟩
set_option maxHeartbeats 1000000 in
theorem small_any (w : World) : Calls Try.prog 17 #[] w fun e w' => ∃ v, e = .returned (.agg #[v]) ∧ RdH w' v [(0, 15), (2, 129)] ∧ Below w.heap.size w w' := by
  go_enter Try.func17, Try.ntmps17
  go_wp2_with fail
  refine bodyPost_ret (v := .agg #[.slice (some ⟨w.heap.size + 1, 0, none⟩) 2 2]) (by simp [results, Try.results17, go_sem]; try rfl) rfl ?_
  refine ⟨_, rfl, ⟨_, _, rfl, Nat.le_refl _, fun k r hr => ?_⟩, by go_grown⟩
  match k, hr with
  | 0, hr =>
    cases hr
    exact ⟨by unfold rwB; decide, _, _, rfl, by go_cell, by go_cell⟩
  | 1, hr =>
    cases hr
    exact ⟨by unfold rwB; decide, _, _, rfl, by go_cell, by go_cell⟩
  | k + 2, hr => simp at hr
end Go.Proofs.Ytpbfabcihoiiiaa
