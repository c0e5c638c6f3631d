/- The reference's reader of layer 1. -/
import Derived.Test.YtbnnemiiodhjbaaDoorFx1
import Derived.IntWalk
import Derived.Deep.RegionHeld3
namespace Go.Proofs.YtbnnemiiodhjbaaDoor
open Go.RowKit
set_option linter.unusedVariables false
set_option linter.unusedSimpArgs false

/-- A reader of the reference lies at p: all bytes, and how many were taken. -/
structure RefR (w : World) (p : Nat) (s : ByteArray) (t : Nat) : Prop where
  c0 : w.cell? ⟨p, 0, none⟩ = some (.string s)
  c1 : w.cell? ⟨p, 1, none⟩ = some (.int .i64 (t : Int))
  f1 : w.frozen? ⟨p, 1, none⟩ = false
  h0 : t ≤ s.size
  h1 : s.size < 4611686018427387904
theorem RefR.lt {w : World} {p : Nat} {s : ByteArray} {t : Nat} (h : RefR w p s t) : p < w.heap.size := World.block_lt_of_cell? w _ h.c0
theorem RefR.keep {w W : World} {p : Nat} {s : ByteArray} {t : Nat} (h : RefR w p s t) (hB : Below w.heap.size w W) : RefR W p s t :=
  ⟨keep_cell' hB h.c0, keep_cell' hB h.c1, (World.frozen?_of_block (hB.block p h.lt)).trans h.f1, h.h0, h.h1⟩
/-- What the reference's reader gives. -/
def RfP (p : Nat) (s : ByteArray) (t : Nat) (w : World) (x : Value) (c : Int) (l : Nat) (e : Ending) (w' : World) : Prop :=
  e = .returned (.tuple #[x, .agg #[.int .i64 c, .int .i64 (atF c t)]]) ∧ RefR w' p s (t + l) ∧ w.grownBy w' (some p)

set_option maxHeartbeats 1000000 in
theorem fault_any (p : Nat) (s : ByteArray) (t : Nat) (c : Int) (w : World) (hr : RefR w p s t) : Calls Tryd.prog 40 #[.pointer (some ⟨p, 0, none⟩), .int .i64 c] w fun e w' => e = .returned (.agg #[.int .i64 c, .int .i64 (t : Int)]) ∧ Below w.heap.size w w' := by
  have c1 := hr.c1
  have hpl := hr.lt
  go_enter Tryd.func40, Tryd.ntmps40
  go_wp2
  refine bodyPost_ret (v := .agg #[.int .i64 c, .int .i64 (t : Int)]) (by simp [results, Tryd.results40, go_sem]; try rfl) rfl ?_
  exact ⟨rfl, by go_grown⟩
theorem foldB_snoc (l : List UInt8) (b : UInt8) : foldB (l ++ [b]) = foldB l * 256 + b.toNat := by simp [foldB]
theorem foldl_lt : ∀ (l : List UInt8) (a : Nat), l.foldl (fun a b => a * 256 + b.toNat) a < (a + 1) * 256 ^ l.length
  | [], a => by simp
  | b :: l, a => by
    rw [List.foldl_cons, List.length_cons, Nat.pow_succ]
    have h := foldl_lt l (a * 256 + b.toNat)
    have hb := b.toNat_lt
    refine Nat.lt_of_lt_of_le h ?_
    rw [Nat.mul_comm (256 ^ l.length) 256, ← Nat.mul_assoc]
    exact Nat.mul_le_mul_right _ (by omega)
theorem foldB_lt (l : List UInt8) : foldB l < 256 ^ l.length := by
  have h := foldl_lt l 0
  rw [Nat.zero_add, Nat.one_mul] at h
  exact h
theorem box2 {w w1 : World} {T : TypeId} {x y : Value} {n : Nat} (h : Below ((w.alloc (.cells #[x, y] T)).drewN n).heap.size ((w.alloc (.cells #[x, y] T)).drewN n) w1) :
    w1.cell? ⟨w.heap.size, 0, none⟩ = some x ∧ w1.cell? ⟨w.heap.size, 1, none⟩ = some y ∧ w1.frozen? ⟨w.heap.size, 0, none⟩ = false ∧ w1.frozen? ⟨w.heap.size, 1, none⟩ = false ∧ Below w.heap.size w w1 := by
  have hb : w1.heap[w.heap.size]? = some (.cells #[x, y] T (0, 0)) := (h.block _ (by show _ < (w.alloc _).heap.size; simp)).trans (heap_alloc_new w _)
  exact ⟨cell_of_row _ _ 0 _ _ _ hb, cell_of_row _ _ 1 _ _ _ hb, frozen_new hb 0, frozen_new hb 1, (below_drewN ((Below.refl _ _).alloc (Nat.le_refl _) _) n).trans (h.mono (by show _ ≤ (w.alloc _).heap.size; simp))⟩
theorem keepF {w w' : World} {a : Addr} {v : Value} (h : Below w.heap.size w w') (hc : w.cell? a = some v) (hf : w.frozen? a = false) : w'.frozen? a = false :=
  (World.frozen?_of_block (h.block _ (World.block_lt_of_cell? _ _ hc))).trans hf
theorem below_set {B : Nat} {w0 w : World} (h : Below B w0 w) (b o : Nat) (hb : B ≤ b) (v : Value) : Below B w0 (w.setCell ⟨b, o, none⟩ v) := h.setCell (p := ⟨b, o, none⟩) hb _
theorem set_far {w : World} {b o p q : Nat} {v x : Value} (h : b ≠ p) (hc : w.cell? ⟨p, q, none⟩ = some x) : (w.setCell ⟨b, o, none⟩ v).cell? ⟨p, q, none⟩ = some x := (World.cell?_setCell_far _ _ _ _ h).trans hc
theorem grown_new {w W : World} {row : Option Nat} (h : w.grownBy W row) {b o : Nat} (hb : w.heap.size ≤ b) (v : Value) : w.grownBy (W.setCell ⟨b, o, none⟩ v) row :=
  ⟨h.os, h.tape, h.output, by simpa [World.setCell] using h.size, fun i hi hn => (Below.heap_setCell W ⟨b, o, none⟩ v i (fun e => by simp at e; omega)).trans (h.block i hi hn)⟩
/-- A reader whose place is set, behind stores into a newer block. -/
theorem ref_end {w W1 wr : World} {p : Nat} {s : ByteArray} {t l b : Nat} {x y : Value} (hR : RefR w p s t) (h1 : Below w.heap.size w W1) (h2 : Below W1.heap.size W1 wr) (hl : t + l ≤ s.size) (hb : w.heap.size ≤ b) :
    RefR (((wr.setCell ⟨p, 1, none⟩ (.int .i64 ((t : Int) + (l : Int)))).setCell ⟨b, 0, none⟩ x).setCell ⟨b, 1, none⟩ y) p s (t + l) ∧ w.grownBy (((wr.setCell ⟨p, 1, none⟩ (.int .i64 ((t : Int) + (l : Int)))).setCell ⟨b, 0, none⟩ x).setCell ⟨b, 1, none⟩ y) (some p) := by
  have hB : Below w.heap.size w wr := h1.trans (h2.mono h1.size)
  have hR2 := hR.keep hB
  have hpl := hR.lt
  have hne : b ≠ p := by omega
  have c0 := hR2.c0
  have c1 := hR2.c1
  have f1 := hR2.f1
  refine ⟨⟨?_, ?_, ?_, hl, hR.h1⟩, ?_⟩
  · refine set_far hne (set_far hne ((World.cell?_setCell_other _ _ _ _ (fun e => by simp at e)).trans c0))
  · refine set_far hne (set_far hne ((World.cell?_setCell_same _ _ _ c1).trans ?_))
    simp
  · simp [f1]
  · exact grown_new (grown_new (grown_trans (grown_below hB _) (grown_set _ _ _)) hb _) hb _
set_option maxRecDepth 100000 in
set_option maxHeartbeats 4000000 in
theorem Num_any (n : Nat) (hn : n ≤ 8) (p : Nat) (s : ByteArray) (t : Nat) (w : World) (hr : RefR w p s t) : Calls Tryd.prog 24 #[.pointer (some ⟨p, 0, none⟩), .int .i64 (n : Int)] w (RfP p s t w (.int .u64 (nmV n (dropB s t))) (nmC n (dropB s t)) (nmL n (dropB s t))) := by
  obtain ⟨c0, c1, f1, h0, h1⟩ := hr
  have hR : Hid (RefR w p s t) := ⟨c0, c1, f1, h0, h1⟩
  have hsz := dropB_size s t
  have hw1 : IntKind.i64.wrap ((s.size : Int) - (t : Int)) = ((dropB s t).size : Int) := by rw [IntWalk.i64_in _ (by omega)]; omega
  have hpl : p < w.heap.size := World.block_lt_of_cell? _ _ c0
  by_cases hs : (dropB s t).size < n
  · have e0 : nmV n (dropB s t) = 0 := if_pos hs
    have e1 : nmC n (dropB s t) = 3 := if_pos hs
    have e2 : nmL n (dropB s t) = 0 := if_pos hs
    rw [e0, e1, e2]
    have hd : ((dropB s t).size : Int) < (n : Int) := by omega
    go_enter Tryd.func24, Tryd.ntmps24
    go_wp2_with fail
    go_quiet (fail)
    go_wp2_with fail
    refine (fault_any p s t 3 _ (hR.out.keep ?_)).mono ?_
    · exact (Below.refl _ _).alloc (Nat.le_refl _) _ |> fun h => below_drewN h _
    rintro e w1 ⟨rfl, hB⟩
    obtain ⟨k0, k1, g0, g1, hB1⟩ := box2 hB
    have HB1 := Lib.hid hB1
    clear hB hB1
    go_wp2_with fail
    refine bodyPost_ret (v := .tuple #[.int .u64 0, .agg #[.int .i64 3, .int .i64 (t : Int)]]) (by simp [results, Tryd.results24, go_sem, k0, k1, g0, g1]; try rfl) rfl ?_
    have hB2 := below_set (below_set HB1.out w.heap.size 0 (Nat.le_refl _) (.int .i64 3)) w.heap.size 1 (Nat.le_refl _) (.int .i64 t)
    refine ⟨rfl, hR.out.keep hB2, grown_below hB2 _⟩
  · have e0 : nmV n (dropB s t) = beN n (dropB s t) := if_neg hs
    have e1 : nmC n (dropB s t) = 0 := if_neg hs
    have e2 : nmL n (dropB s t) = n := if_neg hs
    rw [e0, e1, e2]
    have hd : ¬ (((dropB s t).size : Int) < (n : Int)) := by omega
    have htn : t + n ≤ s.size := by omega
    go_enter Tryd.func24, Tryd.ntmps24
    go_wp2_with fail
    go_quiet (fail)
    go_wp2_with fail
    have hB0 : Below ((w.alloc (.cells #[.int .i64 0, .int .i64 0] 35)).drewN nq).heap.size ((w.alloc (.cells #[.int .i64 0, .int .i64 0] 35)).drewN nq) ((w.alloc (.cells #[.int .i64 0, .int .i64 0] 35)).drewN nq) := Below.refl _ _
    obtain ⟨k0, k1, g0, g1, hB1⟩ := box2 hB0
    generalize (w.alloc (.cells #[.int .i64 0, .int .i64 0] 35)).drewN nq = W1 at k0 k1 g0 g1 hB1 ⊢
    have hR1 : Hid (RefR W1 p s t) := hR.out.keep hB1
    have HB1 := Lib.hid hB1
    have K0 := Lib.hid k0
    have K1 := Lib.hid k1
    have G0 := Lib.hid g0
    have G1 := Lib.hid g1
    clear k0 k1 g0 g1 hB0 hB1 c0 c1 f1
    have hlen : (s.data.toList.drop t).length = s.size - t := by rw [List.length_drop, Array.length_toList]; rfl
    go_loopw [6, 7] (fun xv iv wr => ∃ (i x : Nat), i ≤ n ∧ iv = .int .i64 i ∧ xv = .int .u64 (x : Int) ∧ Hid (x = foldB ((s.data.toList.drop t).take i)) ∧ Hid (Below W1.heap.size W1 wr)) (fun _ iv _ => n - (intOf iv).toNat)
    case atStart => exact ⟨0, 0, by omega, rfl, rfl, rfl, Below.refl _ _⟩
    case round =>
      obtain ⟨i, x, hi, rfl, rfl, HX, HB⟩ := hrel
      have hR2 := hR1.out.keep HB.out
      have c0 := hR2.c0
      have c1 := hR2.c1
      have f1 := hR2.f1
      by_cases hin : i < n
      · have hil : i < (s.data.toList.drop t).length := by omega
        obtain ⟨b, hb⟩ : ∃ b, (s.data.toList.drop t)[i] = b := ⟨_, rfl⟩
        have hnx : x * 256 + b.toNat = foldB ((s.data.toList.drop t).take (i + 1)) := by
          rw [List.take_succ_eq_append_getElem hil, foldB_snoc, ← HX.out, hb]
        have hx7 : x < 72057594037927936 := by
          rw [HX.out]
          refine Nat.lt_of_lt_of_le (foldB_lt _) ?_
          have : ((s.data.toList.drop t).take i).length ≤ 7 := by rw [List.length_take]; omega
          exact Nat.le_trans (Nat.pow_le_pow_right (by decide) this) (by decide)
        have hb8 := b.toNat_lt
        have hix : ∀ W, (Instr.index 9 (.string s) (.int .i64 ((t : Int) + (i : Int)))).run Tryd.prog W = .ok (.int .u8 ((b.toNat : Nat) : Int)) W := fun W => by
          have hlt : t + i < s.size := by omega
          rw [run_index_string (P := Tryd.prog) W 9 s .i64 ((t : Int) + (i : Int)) Tryd.underlying9, dif_pos (by omega)]
          have ht : ((t : Int) + (i : Int)).toNat = t + i := by omega
          have hg : s.data[t + i]'(by show t + i < s.size; exact hlt) = b := by
            rw [← hb, List.getElem_drop, Array.getElem_toList]
          simp only [ht]
          exact congrArg (fun z : UInt8 => Result.ok (Value.int .u8 (z.toNat : Int)) W) hg
        have HNX := Lib.hid hnx
        clear hnx hb
        have hw2 : IntKind.i64.wrap ((t : Int) + (i : Int)) = (t : Int) + (i : Int) := IntWalk.i64_in _ (by omega)
        have hm1 : IntKind.u64.wrap ((x : Int) * 256) = (x : Int) * 256 := by rw [IntKind.wrap_u64]; omega
        have hm2 : IntKind.u64.wrap ((b.toNat : Nat) : Int) = ((b.toNat : Nat) : Int) := by rw [IntKind.wrap_u64]; omega
        have hm3 : IntKind.u64.wrap ((x : Int) * 256 + ((b.toNat : Nat) : Int)) = (x : Int) * 256 + ((b.toNat : Nat) : Int) := by rw [IntKind.wrap_u64]; omega
        go_wp2_with fail
        go_quiet (fail)
        go_wp2_with fail
        go_roundw
        case rel => exact ⟨i + 1, x * 256 + b.toNat, by omega, by go_num, by simp, HNX, below_drewN HB.out _⟩
        case measure => simp [intOf]; omega
      · obtain rfl : i = n := by omega
        have k0 := keep_cell' HB.out K0.out
        have k1 := keep_cell' HB.out K1.out
        have g0 := keepF HB.out K0.out G0.out
        have g1 := keepF HB.out K1.out G1.out
        have hbe : beN i (dropB s t) = (x : Int) := by
          unfold beN
          rw [dropB_list, ← HX.out]
        have HBE := Lib.hid hbe
        clear hbe
        go_wp2_with fail
        rw [show (Value.int .u64 (beN i (dropB s t))) = .int .u64 (x : Int) by rw [HBE.out]]
        have hne : p ≠ w.heap.size := by omega
        refine bodyPost_ret (v := .tuple #[.int .u64 (x : Int), .agg #[.int .i64 0, .int .i64 0]]) (by simp [results, Tryd.results24, go_sem, k0, k1, g0, g1, hne]; try rfl) rfl ?_
        exact ⟨rfl, ref_end hR.out HB1.out HB.out htn (by omega)⟩
theorem tLen_eq (q : ByteArray) : tLen q = (be1 q).toNat + 1 := rfl
theorem be1_at (s : ByteArray) (t : Nat) (h : t < s.size) (W : World) : (Instr.index 9 (.string s) (.int .i64 (t : Int))).run Tryd.prog W = .ok (.int .u8 (be1 (dropB s t))) W := by
  rw [run_index_string (P := Tryd.prog) W 9 s .i64 (t : Int) Tryd.underlying9, dif_pos (by omega)]
  have hl : t < s.data.toList.length := by rw [Array.length_toList]; exact h
  have hg : be1 (dropB s t) = ((s.data[t]'(by exact h)).toNat : Int) := by
    unfold be1
    rw [dropB_list, List.getD_eq_getElem?_getD, List.getElem?_drop, Nat.add_zero, List.getElem?_eq_getElem hl]
    simp
  rw [hg]
  rfl
set_option maxRecDepth 100000 in
set_option maxHeartbeats 4000000 in
theorem rEnd_any (p : Nat) (s : ByteArray) (t : Nat) (w : World) (hr : RefR w p s t) : Calls Tryd.prog 26 #[.pointer (some ⟨p, 0, none⟩)] w fun e w' => e = .returned (.agg #[.int .i64 (enC (dropB s t)), .int .i64 (atF (enC (dropB s t)) t)]) ∧ Below w.heap.size w w' := by
  obtain ⟨c0, c1, f1, h0, h1⟩ := hr
  have hR : Hid (RefR w p s t) := ⟨c0, c1, f1, h0, h1⟩
  have hsz := dropB_size s t
  have hpl : p < w.heap.size := World.block_lt_of_cell? _ _ c0
  by_cases hs : (t : Int) < (s.size : Int)
  · have e1 : enC (dropB s t) = 4 := if_neg (by omega)
    rw [e1]
    go_enter Tryd.func26, Tryd.ntmps26
    go_wp2_with fail
    go_quiet (fail)
    go_wp2_with fail
    refine (fault_any p s t 4 _ (hR.out.keep ?_)).mono ?_
    · exact (Below.refl _ _).alloc (Nat.le_refl _) _ |> fun h => below_drewN h _
    rintro e w1 ⟨rfl, hB⟩
    obtain ⟨k0, k1, g0, g1, hB1⟩ := box2 hB
    have HB1 := Lib.hid hB1
    clear hB hB1
    go_wp2_with fail
    refine bodyPost_ret (v := .agg #[.int .i64 4, .int .i64 (t : Int)]) (by simp [results, Tryd.results26, go_sem, k0, k1, g0, g1]; try rfl) rfl ?_
    exact ⟨rfl, below_set (below_set HB1.out w.heap.size 0 (Nat.le_refl _) (.int .i64 4)) w.heap.size 1 (Nat.le_refl _) (.int .i64 t)⟩
  · have e1 : enC (dropB s t) = 0 := if_pos (by omega)
    rw [e1]
    go_enter Tryd.func26, Tryd.ntmps26
    go_wp2_with fail
    go_quiet (fail)
    go_wp2_with fail
    refine bodyPost_ret (v := .agg #[.int .i64 0, .int .i64 0]) (by simp [results, Tryd.results26, go_sem]; try rfl) rfl ?_
    refine ⟨rfl, ?_⟩
    exact below_set (below_set (below_drewN ((Below.refl _ _).alloc (Nat.le_refl _) _) _) w.heap.size 0 (Nat.le_refl _) _) w.heap.size 1 (Nat.le_refl _) _
set_option maxRecDepth 100000 in
set_option maxHeartbeats 8000000 in
theorem rText_any (most : Int) (p : Nat) (s : ByteArray) (t : Nat) (w : World) (hr : RefR w p s t) : Calls Tryd.prog 25 #[.pointer (some ⟨p, 0, none⟩), .int .i64 most] w (RfP p s t w (.string (txV most (dropB s t))) (tCode most (dropB s t)) (txL most (dropB s t))) := by
  obtain ⟨c0, c1, f1, h0, h1⟩ := hr
  have hR : Hid (RefR w p s t) := ⟨c0, c1, f1, h0, h1⟩
  have hsz := dropB_size s t
  have hpl : p < w.heap.size := World.block_lt_of_cell? _ _ c0
  have hno : ∀ c : Int, c ≠ 0 → tCode most (dropB s t) = c → txV most (dropB s t) = ⟨#[]⟩ ∧ txL most (dropB s t) = 0 := fun c hc he => ⟨if_neg (by rw [he]; exact hc), if_neg (by rw [he]; exact hc)⟩
  by_cases hm : most < 0
  · have e0 : tCode most (dropB s t) = 2 := if_pos hm
    obtain ⟨e1, e2⟩ := hno 2 (by decide) e0
    rw [e0, e1, e2]
    clear e0 e1 e2 hno
    go_enter Tryd.func25, Tryd.ntmps25
    go_wp2_with fail
    refine (fault_any p s t 2 _ (hR.out.keep ?_)).mono ?_
    · exact (Below.refl _ _).alloc (Nat.le_refl _) _
    rintro e w1 ⟨rfl, hB⟩
    obtain ⟨k0, k1, g0, g1, hB1⟩ := box2 (n := 0) hB
    have HB1 := Lib.hid hB1
    clear hB hB1
    go_wp2_with fail
    refine bodyPost_ret (v := .tuple #[.string ⟨#[]⟩, .agg #[.int .i64 2, .int .i64 (t : Int)]]) (by simp [results, Tryd.results25, go_sem, k0, k1, g0, g1]; try rfl) rfl ?_
    have hB2 := below_set (below_set HB1.out w.heap.size 0 (Nat.le_refl _) (.int .i64 2)) w.heap.size 1 (Nat.le_refl _) (.int .i64 t)
    exact ⟨rfl, hR.out.keep hB2, grown_below hB2 _⟩
  · have hm' : ¬ most < 0 := hm
    have hw1 : IntKind.i64.wrap ((s.size : Int) - (t : Int)) = (s.size : Int) - (t : Int) := IntWalk.i64_in _ (by omega)
    by_cases hs : (t : Int) < (s.size : Int)
    · have hs' : ¬ ((s.size : Int) ≤ (t : Int)) := by omega
      have hb := be1_bounds (dropB s t)
      obtain ⟨n, hn⟩ : ∃ n : Nat, be1 (dropB s t) = (n : Int) := ⟨(be1 (dropB s t)).toNat, by omega⟩
      have hix : ∀ W, (Instr.index 9 (.string s) (.int .i64 (t : Int))).run Tryd.prog W = .ok (.int .u8 (n : Int)) W := fun W => by rw [← hn]; exact be1_at s t (by omega) W
      have hTL : tLen (dropB s t) = n + 1 := by rw [tLen_eq, hn]; simp
      have hC : tCode most (dropB s t) = if most < (n : Int) then 4 else if (dropB s t).size < n + 1 then 3 else 0 := by
        unfold tCode
        rw [if_neg hm', if_neg (by omega), hn, hTL]
      have hn8 : (n : Int) < 256 := by omega
      have hw2 : IntKind.i64.wrap ((s.size : Int) - (t : Int) - 1) = (s.size : Int) - (t : Int) - 1 := IntWalk.i64_in _ (by omega)
      have hw3 : IntKind.i64.wrap (n : Int) = (n : Int) := IntWalk.i64_in _ (by omega)
      clear hn hb
      by_cases h4 : most < (n : Int)
      · have e0 : tCode most (dropB s t) = 4 := by rw [hC, if_pos h4]
        obtain ⟨e1, e2⟩ := hno 4 (by decide) e0
        rw [e0, e1, e2]
        clear e0 e1 e2 hno hC hTL
        go_enter Tryd.func25, Tryd.ntmps25
        go_wp2_with fail
        go_quiet (fail)
        go_wp2_with fail
        go_quiet (fail)
        go_wp2_with fail
        refine (fault_any p s t 4 _ (hR.out.keep ?_)).mono ?_
        · exact (Below.refl _ _).alloc (Nat.le_refl _) _ |> fun h => below_drewN h _
        rintro e w1 ⟨rfl, hB⟩
        obtain ⟨k0, k1, g0, g1, hB1⟩ := box2 hB
        have HB1 := Lib.hid hB1
        clear hB hB1
        go_wp2_with fail
        refine bodyPost_ret (v := .tuple #[.string ⟨#[]⟩, .agg #[.int .i64 4, .int .i64 (t : Int)]]) (by simp [results, Tryd.results25, go_sem, k0, k1, g0, g1]; try rfl) rfl ?_
        have hB2 := below_set (below_set HB1.out w.heap.size 0 (Nat.le_refl _) (.int .i64 4)) w.heap.size 1 (Nat.le_refl _) (.int .i64 t)
        exact ⟨rfl, hR.out.keep hB2, grown_below hB2 _⟩
      · by_cases h3 : (s.size : Int) - (t : Int) - 1 < (n : Int)
        · have e0 : tCode most (dropB s t) = 3 := by rw [hC, if_neg h4, if_pos (by omega)]
          obtain ⟨e1, e2⟩ := hno 3 (by decide) e0
          rw [e0, e1, e2]
          clear e0 e1 e2 hno hC hTL
          go_enter Tryd.func25, Tryd.ntmps25
          go_wp2_with fail
          go_quiet (fail)
          go_wp2_with fail
          go_quiet (fail)
          go_wp2_with fail
          go_quiet (fail)
          go_wp2_with fail
          refine (fault_any p s t 3 _ (hR.out.keep ?_)).mono ?_
          · exact (Below.refl _ _).alloc (Nat.le_refl _) _ |> fun h => below_drewN h _
          rintro e w1 ⟨rfl, hB⟩
          obtain ⟨k0, k1, g0, g1, hB1⟩ := box2 hB
          have HB1 := Lib.hid hB1
          clear hB hB1
          go_wp2_with fail
          refine bodyPost_ret (v := .tuple #[.string ⟨#[]⟩, .agg #[.int .i64 3, .int .i64 (t : Int)]]) (by simp [results, Tryd.results25, go_sem, k0, k1, g0, g1]; try rfl) rfl ?_
          have hB2 := below_set (below_set HB1.out w.heap.size 0 (Nat.le_refl _) (.int .i64 3)) w.heap.size 1 (Nat.le_refl _) (.int .i64 t)
          exact ⟨rfl, hR.out.keep hB2, grown_below hB2 _⟩
        · have e0 : tCode most (dropB s t) = 0 := by rw [hC, if_neg h4, if_neg (by omega)]
          have e1 : txV most (dropB s t) = tText (dropB s t) := if_pos e0
          have e2 : txL most (dropB s t) = n + 1 := by unfold txL; rw [if_pos e0, hTL]
          have hst : s.extract ((t : Int) + 1).toNat ((t : Int) + 1 + (n : Int)).toNat = tText (dropB s t) := by
            apply ByteArray.ext
            rw [← Array.toList_inj, Lib.extract_data]
            unfold tText
            rw [hTL, dropB_list, takeB_list, dropB_list]
            have h5 : ((t : Int) + 1).toNat = t + 1 := by omega
            have h6 : ((t : Int) + 1 + (n : Int)).toNat - ((t : Int) + 1).toNat = n := by omega
            rw [h6, h5, List.drop_take, List.drop_drop]
            rfl
          have hsl : ∀ W, (Instr.slice 9 (.string s) (some (.int .i64 ((t : Int) + 1))) (some (.int .i64 ((t : Int) + 1 + (n : Int)))) none).run Tryd.prog W = .ok (.string (tText (dropB s t))) W := fun W => by
            rw [run_slice_string W 9 s .i64 .i64 _ _ Tryd.underlying9 (by omega) (by omega) (by omega), hst]
          have hw4 : IntKind.i64.wrap ((t : Int) + 1) = (t : Int) + 1 := IntWalk.i64_in _ (by omega)
          have hw5 : IntKind.i64.wrap ((t : Int) + 1 + (n : Int)) = (t : Int) + 1 + (n : Int) := IntWalk.i64_in _ (by omega)
          have hln : t + (n + 1) ≤ s.size := by omega
          rw [e0, e1, e2]
          clear e0 e1 e2 hno hC hTL hst
          generalize tText (dropB s t) = q at hsl ⊢
          go_enter Tryd.func25, Tryd.ntmps25
          go_wp2_with fail
          go_quiet (fail)
          go_wp2_with fail
          go_quiet (fail)
          go_wp2_with fail
          go_quiet (fail)
          go_wp2_with fail
          go_quiet (fail)
          go_wp2_with fail
          refine bodyPost_ret (v := .tuple #[.string q, .agg #[.int .i64 0, .int .i64 0]]) (by simp [results, Tryd.results25, go_sem]; try rfl) rfl ?_
          rw [show (t : Int) + 1 + (n : Int) = (t : Int) + ((n + 1 : Nat) : Int) by omega]
          exact ⟨rfl, ref_end hR.out (below_drewN ((Below.refl _ _).alloc (Nat.le_refl _) _) _) (Below.refl _ _) hln (Nat.le_refl _)⟩
    · have e0 : tCode most (dropB s t) = 3 := by
        unfold tCode
        rw [if_neg hm', if_pos (by omega)]
      have hs' : (s.size : Int) ≤ (t : Int) := by omega
      obtain ⟨e1, e2⟩ := hno 3 (by decide) e0
      rw [e0, e1, e2]
      clear e0 e1 e2 hno
      go_enter Tryd.func25, Tryd.ntmps25
      go_wp2_with fail
      go_quiet (fail)
      go_wp2_with fail
      refine (fault_any p s t 3 _ (hR.out.keep ?_)).mono ?_
      · exact (Below.refl _ _).alloc (Nat.le_refl _) _ |> fun h => below_drewN h _
      rintro e w1 ⟨rfl, hB⟩
      obtain ⟨k0, k1, g0, g1, hB1⟩ := box2 hB
      have HB1 := Lib.hid hB1
      clear hB hB1
      go_wp2_with fail
      refine bodyPost_ret (v := .tuple #[.string ⟨#[]⟩, .agg #[.int .i64 3, .int .i64 (t : Int)]]) (by simp [results, Tryd.results25, go_sem, k0, k1, g0, g1]; try rfl) rfl ?_
      have hB2 := below_set (below_set HB1.out w.heap.size 0 (Nat.le_refl _) (.int .i64 3)) w.heap.size 1 (Nat.le_refl _) (.int .i64 t)
      exact ⟨rfl, hR.out.keep hB2, grown_below hB2 _⟩
end Go.Proofs.YtbnnemiiodhjbaaDoor
