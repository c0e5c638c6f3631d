/- Find. -/
import Derived.Test.YtemngdhbicndlaaDoorVb8
namespace Go.Proofs.YtemngdhbicndlaaDoor
open Go.RowKit
set_option linter.unusedVariables false
set_option linter.unusedSimpArgs false

def zeroF : Fd := ⟨0, false, 0, ⟨#[]⟩⟩
/-- The field of a tag. -/
def findF (l : List Fd) (tag : Int) : Option Fd := l.find? fun g => g.tag == tag
def findV (l : List Fd) (tag : Int) : Fd := (findF l tag).getD zeroF
theorem find_hit {l : List Fd} {tag : Int} {k : Nat} {f : Fd} (h : l[k]? = some f) (hn : findF (l.take k) tag = none) (hf : f.tag = tag) : findF l tag = some f := by
  unfold findF at hn ⊢
  rw [find_at h hn, if_pos hf]
theorem box_fr {w : World} {b : Nat} {cs : Array Value} {t : TypeId} (h : w.heap[b]? = some (.cells cs t (0, 0))) (j : Nat) : w.frozen? ⟨b, j, none⟩ = false := by
  simp [World.frozen?, h]
theorem set_heap {w : World} {b : Nat} {cs : Array Value} {t : TypeId} (h : w.heap[b]? = some (.cells cs t (0, 0))) (j : Nat) (v : Value) (hj : j < cs.size) : (w.setCell ⟨b, j, none⟩ v).heap[b]? = some (.cells (cs.setIfInBounds j v) t (0, 0)) := by
  have hb : b < w.heap.size := by
    rcases Nat.lt_or_ge b w.heap.size with h' | h'
    · exact h'
    · rw [Array.getElem?_eq_none h'] at h
      cases h
  have h2 : w.heap[b] = .cells cs t (0, 0) := by
    rw [Array.getElem?_eq_getElem hb] at h
    exact Option.some.inj h
  simp [World.setCell, hb, Array.getElem_modify, h2]
theorem set4_heap {w : World} {b : Nat} {v0 v1 v2 v3 : Value} {t : TypeId} (h : w.heap[b]? = some (.cells #[v0, v1, v2, v3] t (0, 0))) (n0 n1 n2 n3 : Value) :
    ((((w.setCell ⟨b, 0, none⟩ n0).setCell ⟨b, 1, none⟩ n1).setCell ⟨b, 2, none⟩ n2).setCell ⟨b, 3, none⟩ n3).heap[b]? = some (.cells #[n0, n1, n2, n3] t (0, 0)) :=
  set_heap (set_heap (set_heap (set_heap h 0 n0 (by simp)) 1 n1 (by simp)) 2 n2 (by simp)) 3 n3 (by simp)
theorem below_set {w X : World} {b j : Nat} {v : Value} {B : Nat} (h : Below B w X) (hb : B ≤ b) : Below B w (X.setCell ⟨b, j, none⟩ v) :=
  ⟨h.os, h.tape, h.output, by rw [World.size_setCell]; exact h.size, fun k hk => (Below.heap_setCell _ _ _ k (by show k ≠ b; omega)).trans (h.block k hk)⟩
set_option maxRecDepth 100000 in
set_option maxHeartbeats 8000000 in
theorem find_any (l : List Fd) (tag : Int) (v : Value) (w : World) (hv : RdV w v l) (hml : l.length ≤ maxLen) :
    Calls Tryd.prog 19 #[v, .int .i64 tag] w fun e w' => e = .returned (.tuple #[(findV l tag).val, .bool (findF l tag).isSome]) ∧ Below w.heap.size w w' := by
  obtain ⟨a, c, rfl, hc, hr⟩ := hv.opn
  unfold maxLen at hml
  have HR := Lib.hid hr
  clear hr hv
  go_enter Tryd.func19, Tryd.ntmps19
  go_wp2_with fail
  go_loopw [10] (fun kv wr => ∃ (k : Nat), k ≤ l.length ∧ kv = .int .i64 k ∧ Hid (findF (l.take k) tag = none) ∧ Hid (Below w.heap.size w wr) ∧ wr.heap[w.heap.size]? = some (.cells #[.int .i64 0, .bool false, .int .u64 0, .string ⟨#[]⟩] 50 (0, 0))) (fun kv _ => l.length - (intOf kv).toNat)
  case atStart => exact ⟨0, Nat.zero_le _, rfl, rfl, (Below.refl _ _).alloc (Nat.le_refl _) _, heap_alloc_new _ _⟩
  case round =>
    obtain ⟨k, hk, rfl, HN, HB, HX⟩ := hrel
    obtain ⟨x0, x1, x2, x3, _⟩ := box_S HX
    have y0 := box_fr HX 0
    have y1 := box_fr HX 1
    have y2 := box_fr HX 2
    have y3 := box_fr HX 3
    have hbl : w.heap.size < wr.heap.size := World.block_lt_of_cell? _ _ x0
    by_cases hkl : k < l.length
    · obtain ⟨f, hf⟩ : ∃ f, l[k]? = some f := ⟨l[k], List.getElem?_eq_getElem hkl⟩
      obtain ⟨b, o, rfl, hcs⟩ := HR.out k f hf
      have c0 := keepC HB.out (hcs 0 _ rfl)
      have c1 := keepC HB.out (hcs 1 _ rfl)
      have c2 := keepC HB.out (hcs 2 _ rfl)
      have c3 := keepC HB.out (hcs 3 _ rfl)
      rw [Nat.add_zero] at c0
      have HF := Lib.hid hf
      clear hf hcs
      cases ht : (f.tag == tag) with
      | true =>
        have hE : Hid (findF l tag = some f) := find_hit HF.out HN.out (by simpa using ht)
        have HS := Lib.hid (set4_heap HX (.int .i64 f.tag) (.bool f.isT) (.int .u64 (f.n : Nat)) (.string f.s))
        have HBS : Hid (Below w.heap.size w _) := below_set (j := 3) (v := .string f.s) (below_set (j := 2) (v := .int .u64 (f.n : Nat)) (below_set (j := 1) (v := .bool f.isT) (below_set (j := 0) (v := .int .i64 f.tag) HB.out (Nat.le_refl _)) (Nat.le_refl _)) (Nat.le_refl _)) (Nat.le_refl _)
        go_wp2_with fail
        have hq := below_box ((Below.refl _ _).alloc (Nat.le_refl _) (.cells #[.int .i64 f.tag, .bool f.isT, .int .u64 (f.n : Nat), .string f.s] 50)) HS.out
        obtain ⟨q0, q1, q2, q3, _⟩ := box_S hq
        refine bodyPost_ret (v := .tuple #[f.val, .bool true]) (by simp [results, Tryd.results19, go_sem, q0, q1, q2, q3, Fd.val]; try rfl) rfl ?_
        exact ⟨by unfold findV; rw [hE.out]; rfl, HBS.out.alloc (by simp [World.setCell]; exact HB.out.size) _⟩
      | false =>
        have HT := Lib.hid ht
        go_wp2_with fail
        go_roundw
        case rel => exact ⟨k + 1, by omega, by go_num, find_next HF.out HN.out (by have := HT.out; simpa using this), HB.out.alloc HB.out.size _, below_box ((Below.refl _ _).alloc (Nat.le_refl _) _) HX⟩
        case measure => simp [intOf]; omega
    · obtain rfl : k = l.length := by omega
      have hE : Hid (findF l tag = none) := by
        have q := HN.out
        rwa [List.take_length] at q
      have HS := Lib.hid (set4_heap HX (.int .i64 0) (.bool false) (.int .u64 0) (.string ⟨#[]⟩))
      have HBS : Hid (Below w.heap.size w _) := below_set (j := 3) (v := .string ⟨#[]⟩) (below_set (j := 2) (v := .int .u64 0) (below_set (j := 1) (v := .bool false) (below_set (j := 0) (v := .int .i64 0) HB.out (Nat.le_refl _)) (Nat.le_refl _)) (Nat.le_refl _)) (Nat.le_refl _)
      go_wp2_with fail
      obtain ⟨q0, q1, q2, q3, _⟩ := box_S HS.out
      refine bodyPost_ret (v := .tuple #[zeroF.val, .bool false]) (by simp [results, Tryd.results19, go_sem, q0, q1, q2, q3, Fd.val, zeroF]; try rfl) rfl ?_
      exact ⟨by unfold findV; rw [hE.out]; rfl, HBS.out⟩
set_option maxRecDepth 100000 in
set_option maxHeartbeats 8000000 in
theorem rfind_any (l : List Fd) (tag : Int) (v : Value) (w : World) (hv : RdV w v l) (hml : l.length ≤ maxLen) :
    Calls Tryd.prog 20 #[v, .int .i64 tag] w fun e w' => e = .returned (.tuple #[(findV l tag).val, .bool (findF l tag).isSome]) ∧ Below w.heap.size w w' := by
  obtain ⟨a, c, rfl, hc, hr⟩ := hv.opn
  unfold maxLen at hml
  have HR := Lib.hid hr
  clear hr hv
  go_enter Tryd.func20, Tryd.ntmps20
  go_wp2_with fail
  go_loopw [6] (fun kv wr => ∃ (k : Nat), k ≤ l.length ∧ kv = .int .i64 k ∧ Hid (findF (l.take k) tag = none) ∧ Hid (Below w.heap.size w wr) ∧ wr.heap[w.heap.size]? = some (.cells #[.int .i64 0, .bool false, .int .u64 0, .string ⟨#[]⟩] 50 (0, 0))) (fun kv _ => l.length - (intOf kv).toNat)
  case atStart => exact ⟨0, Nat.zero_le _, rfl, rfl, (Below.refl _ _).alloc (Nat.le_refl _) _, heap_alloc_new _ _⟩
  case round =>
    obtain ⟨k, hk, rfl, HN, HB, HX⟩ := hrel
    obtain ⟨x0, x1, x2, x3, _⟩ := box_S HX
    have y0 := box_fr HX 0
    have y1 := box_fr HX 1
    have y2 := box_fr HX 2
    have y3 := box_fr HX 3
    have hbl : w.heap.size < wr.heap.size := World.block_lt_of_cell? _ _ x0
    by_cases hkl : k < l.length
    · obtain ⟨f, hf⟩ : ∃ f, l[k]? = some f := ⟨l[k], List.getElem?_eq_getElem hkl⟩
      obtain ⟨b, o, rfl, hcs⟩ := HR.out k f hf
      have c0 := keepC HB.out (hcs 0 _ rfl)
      have c1 := keepC HB.out (hcs 1 _ rfl)
      have c2 := keepC HB.out (hcs 2 _ rfl)
      have c3 := keepC HB.out (hcs 3 _ rfl)
      rw [Nat.add_zero] at c0
      have HF := Lib.hid hf
      clear hf hcs
      cases ht : (f.tag == tag) with
      | true =>
        have hE : Hid (findF l tag = some f) := find_hit HF.out HN.out (by simpa using ht)
        have HS := Lib.hid (set4_heap HX (.int .i64 f.tag) (.bool f.isT) (.int .u64 (f.n : Nat)) (.string f.s))
        have HBS : Hid (Below w.heap.size w _) := below_set (j := 3) (v := .string f.s) (below_set (j := 2) (v := .int .u64 (f.n : Nat)) (below_set (j := 1) (v := .bool f.isT) (below_set (j := 0) (v := .int .i64 f.tag) HB.out (Nat.le_refl _)) (Nat.le_refl _)) (Nat.le_refl _)) (Nat.le_refl _)
        go_wp2_with fail
        obtain ⟨q0, q1, q2, q3, _⟩ := box_S HS.out
        refine bodyPost_ret (v := .tuple #[f.val, .bool true]) (by simp [results, Tryd.results20, go_sem, q0, q1, q2, q3, Fd.val]; try rfl) rfl ?_
        exact ⟨by unfold findV; rw [hE.out]; rfl, HBS.out⟩
      | false =>
        have HT := Lib.hid ht
        go_wp2_with fail
        go_roundw
        case rel => exact ⟨k + 1, by omega, by go_num, find_next HF.out HN.out (by have := HT.out; simpa using this), HB.out, HX⟩
        case measure => simp [intOf]; omega
    · obtain rfl : k = l.length := by omega
      have hE : Hid (findF l tag = none) := by
        have q := HN.out
        rwa [List.take_length] at q
      have HS := Lib.hid (set4_heap HX (.int .i64 0) (.bool false) (.int .u64 0) (.string ⟨#[]⟩))
      have HBS : Hid (Below w.heap.size w _) := below_set (j := 3) (v := .string ⟨#[]⟩) (below_set (j := 2) (v := .int .u64 0) (below_set (j := 1) (v := .bool false) (below_set (j := 0) (v := .int .i64 0) HB.out (Nat.le_refl _)) (Nat.le_refl _)) (Nat.le_refl _)) (Nat.le_refl _)
      go_wp2_with fail
      obtain ⟨q0, q1, q2, q3, _⟩ := box_S HS.out
      refine bodyPost_ret (v := .tuple #[zeroF.val, .bool false]) (by simp [results, Tryd.results20, go_sem, q0, q1, q2, q3, Fd.val, zeroF]; try rfl) rfl ?_
      exact ⟨by unfold findV; rw [hE.out]; rfl, HBS.out⟩
end Go.Proofs.YtemngdhbicndlaaDoor
