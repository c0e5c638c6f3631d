/- keys.ReadSeat. -/
import Derived.Test.YtdnnbnohemkfkaaDoorQ2
import Derived.Test.YtdnnbnohemkfkaaDoorBk
namespace Go.Proofs.YtdnnbnohemkfkaaDoor
open Go.RowKit
set_option linter.unusedVariables false

def sq1 (q : ByteArray) : Int := be1 (dropB q 1)
def sq2 (q : ByteArray) : Int := be1 (dropB (dropB q 1) 1)
def isSeat (q : ByteArray) : Prop := 3 ≤ q.size ∧ q.toList = kSeat (be1 q) (sq1 q) (sq2 q)
instance (q : ByteArray) : Decidable (isSeat q) := by unfold isSeat; infer_instance
def stV (q : ByteArray) : Value := if isSeat q then .tuple #[.int .i64 (be1 q), .int .i64 (sq1 q), .int .i64 (sq2 q), .bool true] else .tuple #[.int .i64 0, .int .i64 0, .int .i64 0, .bool false]
theorem stV_no {q : ByteArray} (h : ¬ isSeat q) : stV q = .tuple #[.int .i64 0, .int .i64 0, .int .i64 0, .bool false] := if_neg h
theorem stV_is {q : ByteArray} (h : isSeat q) : stV q = .tuple #[.int .i64 (be1 q), .int .i64 (sq1 q), .int .i64 (sq2 q), .bool true] := if_pos h

theorem Rdr.set {w : World} {p : Nat} {q : ByteArray} {t : Int} (h : Rdr w p q t) {a : Addr} (hne : p ≠ a.block) (u : Value) : Rdr (w.setCell a u) p q t := by
  have hk : (w.setCell a u).heap[p]? = w.heap[p]? := Below.heap_setCell w a u p hne
  exact ⟨⟨(World.cell?_of_block hk).trans h.r.c0, (World.cell?_of_block hk).trans h.r.c1, (World.frozen?_of_block hk).trans h.r.f0, (World.frozen?_of_block hk).trans h.r.f1⟩, h.h0, h.h1⟩

set_option maxRecDepth 100000 in
set_option maxHeartbeats 4000000 in
theorem ReadSeat_any (q : ByteArray) (w : World) (hq : q.size ≤ 140737488351232) : Calls Tryd.prog 27 #[.string q] w fun e w' => e = .returned (stV q) ∧ Below w.heap.size w w' := by
  have HB := Below.refl w.heap.size w
  have hb := be1_bounds q
  have hb1 := be1_bounds (dropB q 1)
  have hb2 := be1_bounds (dropB (dropB q 1) 1)
  have ds := dropB_size q 1
  have ds2 := dropB_size (dropB q 1) 1
  have HS : Hid ((dropB q 1).size = q.size - 1 ∧ (dropB (dropB q 1) 1).size = (dropB q 1).size - 1) := ⟨ds, ds2⟩
  clear ds ds2
  go_enter Tryd.func27, Tryd.ntmps27
  go_wp2_with fail
  refine wp_scope_fwd 0 rfl ?_
  go_wp2_with (first | (go_at_call 46; refine (New_any _ _).mono ?_; rintro e w1 ⟨rfl, hr, hB, hs⟩; have hp := HB.size; replace HB := HB.trans (hB.mono hp); clear hB hs; replace hr := Rdr.start hr (by assumption)))
  refine wp_loop_rounds 4 ?_
  rw [rounds_succ]
  have hpl := hr.lt
  have hl := blk_new w1 (.cells #[.int .u8 0, .int .u8 0, .int .u8 0] 67)
  have hB0 := below_alloc w1 (.cells #[.int .u8 0, .int .u8 0, .int .u8 0] 67)
  replace HB := HB.trans (hB0.mono HB.size)
  replace hr := hr.keep hB0
  clear hB0
  go_wp2_with fail
  refine (U8_all HB hp hr).mono ?_
  clear HB hr
  rintro e w2 (⟨hs0, a, rfl, hf, hr, hg, HB⟩ | ⟨hs0, rfl, hr, hg, HB⟩)
  · have HV := Lib.hid (stV_no (q := q) (fun h => by have := HS.out; have := h.1; omega))
    replace hl := blk_grown hl hg (by simp; omega)
    have c0 : w2.cell? ⟨w1.heap.size, 0, none⟩ = some (.int .u8 0) := blk_cell hl 0
    have f0 := blk_frozen hl 0
    go_wp2_with fail
    go_step3
    refine ⟨rfl, ?_⟩
    go_wp2
    rw [Exit.noGoto_ret]
    repeat go_big_open
    go_returns
    exact ⟨HV.out.symm ▸ rfl, HB.setCell (Nat.le_of_lt hpl) _⟩
  replace hl := blk_grown hl hg (by simp; omega)
  have c0 : w2.cell? ⟨w1.heap.size, 0, none⟩ = some (.int .u8 0) := blk_cell hl 0
  have f0 := blk_frozen hl 0
  go_wp2_with fail
  rw [rounds_succ]
  go_wp2_with fail
  replace hl := blk_set hl 0 (.int .u8 (be1 (q)))
  refine (U8_all (HB.setCell (Nat.le_of_lt hpl) _) hp (hr.set (Nat.ne_of_lt hpl) _)).mono ?_
  clear HB hr
  rintro e w3 (⟨hs1, a, rfl, hf, hr, hg, HB⟩ | ⟨hs1, rfl, hr, hg, HB⟩)
  · have HV := Lib.hid (stV_no (q := q) (fun h => by have := HS.out; have := h.1; omega))
    replace hl := blk_grown hl hg (by simp; omega)
    have c1 : w3.cell? ⟨w1.heap.size, 1, none⟩ = some (.int .u8 0) := blk_cell hl 1
    have f1 := blk_frozen hl 1
    go_wp2_with fail
    go_step3
    refine ⟨rfl, ?_⟩
    go_wp2
    rw [Exit.noGoto_ret]
    repeat go_big_open
    go_returns
    exact ⟨HV.out.symm ▸ rfl, HB.setCell (Nat.le_of_lt hpl) _⟩
  replace hl := blk_grown hl hg (by simp; omega)
  have c1 : w3.cell? ⟨w1.heap.size, 1, none⟩ = some (.int .u8 0) := blk_cell hl 1
  have f1 := blk_frozen hl 1
  go_wp2_with fail
  rw [rounds_succ]
  go_wp2_with fail
  replace hl := blk_set hl 1 (.int .u8 (be1 (dropB q 1)))
  refine (U8_all (HB.setCell (Nat.le_of_lt hpl) _) hp (hr.set (Nat.ne_of_lt hpl) _)).mono ?_
  clear HB hr
  rintro e w4 (⟨hs2, a, rfl, hf, hr, hg, HB⟩ | ⟨hs2, rfl, hr, hg, HB⟩)
  · have HV := Lib.hid (stV_no (q := q) (fun h => by have := HS.out; have := h.1; omega))
    replace hl := blk_grown hl hg (by simp; omega)
    have c2 : w4.cell? ⟨w1.heap.size, 2, none⟩ = some (.int .u8 0) := blk_cell hl 2
    have f2 := blk_frozen hl 2
    go_wp2_with fail
    go_step3
    refine ⟨rfl, ?_⟩
    go_wp2
    rw [Exit.noGoto_ret]
    repeat go_big_open
    go_returns
    exact ⟨HV.out.symm ▸ rfl, HB.setCell (Nat.le_of_lt hpl) _⟩
  replace hl := blk_grown hl hg (by simp; omega)
  have c2 : w4.cell? ⟨w1.heap.size, 2, none⟩ = some (.int .u8 0) := blk_cell hl 2
  have f2 := blk_frozen hl 2
  go_wp2_with fail
  rw [rounds_succ]
  go_wp2_with fail
  replace hl := blk_set hl 2 (.int .u8 (be1 (dropB (dropB q 1) 1)))
  replace HB := HB.setCell (p := ⟨w1.heap.size, 2, none⟩) (Nat.le_of_lt hpl) (.int .u8 (be1 (dropB (dropB q 1) 1)))
  generalize w4.setCell ⟨w1.heap.size, 2, none⟩ (.int .u8 (be1 (dropB (dropB q 1) 1))) = w5 at hl HB ⊢
  have k0 : w5.cell? ⟨w1.heap.size, 0, none⟩ = some (.int .u8 (be1 q)) := blk_cell hl 0
  have k1 : w5.cell? ⟨w1.heap.size, 1, none⟩ = some (.int .u8 (be1 (dropB q 1))) := blk_cell hl 1
  have k2 : w5.cell? ⟨w1.heap.size, 2, none⟩ = some (.int .u8 (be1 (dropB (dropB q 1) 1))) := blk_cell hl 2
  clear hl c0 c1 c2 f0 f1 f2 hr hg
  go_quiet (fail)
  replace HB := below_drewN HB nq
  generalize w5.drewN nq = w6 at HB ⊢
  go_wp2_with (first | (go_at_call 10; refine (Seat_any _ _ _ _).mono ?_; rintro e w1 ⟨rfl, hB⟩; replace HB := HB.trans (hB.mono HB.size); clear hB))
  · rename_i hx
    have HV := Lib.hid (stV_is (q := q) ⟨by have := HS.out; omega, by simpa [sq1, sq2] using hx⟩)
    go_wp2
    rw [fwd_ret]
    repeat go_big_open
    go_returns
    exact ⟨HV.out.symm ▸ rfl, HB⟩
  · have hx : (q.toList == kSeat (be1 q) (be1 (dropB q 1)) (be1 (dropB (dropB q 1) 1))) = false := by assumption
    have HV := Lib.hid (stV_no (q := q) (fun h => by have h2 := h.2; simp only [sq1, sq2] at h2; rw [← h2] at hx; simp at hx))
    go_step3
    go_wp2
    rw [fwd_ret]
    repeat go_big_open
    go_returns
    exact ⟨HV.out.symm ▸ rfl, HB⟩
end Go.Proofs.YtdnnbnohemkfkaaDoor
