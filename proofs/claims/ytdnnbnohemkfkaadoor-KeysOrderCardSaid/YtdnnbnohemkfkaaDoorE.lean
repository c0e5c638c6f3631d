/- keys: named pieces, and all pieces as values. -/
import Derived.Test.YtdnnbnohemkfkaaDoorD
namespace Go.Proofs.YtdnnbnohemkfkaaDoor
open Go.RowKit

set_option maxRecDepth 100000 in
set_option maxHeartbeats 2000000 in
theorem named1_any (b1 : Nat) (s : ByteArray) (v : Value) (l : List UInt8) (w : World) (h1 : w.cell? ⟨b1, 0, none⟩ = some (.string s)) (hG : GP w) (hs : s.size ≤ 140737488351232) (hv : RdB w v l) (hl : l.length < 900000) :
    Calls Tryd.prog 57 #[v, .pointer (some ⟨b1, 0, none⟩)] w fun e w' => ∃ v1, e = .returned (.tuple #[v1, .bool (personB s.data.toList)]) ∧ RdB w' v1 (l ++ textB s.data.toList) ∧ Below w.heap.size w w' := by
  go_enter Tryd.func57, Tryd.ntmps57
  go_wp2_with fail
  go_region_held3 (fun w' => w'.cell? ⟨b1, 0, none⟩ = some (.string s)) (first | go_keep | (exact (hB.cell (World.block_lt_of_cell? w _ h1)).trans h1) | (exact (hB2.cell (World.block_lt_of_cell? _ _ ((hB.cell (World.block_lt_of_cell? w _ h1)).trans h1))).trans ((hB.cell (World.block_lt_of_cell? w _ h1)).trans h1)))
      (first | (go_at_call 58; refine (PText_any _ l _ _ hv.drew hs (by omega)).mono ?_; rintro e w' ⟨v1, rfl, hown, hB⟩) | (go_at_call 29; refine (person_any s _ hs ?_).mono ?_; (first | exact hG.below (of_drew hB)); rintro e w2 ⟨rfl, hB2⟩))
  go_wp2
  go_ret2
  exact ⟨v1, rfl, (RdB.own hown).below hB2, (of_drew hB).trans (hB2.mono (of_drew hB).size)⟩

/-- Whether a number lies so. -/
def inB (lo hi n : Int) : Bool := decide (lo ≤ n ∧ n ≤ hi)

set_option maxHeartbeats 1000000 in
theorem within_any (n least most : Int) (w : World) : Calls Tryd.prog 53 #[.int .i64 n, .int .i64 least, .int .i64 most] w fun e w' => ∃ f, e = .returned f ∧ IsPiece w' f (beB 1 (n % 256).toNat) (inB least most n) ∧ Below w.heap.size w w' := by
  go_enter Tryd.func53, Tryd.ntmps53
  go_wp2
  go_ret
  refine ⟨_, rfl, ⟨_, _, rfl, enters Tryd.func66 (by kernel_rfl) rfl, ?_⟩, by go_grown⟩
  intro v l wx hv hl hB
  exact within1_any _ _ _ n least most v l wx ((hB.cell (by simp <;> omega)).trans (by go_cell)) ((hB.cell (by simp <;> omega)).trans (by go_cell)) ((hB.cell (by simp <;> omega)).trans (by go_cell)) hv hl

theorem IsPiece.below {w w1 : World} {f : Value} {bs : List UInt8} {ok : Bool} (h : IsPiece w f bs ok) (hb : Below w.heap.size w w1) : IsPiece w1 f bs ok := by
  obtain ⟨fid, cap, e, hen, hc⟩ := h
  exact ⟨fid, cap, e, hen, fun v l w2 hv hl hB => hc v l w2 hv hl (hb.trans (hB.mono hb.size))⟩

set_option maxHeartbeats 1000000 in
theorem number_any (n : Int) (w : World) (h0 : 0 ≤ n) (h1 : n < 4294967296) : Calls Tryd.prog 33 #[.int .u32 n] w fun e w' => ∃ f, e = .returned f ∧ IsPiece w' f (beB 4 n.toNat) true ∧ Below w.heap.size w w' := by
  go_enter Tryd.func33, Tryd.ntmps33
  go_wp2
  go_ret
  refine ⟨_, rfl, ⟨_, _, rfl, enters Tryd.func54 (by kernel_rfl) rfl, ?_⟩, by go_grown⟩
  intro v l wx hv hl hB
  exact number1_any _ n v l wx ((hB.cell (by simp)).trans (by go_cell)) h0 h1 hv hl

set_option maxHeartbeats 1000000 in
theorem named_any (s : ByteArray) (w : World) (hG : GP w) (hs : s.size ≤ 140737488351232) : Calls Tryd.prog 38 #[.string s] w fun e w' => ∃ f, e = .returned f ∧ IsPiece w' f (textB s.data.toList) (personB s.data.toList) ∧ Below w.heap.size w w' := by
  go_enter Tryd.func38, Tryd.ntmps38
  go_wp2
  go_ret
  refine ⟨_, rfl, ⟨_, _, rfl, enters Tryd.func57 (by kernel_rfl) rfl, ?_⟩, by go_grown⟩
  intro v l wx hv hl hB
  have hB0 : Below w.heap.size w (w.alloc (.cells #[.string s] 9)) := by go_grown
  exact named1_any _ s v l wx ((hB.cell (by simp)).trans (by go_cell)) ((hG.below hB0).below hB) hs hv hl

set_option maxHeartbeats 1000000 in
theorem of_any (n : Int) (w : World) : Calls Tryd.prog 32 #[.int .i64 n] w fun e w' => ∃ f, e = .returned f ∧ IsPiece w' f (beB 1 (n % 256).toNat) (inB 0 3 n) ∧ Below w.heap.size w w' := by
  go_enter Tryd.func32, Tryd.ntmps32
  go_wp2_with (go_at_call 53; refine (within_any _ _ _ _).mono ?_; rintro e w' ⟨f, rfl, hp, hB⟩)
  go_ret
  exact ⟨f, rfl, hp, hB⟩

set_option maxHeartbeats 1000000 in
theorem which_any (n : Int) (w : World) : Calls Tryd.prog 35 #[.int .i64 n] w fun e w' => ∃ f, e = .returned f ∧ IsPiece w' f (beB 1 (n % 256).toNat) (inB 1 2 n) ∧ Below w.heap.size w w' := by
  go_enter Tryd.func35, Tryd.ntmps35
  go_wp2_with (go_at_call 53; refine (within_any _ _ _ _).mono ?_; rintro e w' ⟨f, rfl, hp, hB⟩)
  go_ret
  exact ⟨f, rfl, hp, hB⟩

set_option maxHeartbeats 1000000 in
theorem on_any (n : Int) (w : World) : Calls Tryd.prog 36 #[.int .i64 n] w fun e w' => ∃ f, e = .returned f ∧ IsPiece w' f (beB 1 (n % 256).toNat) (inB 0 63 n) ∧ Below w.heap.size w w' := by
  go_enter Tryd.func36, Tryd.ntmps36
  go_wp2_with (go_at_call 53; refine (within_any _ _ _ _).mono ?_; rintro e w' ⟨f, rfl, hp, hB⟩)
  go_ret
  exact ⟨f, rfl, hp, hB⟩

end Go.Proofs.YtdnnbnohemkfkaaDoor
