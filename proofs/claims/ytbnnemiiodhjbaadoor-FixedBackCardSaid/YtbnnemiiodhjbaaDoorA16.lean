/- fixed: numbers of 2 bytes. -/
import Derived.Test.YtbnnemiiodhjbaaDoorA
namespace Go.Proofs.YtbnnemiiodhjbaaDoor
open Go.RowKit

set_option maxHeartbeats 1000000 in
theorem width16 (w : World) : Calls Tryd.prog 53 #[] w fun e w' => e = .returned (.int .i64 2) ∧ w = w' := by
  go_enter Tryd.func53, Tryd.ntmps53
  go_wp2
  go_rounds 4
  go_returns
  exact ⟨rfl, rfl⟩

set_option maxHeartbeats 4000000 in
theorem lay16 (v : Value) (l : List UInt8) (y : Int) (w : World) (hv : RdB w v l) (h0 : 0 ≤ y) (h1 : y < 65536) (hl : l.length < 1000000) :
    Calls Tryd.prog 41 #[v, .int .u16 y] w fun e w' => ∃ v1, e = .returned v1 ∧ w'.ownsRow w.heap.size 5 1 v1 (l ++ beB 2 y.toNat).length (bv (l ++ beB 2 y.toNat)) ∧ Below w.heap.size w w' := by
  obtain ⟨A, c, rfl, hc, hn, hr⟩ := hv
  have HT : Tip w w.heap.size 5 (.slice (A.map fun p => (⟨p.1, p.2, none⟩ : Addr)) l.length l.length) l := .inr ⟨A, rfl, fun h => List.eq_nil_of_length_eq_zero (by have := hn h; omega), hr⟩
  have HB := Below.refl w.heap.size w
  have HS := Nat.le_refl w.heap.size
  clear hn hr
  have hsl := fun W => slice_full 22 5 Tryd.underlying22 info_u8 (A.map fun p => (⟨p.1, p.2, none⟩ : Addr)) l.length l.length c hc W
  go_enter Tryd.func41, Tryd.ntmps41
  go_wp2_with (go_at_call 53; refine (width16 _).mono ?_; rintro e w' ⟨rfl, rfl⟩)
  refine wp_loop_rounds 3 ?_
  rw [rounds_succ]
  go_wp2_with (at_builtin; refine tip_append w.heap.size rfl (.tmp 19) (.tmp 26) 22 5 rfl Tryd.underlying22 info_u8 _ _ _ (by omega) (by omega) rfl rfl HT HB HS (by first | omega | (simp; omega)) ?_; clear HT HB; intro v0 w0 hown0 HB hsz; have HT := Tip.owned hown0; clear HS; have HS := HB.size; clear hsz)
  rw [rounds_succ]
  go_wp2_with (at_builtin; refine tip_append w.heap.size rfl (.tmp 19) (.tmp 26) 22 5 rfl Tryd.underlying22 info_u8 _ _ _ (by omega) (by omega) rfl rfl HT HB HS (by first | omega | (simp; omega)) ?_; clear HT HB; intro v1 w1 hown1 HB hsz; have HT := Tip.owned hown1; clear HS; have HS := HB.size; clear hsz)
  rw [rounds_succ]
  go_wp2
  go_returns
  refine ⟨_, rfl, ?_, HB⟩
  have e1 : l ++ beB 2 y.toNat = (l ++ [UInt8.ofNat (y / 256).toNat]) ++ [UInt8.ofNat (y % 256).toNat] := by
    simp only [beB, List.nil_append, List.append_assoc, List.cons_append, List.append_cancel_left_eq, List.cons.injEq, and_true]
    refine ⟨?_, ?_⟩ <;> congr 1 <;> omega
  rw [e1]
  exact hown1

set_option maxHeartbeats 1000000 in
theorem P16_any (v : Value) (l : List UInt8) (y : Int) (w : World) (hv : RdB w v l) (h0 : 0 ≤ y) (h1 : y < 65536) (hl : l.length < 1000000) :
    Calls Tryd.prog 27 #[v, .int .u16 y] w fun e w' => ∃ v1, e = .returned v1 ∧ w'.ownsRow w.heap.size 5 1 v1 (l ++ beB 2 y.toNat).length (bv (l ++ beB 2 y.toNat)) ∧ Below w.heap.size w w' := by
  go_enter Tryd.func27, Tryd.ntmps27
  go_wp2_with (go_at_call 41; refine (lay16 _ l _ _ hv h0 h1 hl).mono ?_; rintro e w' ⟨v1, rfl, hown, hB⟩)
  go_ret
  exact ⟨v1, rfl, hown, hB⟩
end Go.Proofs.YtbnnemiiodhjbaaDoor
