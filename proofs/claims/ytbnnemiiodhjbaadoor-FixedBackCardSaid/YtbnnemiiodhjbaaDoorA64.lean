/- fixed: numbers of 8 bytes. -/
import Derived.Test.YtbnnemiiodhjbaaDoorA
namespace Go.Proofs.YtbnnemiiodhjbaaDoor
open Go.RowKit

set_option maxHeartbeats 1000000 in
theorem width64 (w : World) : Calls Tryd.prog 45 #[] w fun e w' => e = .returned (.int .i64 8) ∧ w = w' := by
  go_enter Tryd.func45, Tryd.ntmps45
  go_wp2
  go_rounds 10
  go_returns
  exact ⟨rfl, rfl⟩

set_option maxHeartbeats 8000000 in
theorem lay64 (v : Value) (l : List UInt8) (y : Int) (w : World) (hv : RdB w v l) (h0 : 0 ≤ y) (h1 : y < 18446744073709551616) (hl : l.length < 1000000) :
    Calls Tryd.prog 38 #[v, .int .u64 y] w fun e w' => ∃ v1, e = .returned v1 ∧ w'.ownsRow w.heap.size 5 1 v1 (l ++ beB 8 y.toNat).length (bv (l ++ beB 8 y.toNat)) ∧ Below w.heap.size w w' := by
  obtain ⟨A, c, rfl, hc, hn, hr⟩ := hv
  have HT : Tip w w.heap.size 5 (.slice (A.map fun p => (⟨p.1, p.2, none⟩ : Addr)) l.length l.length) l := .inr ⟨A, rfl, fun h => List.eq_nil_of_length_eq_zero (by have := hn h; omega), hr⟩
  have HB := Below.refl w.heap.size w
  have HS := Nat.le_refl w.heap.size
  clear hn hr
  have hsl := fun W => slice_full 22 5 Tryd.underlying22 info_u8 (A.map fun p => (⟨p.1, p.2, none⟩ : Addr)) l.length l.length c hc W
  go_enter Tryd.func38, Tryd.ntmps38
  go_wp2_with (go_at_call 45; refine (width64 _).mono ?_; rintro e w' ⟨rfl, rfl⟩)
  refine wp_loop_rounds 9 ?_
  rw [rounds_succ]
  go_wp2_with (at_builtin; refine tip_append w.heap.size rfl (.tmp 19) (.tmp 25) 22 5 rfl Tryd.underlying22 info_u8 _ _ _ (by omega) (by omega) rfl rfl HT HB HS (by first | omega | (simp; omega)) ?_; clear HT HB; intro v0 w0 hown0 HB hsz; have HT := Tip.owned hown0; clear HS; have HS := HB.size; clear hsz)
  rw [rounds_succ]
  go_wp2_with (at_builtin; refine tip_append w.heap.size rfl (.tmp 19) (.tmp 25) 22 5 rfl Tryd.underlying22 info_u8 _ _ _ (by omega) (by omega) rfl rfl HT HB HS (by first | omega | (simp; omega)) ?_; clear HT HB; intro v1 w1 hown1 HB hsz; have HT := Tip.owned hown1; clear HS; have HS := HB.size; clear hsz)
  rw [rounds_succ]
  go_wp2_with (at_builtin; refine tip_append w.heap.size rfl (.tmp 19) (.tmp 25) 22 5 rfl Tryd.underlying22 info_u8 _ _ _ (by omega) (by omega) rfl rfl HT HB HS (by first | omega | (simp; omega)) ?_; clear HT HB; intro v2 w2 hown2 HB hsz; have HT := Tip.owned hown2; clear HS; have HS := HB.size; clear hsz)
  rw [rounds_succ]
  go_wp2_with (at_builtin; refine tip_append w.heap.size rfl (.tmp 19) (.tmp 25) 22 5 rfl Tryd.underlying22 info_u8 _ _ _ (by omega) (by omega) rfl rfl HT HB HS (by first | omega | (simp; omega)) ?_; clear HT HB; intro v3 w3 hown3 HB hsz; have HT := Tip.owned hown3; clear HS; have HS := HB.size; clear hsz)
  rw [rounds_succ]
  go_wp2_with (at_builtin; refine tip_append w.heap.size rfl (.tmp 19) (.tmp 25) 22 5 rfl Tryd.underlying22 info_u8 _ _ _ (by omega) (by omega) rfl rfl HT HB HS (by first | omega | (simp; omega)) ?_; clear HT HB; intro v4 w4 hown4 HB hsz; have HT := Tip.owned hown4; clear HS; have HS := HB.size; clear hsz)
  rw [rounds_succ]
  go_wp2_with (at_builtin; refine tip_append w.heap.size rfl (.tmp 19) (.tmp 25) 22 5 rfl Tryd.underlying22 info_u8 _ _ _ (by omega) (by omega) rfl rfl HT HB HS (by first | omega | (simp; omega)) ?_; clear HT HB; intro v5 w5 hown5 HB hsz; have HT := Tip.owned hown5; clear HS; have HS := HB.size; clear hsz)
  rw [rounds_succ]
  go_wp2_with (at_builtin; refine tip_append w.heap.size rfl (.tmp 19) (.tmp 25) 22 5 rfl Tryd.underlying22 info_u8 _ _ _ (by omega) (by omega) rfl rfl HT HB HS (by first | omega | (simp; omega)) ?_; clear HT HB; intro v6 w6 hown6 HB hsz; have HT := Tip.owned hown6; clear HS; have HS := HB.size; clear hsz)
  rw [rounds_succ]
  go_wp2_with (at_builtin; refine tip_append w.heap.size rfl (.tmp 19) (.tmp 25) 22 5 rfl Tryd.underlying22 info_u8 _ _ _ (by omega) (by omega) rfl rfl HT HB HS (by first | omega | (simp; omega)) ?_; clear HT HB; intro v7 w7 hown7 HB hsz; have HT := Tip.owned hown7; clear HS; have HS := HB.size; clear hsz)
  rw [rounds_succ]
  go_wp2
  go_returns
  refine ⟨_, rfl, ?_, HB⟩
  have e1 : l ++ beB 8 y.toNat = ((((((((l ++ [UInt8.ofNat (y / 72057594037927936).toNat]) ++ [UInt8.ofNat ((y / 281474976710656) % 256).toNat]) ++ [UInt8.ofNat ((y / 1099511627776) % 256).toNat]) ++ [UInt8.ofNat ((y / 4294967296) % 256).toNat]) ++ [UInt8.ofNat ((y / 16777216) % 256).toNat]) ++ [UInt8.ofNat ((y / 65536) % 256).toNat]) ++ [UInt8.ofNat ((y / 256) % 256).toNat]) ++ [UInt8.ofNat (y % 256).toNat]) := by
    simp only [beB, List.nil_append, List.append_assoc, List.cons_append, List.append_cancel_left_eq, List.cons.injEq, and_true]
    refine ⟨?_, ?_, ?_, ?_, ?_, ?_, ?_, ?_⟩ <;> congr 1 <;> omega
  rw [e1]
  exact hown7

set_option maxHeartbeats 1000000 in
theorem P64_any (v : Value) (l : List UInt8) (y : Int) (w : World) (hv : RdB w v l) (h0 : 0 ≤ y) (h1 : y < 18446744073709551616) (hl : l.length < 1000000) :
    Calls Tryd.prog 22 #[v, .int .u64 y] w fun e w' => ∃ v1, e = .returned v1 ∧ w'.ownsRow w.heap.size 5 1 v1 (l ++ beB 8 y.toNat).length (bv (l ++ beB 8 y.toNat)) ∧ Below w.heap.size w w' := by
  go_enter Tryd.func22, Tryd.ntmps22
  go_wp2_with (go_at_call 38; refine (lay64 _ l _ _ hv h0 h1 hl).mono ?_; rintro e w' ⟨v1, rfl, hown, hB⟩)
  go_ret
  exact ⟨v1, rfl, hown, hB⟩

end Go.Proofs.YtbnnemiiodhjbaaDoor
