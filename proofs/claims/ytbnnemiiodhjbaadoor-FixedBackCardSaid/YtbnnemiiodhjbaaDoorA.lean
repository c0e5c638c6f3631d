/- Contracts of package fixed: widths of numbers, laid numbers. -/
import Derived.Test.YtbnnemiiodhjbaaDoorWd
namespace Go.Proofs.YtbnnemiiodhjbaaDoor
open Go.RowKit

theorem info_u8 : (Tryd.prog.info? 5).map (fun i => (i.zero, i.size, i.bytes)) = some (some (.int .u8 0), 1, 1) := by kernel_rfl

set_option maxHeartbeats 1000000 in
theorem width8 (w : World) : Calls Tryd.prog 43 #[] w fun e w' => e = .returned (.int .i64 1) ∧ w = w' := by
  go_enter Tryd.func43, Tryd.ntmps43
  go_wp2
  go_rounds 3
  go_returns
  exact ⟨rfl, rfl⟩

set_option maxHeartbeats 1000000 in
theorem width32 (w : World) : Calls Tryd.prog 54 #[] w fun e w' => e = .returned (.int .i64 4) ∧ w = w' := by
  go_enter Tryd.func54, Tryd.ntmps54
  go_wp2
  go_rounds 6
  go_returns
  exact ⟨rfl, rfl⟩

/-- A number's bytes, the highest first. -/
def beB : Nat → Nat → List UInt8
  | 0, _ => []
  | k + 1, n => beB k (n / 256) ++ [UInt8.ofNat (n % 256)]

set_option maxHeartbeats 1000000 in
theorem lay8 (v : Value) (l : List UInt8) (y : Int) (w : World) (hv : RdB w v l) (h0 : 0 ≤ y) (h1 : y < 256) (hl : l.length < 1000000) :
    Calls Tryd.prog 29 #[v, .int .u8 y] w fun e w' => ∃ v1, e = .returned v1 ∧ w'.ownsRow w.heap.size 5 1 v1 (l ++ beB 1 y.toNat).length (bv (l ++ beB 1 y.toNat)) ∧ Below w.heap.size w w' := by
  obtain ⟨A, c, rfl, hc, hn, hr⟩ := hv
  have HT : Tip w w.heap.size 5 (.slice (A.map fun p => (⟨p.1, p.2, none⟩ : Addr)) l.length l.length) l := .inr ⟨A, rfl, fun h => List.eq_nil_of_length_eq_zero (by have := hn h; omega), hr⟩
  have HB := Below.refl w.heap.size w
  have HS := Nat.le_refl w.heap.size
  clear hn hr
  have hsl := fun W => slice_full 22 5 Tryd.underlying22 info_u8 (A.map fun p => (⟨p.1, p.2, none⟩ : Addr)) l.length l.length c hc W
  go_enter Tryd.func29, Tryd.ntmps29
  go_wp2_with (go_at_call 43; refine (width8 _).mono ?_; rintro e w' ⟨rfl, rfl⟩)
  refine wp_loop_rounds 2 ?_
  rw [rounds_succ]
  go_wp2_with (at_builtin; refine tip_append w.heap.size rfl (.tmp 19) (.tmp 26) 22 5 rfl Tryd.underlying22 info_u8 _ l _ (by omega) (by omega) rfl rfl HT HB HS (by omega) ?_; intro v1 w1 hown hB hsz)
  rw [rounds_succ]
  go_wp2
  go_returns
  have e1 : beB 1 y.toNat = [UInt8.ofNat y.toNat] := by simp [beB, Nat.mod_eq_of_lt (show y.toNat < 256 by omega)]
  rw [e1]
  exact ⟨v1, rfl, hown, hB⟩

set_option maxHeartbeats 4000000 in
theorem lay32 (v : Value) (l : List UInt8) (y : Int) (w : World) (hv : RdB w v l) (h0 : 0 ≤ y) (h1 : y < 4294967296) (hl : l.length < 1000000) :
    Calls Tryd.prog 42 #[v, .int .u32 y] w fun e w' => ∃ v1, e = .returned v1 ∧ w'.ownsRow w.heap.size 5 1 v1 (l ++ beB 4 y.toNat).length (bv (l ++ beB 4 y.toNat)) ∧ Below w.heap.size w w' := by
  obtain ⟨A, c, rfl, hc, hn, hr⟩ := hv
  have HT : Tip w w.heap.size 5 (.slice (A.map fun p => (⟨p.1, p.2, none⟩ : Addr)) l.length l.length) l := .inr ⟨A, rfl, fun h => List.eq_nil_of_length_eq_zero (by have := hn h; omega), hr⟩
  have HB := Below.refl w.heap.size w
  have HS := Nat.le_refl w.heap.size
  clear hn hr
  have hsl := fun W => slice_full 22 5 Tryd.underlying22 info_u8 (A.map fun p => (⟨p.1, p.2, none⟩ : Addr)) l.length l.length c hc W
  go_enter Tryd.func42, Tryd.ntmps42
  go_wp2_with (go_at_call 54; refine (width32 _).mono ?_; rintro e w' ⟨rfl, rfl⟩)
  refine wp_loop_rounds 5 ?_
  rw [rounds_succ]
  go_wp2_with (at_builtin; refine tip_append w.heap.size rfl (.tmp 19) (.tmp 26) 22 5 rfl Tryd.underlying22 info_u8 _ _ _ (by omega) (by omega) rfl rfl HT HB HS (by first | omega | (simp; omega)) ?_; clear HT HB; intro v0 w0 hown0 HB hsz; have HT := Tip.owned hown0; clear HS; have HS := HB.size; clear hsz)
  rw [rounds_succ]
  go_wp2_with (at_builtin; refine tip_append w.heap.size rfl (.tmp 19) (.tmp 26) 22 5 rfl Tryd.underlying22 info_u8 _ _ _ (by omega) (by omega) rfl rfl HT HB HS (by first | omega | (simp; omega)) ?_; clear HT HB; intro v1 w1 hown1 HB hsz; have HT := Tip.owned hown1; clear HS; have HS := HB.size; clear hsz)
  rw [rounds_succ]
  go_wp2_with (at_builtin; refine tip_append w.heap.size rfl (.tmp 19) (.tmp 26) 22 5 rfl Tryd.underlying22 info_u8 _ _ _ (by omega) (by omega) rfl rfl HT HB HS (by first | omega | (simp; omega)) ?_; clear HT HB; intro v2 w2 hown2 HB hsz; have HT := Tip.owned hown2; clear HS; have HS := HB.size; clear hsz)
  rw [rounds_succ]
  go_wp2_with (at_builtin; refine tip_append w.heap.size rfl (.tmp 19) (.tmp 26) 22 5 rfl Tryd.underlying22 info_u8 _ _ _ (by omega) (by omega) rfl rfl HT HB HS (by first | omega | (simp; omega)) ?_; clear HT HB; intro v3 w3 hown3 HB hsz; have HT := Tip.owned hown3; clear HS; have HS := HB.size; clear hsz)
  rw [rounds_succ]
  go_wp2
  go_returns
  refine ⟨_, rfl, ?_, HB⟩
  have e1 : l ++ beB 4 y.toNat = (((l ++ [UInt8.ofNat (y / 16777216).toNat]) ++ [UInt8.ofNat ((y / 65536) % 256).toNat]) ++ [UInt8.ofNat ((y / 256) % 256).toNat]) ++ [UInt8.ofNat (y % 256).toNat] := by
    simp only [beB, List.nil_append, List.append_assoc, List.cons_append, List.append_cancel_left_eq, List.cons.injEq, and_true]
    refine ⟨?_, ?_, ?_, ?_⟩ <;> congr 1 <;> omega
  rw [e1]
  exact hown3

end Go.Proofs.YtbnnemiiodhjbaaDoor
