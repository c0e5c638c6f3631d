/- The library's bit functions; a map in memory; its small methods. -/
import Derived.Test.YtdaeibbjoefofaaDoorFm1
import Derived.Test.YtdaeibbjoefofaaDoorWd
import Derived.Shelf.Spec.TrailingZeros
namespace Go.Proofs.YtdaeibbjoefofaaDoor
open Go.RowKit
set_option linter.unusedVariables false
set_option linter.unusedSimpArgs false

theorem and_u64 (a b : Nat) (ha : a < 18446744073709551616) (hb : b < 18446744073709551616) : bits .and .u64 (a : Int) (b : Int) = ((a &&& b : Nat) : Int) := bits_and_u64_nat a b ha hb
theorem wrap_i64_small (n : Int) (h0 : 0 ≤ n) (h1 : n < 9223372036854775808) : IntKind.i64.wrap n = n := by rw [IntKind.wrap_i64]; omega
theorem wrap_u64_small (n : Int) (h0 : 0 ≤ n) (h1 : n < 18446744073709551616) : IntKind.u64.wrap n = n := by rw [IntKind.wrap_u64]; omega
/-- How many bits of sixty-four are set; how many below the lowest one are not. -/
theorem p64_ex : ∃ f : Nat → Nat, ∀ x, f x = Lib.popAux 64 x := ⟨_, fun _ => rfl⟩
noncomputable def pop64 : Nat → Nat := Classical.choose p64_ex
theorem pop64_eq (x : Nat) : pop64 x = Lib.popAux 64 x := Classical.choose_spec p64_ex x
theorem z64_ex : ∃ f : Nat → Nat, ∀ x, f x = Lib.ctz 64 x := ⟨_, fun _ => rfl⟩
noncomputable def ctz64 : Nat → Nat := Classical.choose z64_ex
theorem ctz64_eq (x : Nat) : ctz64 x = Lib.ctz 64 x := Classical.choose_spec z64_ex x
set_option maxRecDepth 100000 in
set_option maxHeartbeats 4000000 in
theorem ones_any (x : Nat) (hx : x < 18446744073709551616) (w : World) : Calls Tryd.prog 31 #[.int .u64 x] w fun e w' => e = .returned (.int .i64 (pop64 x : Nat)) ∧ w = w' := by
  obtain ⟨x1, h1⟩ : ∃ n, n = ((x / 2) &&& 6148914691236517205) + (x &&& 6148914691236517205) := ⟨_, rfl⟩
  obtain ⟨x2, h2⟩ : ∃ n, n = ((x1 / 4) &&& 3689348814741910323) + (x1 &&& 3689348814741910323) := ⟨_, rfl⟩
  obtain ⟨x3, h3⟩ : ∃ n, n = (x2 / 16 + x2) &&& 1085102592571150095 := ⟨_, rfl⟩
  obtain ⟨x4, h4⟩ : ∃ n, n = x3 + x3 / 256 := ⟨_, rfl⟩
  obtain ⟨x5, h5⟩ : ∃ n, n = x4 + x4 / 65536 := ⟨_, rfl⟩
  obtain ⟨x6, h6⟩ : ∃ n, n = x5 + x5 / 4294967296 := ⟨_, rfl⟩
  obtain ⟨l1, l2, l23, l3, l4, l5, l6, hp, hq⟩ := ones_eq x hx x1 x2 x3 x4 x5 x6 h1 h2 h3 h4 h5 h6
  have a1 : bits .and .u64 ((x : Int) / 2) 6148914691236517205 = (((x / 2) &&& 6148914691236517205 : Nat) : Int) := and_u64 (x / 2) 6148914691236517205 (by omega) (by omega)
  have a2 : bits .and .u64 (x : Int) 6148914691236517205 = ((x &&& 6148914691236517205 : Nat) : Int) := and_u64 x 6148914691236517205 (by omega) (by omega)
  have e1 : IntKind.u64.wrap (bits .and .u64 ((x : Int) / 2) 6148914691236517205 + bits .and .u64 (x : Int) 6148914691236517205) = (x1 : Int) := by rw [a1, a2, wrap_u64_small _ (by omega) (by omega)]; omega
  have a3 : bits .and .u64 ((x1 : Int) / 4) 3689348814741910323 = (((x1 / 4) &&& 3689348814741910323 : Nat) : Int) := and_u64 (x1 / 4) 3689348814741910323 (by omega) (by omega)
  have a4 : bits .and .u64 (x1 : Int) 3689348814741910323 = ((x1 &&& 3689348814741910323 : Nat) : Int) := and_u64 x1 3689348814741910323 (by omega) (by omega)
  have e2 : IntKind.u64.wrap (bits .and .u64 ((x1 : Int) / 4) 3689348814741910323 + bits .and .u64 (x1 : Int) 3689348814741910323) = (x2 : Int) := by rw [a3, a4, wrap_u64_small _ (by omega) (by omega)]; omega
  have e3 : bits .and .u64 ((x2 : Int) / 16 + (x2 : Int)) 1085102592571150095 = (x3 : Int) := by
    rw [show (x2 : Int) / 16 + (x2 : Int) = ((x2 / 16 + x2 : Nat) : Int) by omega]
    exact (and_u64 (x2 / 16 + x2) 1085102592571150095 (by omega) (by omega)).trans (by rw [h3])
  have e4 : IntKind.u64.wrap ((x3 : Int) + (x3 : Int) / 256) = (x4 : Int) := by rw [wrap_u64_small _ (by omega) (by omega)]; omega
  have e5 : IntKind.u64.wrap ((x4 : Int) + (x4 : Int) / 65536) = (x5 : Int) := by rw [wrap_u64_small _ (by omega) (by omega)]; omega
  have e6 : IntKind.u64.wrap ((x5 : Int) + (x5 : Int) / 4294967296) = (x6 : Int) := by rw [wrap_u64_small _ (by omega) (by omega)]; omega
  have e7 : bits .and .i64 (x6 : Int) 127 = (pop64 x : Int) := by
    rw [pop64_eq]
    have := bits_mask .i64 63 (by decide) (fun n h0 h1 => wrap_i64_small n h0 (by have e : (2 : Int) ^ 63 = 9223372036854775808 := by decide
                                                                                  omega)) 7 (by decide) (x6 : Int) (by omega) (by have e : (2 : Int) ^ 63 = 9223372036854775808 := by decide
                                                                                                                                  omega)
    rw [show (2 : Int) ^ 7 - 1 = 127 by decide] at this
    rw [this, show (2 : Int) ^ 7 = 128 by decide]
    omega
  have l6' : (x6 : Int) < 9223372036854775808 := by omega
  clear h1 h2 h3 h4 h5 h6 a1 a2 a3 a4 hp
  go_enter Tryd.func31, Tryd.ntmps31
  go_wp2_with fail
  go_ret
  exact ⟨by rw [← e7]; rfl, rfl⟩
/-- The library's table, in its variable. -/
def TabD (w : World) : Prop := TabAt 0 Lib.deBruijn64tab w
theorem TabD.lt {w : World} (h : TabD w) : 0 < w.heap.size := World.block_lt_of_cell? _ _ (h 0 (by decide))
theorem TabD.block {w w' : World} (h : TabD w) (e : w'.heap[0]? = w.heap[0]?) : TabD w' := fun j hj => (World.cell?_of_block e).trans (h j hj)
theorem TabD.below {w w' : World} (h : TabD w) (hb : Below w.heap.size w w') : TabD w' := h.block (hb.block _ h.lt)
set_option maxHeartbeats 1000000 in
theorem tz_core (x k idx : Nat) (w : World) (hx0 : ((x : Int) == 0) = false)
    (key : IntKind.u64.wrap (bits BinOp.and IntKind.u64 (x : Int) (IntKind.u64.wrap (-(x : Int))) * 285870213051353865) / 288230376151711744 = (idx : Int))
    (hi : idx < 64) (hk : k < 64) (hcell : w.cell? ⟨0, idx, none⟩ = some (.int .u8 k)) :
    Calls Tryd.prog 30 #[.int .u64 x] w fun e w' => e = .returned (.int .i64 k) ∧ w = w' := by
  go_enter Tryd.func30, Tryd.ntmps30
  go_wp2_with (simp only [key])
  go_ret
  exact ⟨rfl, rfl⟩
theorem tz_zero (w : World) : Calls Tryd.prog 30 #[.int .u64 0] w fun e w' => e = .returned (.int .i64 64) ∧ w = w' := by
  go_enter Tryd.func30, Tryd.ntmps30
  go_wp2
  go_ret
  exact ⟨rfl, rfl⟩
theorem tz_any (x : Nat) (hx : x < 18446744073709551616) (w : World) (hT : TabD w) : Calls Tryd.prog 30 #[.int .u64 x] w fun e w' => e = .returned (.int .i64 (ctz64 x : Nat)) ∧ w = w' := by
  rw [ctz64_eq]
  by_cases hx0 : x = 0
  · subst hx0
    exact tz_zero w
  · obtain ⟨hlow, hk⟩ := Lib.lowest_bit 64 x hx0 hx
    obtain ⟨hi, htab⟩ := Lib.deBruijn64_at _ hk
    have hcell := hT _ hi
    rw [htab] at hcell
    exact tz_core x _ _ w (by simp; omega) (tz64_key x _ hx hx0 hlow) hi hk hcell

def sizeB (n : Int) : Bool := decide (1 ≤ n) && decide (n ≤ 1024)
theorem size_any (n : Int) (w : World) : Calls Tryd.prog 28 #[.int .i64 n] w fun e w' => e = .returned (.bool (sizeB n)) ∧ w = w' := by
  go_enter Tryd.func28, Tryd.ntmps28
  by_cases h1 : 1 ≤ n
  all_goals
    go_wp2_with fail
    go_ret
    exact ⟨by unfold sizeB; first | (simp [h1]; done) | (simp; omega), rfl⟩

/-- The j-th word of a map. -/
theorem wT_ex : ∃ f : (Nat → Bool) → Nat → Nat, ∀ T j, f T j = mkW (fun i => T (64 * j + i)) 64 := ⟨_, fun _ _ => rfl⟩
noncomputable def wT : (Nat → Bool) → Nat → Nat := Classical.choose wT_ex
theorem wT_eq (T : Nat → Bool) (j : Nat) : wT T j = mkW (fun i => T (64 * j + i)) 64 := Classical.choose_spec wT_ex T j
theorem wT_lt (T : Nat → Bool) (j : Nat) : wT T j < 18446744073709551616 := by rw [wT_eq]; exact mkW_lt 64 _
/-- Block b holds a map: n things, of which those are used. -/
structure MapAt (w : World) (b : Nat) (T : Nat → Bool) (n : Nat) : Prop where
  wd : ∀ j, j < 16 → w.cell? ⟨b, j, none⟩ = some (.int .u64 (wT T j : Nat))
  len : w.cell? ⟨b, 16, none⟩ = some (.int .i64 n)
  fz : ∀ j, j < 17 → w.frozen? ⟨b, j, none⟩ = false
/-- How a map may be. -/
structure FMOk (T : Nat → Bool) (n : Nat) : Prop where
  lo : 1 ≤ n
  hi : n ≤ 1024
  out : ∀ i, n ≤ i → T i = false
theorem MapAt.lt {w : World} {b n : Nat} {T : Nat → Bool} (h : MapAt w b T n) : b < w.heap.size := World.block_lt_of_cell? _ _ h.len
theorem MapAt.block {w w' : World} {b n : Nat} {T : Nat → Bool} (h : MapAt w b T n) (e : w'.heap[b]? = w.heap[b]?) : MapAt w' b T n :=
  ⟨fun j hj => (World.cell?_of_block e).trans (h.wd j hj), (World.cell?_of_block e).trans h.len, fun j hj => (World.frozen?_of_block e).trans (h.fz j hj)⟩
theorem MapAt.below {w w' : World} {b n : Nat} {T : Nat → Bool} (h : MapAt w b T n) (hb : Below w.heap.size w w') : MapAt w' b T n := h.block (hb.block b h.lt)
theorem wT_none (j : Nat) : wT (fun _ => false) j = 0 := by
  apply Nat.eq_of_testBit_eq
  intro i
  rw [wT_eq, mkW_test]
  simp
noncomputable def mapC (T : Nat → Bool) (n : Nat) : Array Value := #[.int .u64 (wT T 0 : Nat), .int .u64 (wT T 1 : Nat), .int .u64 (wT T 2 : Nat), .int .u64 (wT T 3 : Nat), .int .u64 (wT T 4 : Nat), .int .u64 (wT T 5 : Nat), .int .u64 (wT T 6 : Nat), .int .u64 (wT T 7 : Nat), .int .u64 (wT T 8 : Nat), .int .u64 (wT T 9 : Nat), .int .u64 (wT T 10 : Nat), .int .u64 (wT T 11 : Nat), .int .u64 (wT T 12 : Nat), .int .u64 (wT T 13 : Nat), .int .u64 (wT T 14 : Nat), .int .u64 (wT T 15 : Nat), .int .i64 n]
theorem mapC_at {T : Nat → Bool} {n : Nat} : ∀ j, j < 16 → (mapC T n)[j]? = some (.int .u64 (wT T j : Nat)) := by
  intro j hj
  match j, hj with
  | 0, _ => rfl | 1, _ => rfl | 2, _ => rfl | 3, _ => rfl | 4, _ => rfl | 5, _ => rfl | 6, _ => rfl | 7, _ => rfl
  | 8, _ => rfl | 9, _ => rfl | 10, _ => rfl | 11, _ => rfl | 12, _ => rfl | 13, _ => rfl | 14, _ => rfl | 15, _ => rfl
  | j + 16, h => omega
theorem MapAt.new {w : World} {b n : Nat} {T : Nat → Bool} {t : TypeId} (h : w.heap[b]? = some (.cells (mapC T n) t (0, 0))) : MapAt w b T n :=
  ⟨fun j hj => (cell_of_row _ _ j _ _ _ h).trans (mapC_at j hj), cell_of_row _ _ 16 _ _ _ h, fun j hj => by simp [World.frozen?, h]⟩
theorem new_yes (n : Nat) (w : World) (h1 : 1 ≤ n) (h2 : n ≤ 1024) : Calls Tryd.prog 9 #[.int .i64 n] w fun e w' => e = .returned (.pointer (some ⟨w.heap.size, 0, none⟩)) ∧ w' = w.alloc (.cells (mapC (fun _ => false) n) 58) := by
  have e0 : sizeB (n : Int) = true := by unfold sizeB; simp; omega
  have E0 := Lib.hid e0
  clear e0
  go_enter Tryd.func9, Tryd.ntmps9
  go_wp2_with (go_at_call 28; refine (size_any _ _).mono ?_; rintro e w' ⟨rfl, rfl⟩; rw [E0.out])
  go_ret
  exact ⟨rfl, by unfold mapC; simp only [wT_none]; rfl⟩
theorem new_no (n : Int) (w : World) (h : sizeB n = false) : Calls Tryd.prog 9 #[.int .i64 n] w fun e w' => e = .returned (.pointer none) ∧ w = w' := by
  have E0 := Lib.hid h
  clear h
  go_enter Tryd.func9, Tryd.ntmps9
  go_wp2_with (go_at_call 28; refine (size_any _ _).mono ?_; rintro e w' ⟨rfl, rfl⟩; rw [E0.out])
  go_ret
  exact ⟨rfl, rfl⟩
theorem len_any (b n : Nat) (T : Nat → Bool) (w : World) (h : MapAt w b T n) : Calls Tryd.prog 27 #[.pointer (some ⟨b, 0, none⟩)] w fun e w' => e = .returned (.int .i64 n) ∧ w = w' := by
  have c := h.len
  go_enter Tryd.func27, Tryd.ntmps27
  go_wp2_with fail
  go_ret
  exact ⟨rfl, rfl⟩
theorem len_nil (w : World) : Calls Tryd.prog 27 #[.pointer none] w fun e w' => e = .returned (.int .i64 0) ∧ w = w' := by
  go_enter Tryd.func27, Tryd.ntmps27
  go_wp2_with fail
  go_ret
  exact ⟨rfl, rfl⟩

end Go.Proofs.YtdaeibbjoefofaaDoor
