/- fixed's reader: a number of 8 bytes. -/
import Derived.Test.YtbnnemiiodhjbaaDoorP5
import Derived.Test.YtbnnemiiodhjbaaDoorA64
namespace Go.Proofs.YtbnnemiiodhjbaaDoor
open Go.RowKit
set_option linter.unusedVariables false
set_option linter.unusedSimpArgs false

/-- The number of the first bytes. -/
def be8 (q : ByteArray) : Int := (((((((q.data.toList.getD 0 0).toNat * 256 + (q.data.toList.getD 1 0).toNat) * 256 + (q.data.toList.getD 2 0).toNat) * 256 + (q.data.toList.getD 3 0).toNat) * 256 + (q.data.toList.getD 4 0).toNat) * 256 + (q.data.toList.getD 5 0).toNat) * 256 + (q.data.toList.getD 6 0).toNat) * 256 + (q.data.toList.getD 7 0).toNat
theorem be8_bounds (q : ByteArray) : 0 ≤ be8 q ∧ be8 q < 18446744073709551616 := by
  unfold be8
  have g0 := (q.data.toList.getD 0 0).toNat_lt
  have g1 := (q.data.toList.getD 1 0).toNat_lt
  have g2 := (q.data.toList.getD 2 0).toNat_lt
  have g3 := (q.data.toList.getD 3 0).toNat_lt
  have g4 := (q.data.toList.getD 4 0).toNat_lt
  have g5 := (q.data.toList.getD 5 0).toNat_lt
  have g6 := (q.data.toList.getD 6 0).toNat_lt
  have g7 := (q.data.toList.getD 7 0).toNat_lt
  omega
set_option maxRecDepth 100000 in
set_option maxHeartbeats 2000000 in
theorem take64_no (p : Nat) (q : ByteArray) (t : Int) (w : World) (hr : RdR w p q t) (h : q.size < 8) : Calls Tryd.prog 32 #[.pointer (some ⟨p, 0, none⟩)] w fun e w' => e = .returned (.tuple #[.int .u64 0, FV w.heap.size]) ∧ w' = w.alloc (.cells #[.int .i64 3, .int .i64 t] 35) := by
  go_enter Tryd.func32, Tryd.ntmps32
  go_wp2_with (first | (go_at_call 45; refine (width64 _).mono ?_; rintro e w' ⟨rfl, rfl⟩) | (go_at_call 34; refine (ahead_no p q t 8 _ hr h).mono ?_; rintro e w' ⟨rfl, rfl⟩; dsimp only [FV]))
  go_ret2
  exact ⟨rfl, rfl⟩
theorem or64_first (b : UInt8) : bits .or .u64 0 (b.toNat : Int) = b.toNat := by
  have hb := b.toNat_lt
  rw [u64_or8 0 _ (by omega) (by omega) (by omega) (by omega) (by omega)]
  omega
theorem or64_step (x : Int) (h0 : 0 ≤ x) (h1 : x < 72057594037927936) (b : UInt8) : bits .or .u64 (IntKind.u64.wrap (x * 256)) (b.toNat : Int) = x * 256 + b.toNat := by
  have hb := b.toNat_lt
  have h2 : (x * 256) % 18446744073709551616 = x * 256 := by omega
  rw [IntKind.wrap_u64, h2, u64_or8 (x * 256) _ (by omega) (by omega) (by omega) (by omega) (by omega)]
set_option maxRecDepth 100000 in
set_option maxHeartbeats 8000000 in
theorem take64_is (p : Nat) (q : ByteArray) (t : Int) (w : World) (hr : RdR w p q t) (h : 8 ≤ q.size) (hp : p < w.heap.size) (ht : 0 ≤ t ∧ t + 8 < 9223372036854775808) : Calls Tryd.prog 32 #[.pointer (some ⟨p, 0, none⟩)] w fun e w' => e = .returned (.tuple #[.int .u64 (be8 q), .nilIface]) ∧ RdR w' p (dropB q 8) (t + 8) ∧ w.grownBy w' (some p) := by
  have hsz := takeB_size q 8 h
  obtain ⟨s, hs⟩ : ∃ s, s = takeB q 8 := ⟨_, rfl⟩
  rw [← hs] at hsz
  have hcv := Lib.run_convert_string_bytes (P := Tryd.prog) w 9 22 5 s Tryd.underlying9 Tryd.underlying22 Tryd.underlying5
  have hB : Below w.heap.size w (Lib.bytesWorld w 5 s) := bytesWorld_below w 5 s
  obtain ⟨W, hW⟩ : ∃ W, W = Lib.bytesWorld w 5 s := ⟨_, rfl⟩
  obtain ⟨b0, b1, b2, b3, b4, b5, b6, b7, hl⟩ : ∃ b0 b1 b2 b3 b4 b5 b6 b7 : UInt8, s.data.toList = [b0, b1, b2, b3, b4, b5, b6, b7] := by
    have hl : s.data.toList.length = 8 := by rw [Array.length_toList]; exact hsz
    match s.data.toList, hl with
    | [b0, b1, b2, b3, b4, b5, b6, b7], _ => exact ⟨b0, b1, b2, b3, b4, b5, b6, b7, rfl⟩
  have k0 : W.cell? ⟨w.heap.size, 0, none⟩ = some (.int .u8 b0.toNat) := by rw [hW, Lib.bytesWorld_cell w 5 s 0 (by omega), hl]; rfl
  have k1 : W.cell? ⟨w.heap.size, 1, none⟩ = some (.int .u8 b1.toNat) := by rw [hW, Lib.bytesWorld_cell w 5 s 1 (by omega), hl]; rfl
  have k2 : W.cell? ⟨w.heap.size, 2, none⟩ = some (.int .u8 b2.toNat) := by rw [hW, Lib.bytesWorld_cell w 5 s 2 (by omega), hl]; rfl
  have k3 : W.cell? ⟨w.heap.size, 3, none⟩ = some (.int .u8 b3.toNat) := by rw [hW, Lib.bytesWorld_cell w 5 s 3 (by omega), hl]; rfl
  have k4 : W.cell? ⟨w.heap.size, 4, none⟩ = some (.int .u8 b4.toNat) := by rw [hW, Lib.bytesWorld_cell w 5 s 4 (by omega), hl]; rfl
  have k5 : W.cell? ⟨w.heap.size, 5, none⟩ = some (.int .u8 b5.toNat) := by rw [hW, Lib.bytesWorld_cell w 5 s 5 (by omega), hl]; rfl
  have k6 : W.cell? ⟨w.heap.size, 6, none⟩ = some (.int .u8 b6.toNat) := by rw [hW, Lib.bytesWorld_cell w 5 s 6 (by omega), hl]; rfl
  have k7 : W.cell? ⟨w.heap.size, 7, none⟩ = some (.int .u8 b7.toNat) := by rw [hW, Lib.bytesWorld_cell w 5 s 7 (by omega), hl]; rfl
  rw [← hW] at hcv hB
  clear hW
  rw [hsz] at hcv
  subst hs
  have g0 := b0.toNat_lt
  have g1 := b1.toNat_lt
  have g2 := b2.toNat_lt
  have g3 := b3.toNat_lt
  have g4 := b4.toNat_lt
  have g5 := b5.toNat_lt
  have g6 := b6.toNat_lt
  have g7 := b7.toNat_lt
  obtain ⟨z1, hz1⟩ : ∃ z : Int, (b0.toNat : Int) = z := ⟨_, rfl⟩
  have f1 : bits .or .u64 0 (b0.toNat : Int) = z1 := by rw [← hz1]; exact or64_first b0
  obtain ⟨z2, hz2⟩ : ∃ z : Int, z1 * 256 + b1.toNat = z := ⟨_, rfl⟩
  have f2 : bits .or .u64 (IntKind.u64.wrap (z1 * 256)) (b1.toNat : Int) = z2 := by rw [← hz2]; exact or64_step z1 (by omega) (by omega) b1
  obtain ⟨z3, hz3⟩ : ∃ z : Int, z2 * 256 + b2.toNat = z := ⟨_, rfl⟩
  have f3 : bits .or .u64 (IntKind.u64.wrap (z2 * 256)) (b2.toNat : Int) = z3 := by rw [← hz3]; exact or64_step z2 (by omega) (by omega) b2
  obtain ⟨z4, hz4⟩ : ∃ z : Int, z3 * 256 + b3.toNat = z := ⟨_, rfl⟩
  have f4 : bits .or .u64 (IntKind.u64.wrap (z3 * 256)) (b3.toNat : Int) = z4 := by rw [← hz4]; exact or64_step z3 (by omega) (by omega) b3
  obtain ⟨z5, hz5⟩ : ∃ z : Int, z4 * 256 + b4.toNat = z := ⟨_, rfl⟩
  have f5 : bits .or .u64 (IntKind.u64.wrap (z4 * 256)) (b4.toNat : Int) = z5 := by rw [← hz5]; exact or64_step z4 (by omega) (by omega) b4
  obtain ⟨z6, hz6⟩ : ∃ z : Int, z5 * 256 + b5.toNat = z := ⟨_, rfl⟩
  have f6 : bits .or .u64 (IntKind.u64.wrap (z5 * 256)) (b5.toNat : Int) = z6 := by rw [← hz6]; exact or64_step z5 (by omega) (by omega) b5
  obtain ⟨z7, hz7⟩ : ∃ z : Int, z6 * 256 + b6.toNat = z := ⟨_, rfl⟩
  have f7 : bits .or .u64 (IntKind.u64.wrap (z6 * 256)) (b6.toNat : Int) = z7 := by rw [← hz7]; exact or64_step z6 (by omega) (by omega) b6
  obtain ⟨z8, hz8⟩ : ∃ z : Int, z7 * 256 + b7.toNat = z := ⟨_, rfl⟩
  have f8 : bits .or .u64 (IntKind.u64.wrap (z7 * 256)) (b7.toNat : Int) = z8 := by rw [← hz8]; exact or64_step z7 (by omega) (by omega) b7
  have r1 : 0 ≤ z1 ∧ z1 < 256 := by omega
  have r2 : 0 ≤ z2 ∧ z2 < 65536 := by omega
  have r3 : 0 ≤ z3 ∧ z3 < 16777216 := by omega
  have r4 : 0 ≤ z4 ∧ z4 < 4294967296 := by omega
  have r5 : 0 ≤ z5 ∧ z5 < 1099511627776 := by omega
  have r6 : 0 ≤ z6 ∧ z6 < 281474976710656 := by omega
  have r7 : 0 ≤ z7 ∧ z7 < 72057594037927936 := by omega
  have r8 : 0 ≤ z8 ∧ z8 < 18446744073709551616 := by omega
  have hbe : be8 q = z8 := by
    have hq : q.data.toList = b0 :: b1 :: b2 :: b3 :: b4 :: b5 :: b6 :: b7 :: q.data.toList.drop 8 := by
      conv => lhs; rw [← List.take_append_drop 8 q.data.toList]
      rw [takeB_list] at hl
      rw [hl]
      rfl
    unfold be8
    rw [hq]
    show (((((((((b0.toNat : Int) * 256 + b1.toNat) * 256 + b2.toNat) * 256 + b3.toNat) * 256 + b4.toNat) * 256 + b5.toNat) * 256 + b6.toNat) * 256 + b7.toNat : Int)) = z8
    rw [hz1, hz2, hz3, hz4, hz5, hz6, hz7, hz8]
  have HBE := Lib.hid hbe
  clear hbe hz1 hz2 hz3 hz4 hz5 hz6 hz7 hz8
  have F1 := Lib.hid f1
  clear f1 r1
  have F2 := Lib.hid f2
  clear f2 r2
  have F3 := Lib.hid f3
  clear f3 r3
  have F4 := Lib.hid f4
  clear f4 r4
  have F5 := Lib.hid f5
  clear f5 r5
  have F6 := Lib.hid f6
  clear f6 r6
  have F7 := Lib.hid f7
  clear f7 r7
  have F8 := Lib.hid f8
  clear f8 r8
  go_enter Tryd.func32, Tryd.ntmps32
  go_wp2_with (first | (go_at_call 45; refine (width64 _).mono ?_; rintro e w' ⟨rfl, rfl⟩) | (go_at_call 34; refine (ahead_is p q t 8 _ hr h).mono ?_; rintro e w' ⟨rfl, rfl⟩))
  refine wp_loop_rounds 9 ?_
  rw [rounds_succ]
  go_wp2
  rw [rounds_succ]
  go_wp2
  rw [rounds_succ]
  go_wp2
  rw [rounds_succ]
  go_wp2
  rw [rounds_succ]
  go_wp2
  rw [rounds_succ]
  go_wp2
  rw [rounds_succ]
  go_wp2
  rw [rounds_succ]
  go_wp2
  rw [rounds_succ]
  go_wp2_with fail
  refine (skip_any p q t 8 _ (hr.keep hB) h ht).mono ?_
  rintro e w2 ⟨rfl, hr2, hB2, _⟩
  go_wp2_with fail
  go_ret2
  refine ⟨?_, hr2, grown_trans (grown_below hB _) hB2⟩
  rw [HBE.out]
  show Ending.returned (.tuple #[.int .u64 (bits .or .u64 (IntKind.u64.wrap ((bits .or .u64 (IntKind.u64.wrap ((bits .or .u64 (IntKind.u64.wrap ((bits .or .u64 (IntKind.u64.wrap ((bits .or .u64 (IntKind.u64.wrap ((bits .or .u64 (IntKind.u64.wrap ((bits .or .u64 (IntKind.u64.wrap ((bits .or .u64 0 (b0.toNat : Int)) * 256)) (b1.toNat : Int)) * 256)) (b2.toNat : Int)) * 256)) (b3.toNat : Int)) * 256)) (b4.toNat : Int)) * 256)) (b5.toNat : Int)) * 256)) (b6.toNat : Int)) * 256)) (b7.toNat : Int)), .nilIface]) = _
  rw [F1.out, F2.out, F3.out, F4.out, F5.out, F6.out, F7.out, F8.out]
theorem U64_no (p : Nat) (q : ByteArray) (t : Int) (w : World) (hr : RdR w p q t) (h : q.size < 8) : Calls Tryd.prog 14 #[.pointer (some ⟨p, 0, none⟩)] w fun e w' => e = .returned (.tuple #[.int .u64 0, FV w.heap.size]) ∧ w' = w.alloc (.cells #[.int .i64 3, .int .i64 t] 35) := by
  go_enter Tryd.func14, Tryd.ntmps14
  go_wp2_with (go_at_call 32; refine (take64_no p q t _ hr h).mono ?_; rintro e w' ⟨rfl, rfl⟩)
  go_ret2
  exact ⟨rfl, rfl⟩
theorem U64_is (p : Nat) (q : ByteArray) (t : Int) (w : World) (hr : RdR w p q t) (h : 8 ≤ q.size) (hp : p < w.heap.size) (ht : 0 ≤ t ∧ t + 8 < 9223372036854775808) : Calls Tryd.prog 14 #[.pointer (some ⟨p, 0, none⟩)] w fun e w' => e = .returned (.tuple #[.int .u64 (be8 q), .nilIface]) ∧ RdR w' p (dropB q 8) (t + 8) ∧ w.grownBy w' (some p) := by
  go_enter Tryd.func14, Tryd.ntmps14
  go_wp2_with (go_at_call 32; refine (take64_is p q t _ hr h hp ht).mono ?_; rintro e w' ⟨rfl, hr2, hB⟩)
  go_ret2
  exact ⟨rfl, hr2, hB⟩
end Go.Proofs.YtbnnemiiodhjbaaDoor
