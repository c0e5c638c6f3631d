/- fixed's reader: a number of 2 bytes. -/
import Derived.Test.YtbnnemiiodhjbaaDoorP5
import Derived.Test.YtbnnemiiodhjbaaDoorA16
namespace Go.Proofs.YtbnnemiiodhjbaaDoor
open Go.RowKit
set_option linter.unusedVariables false
set_option linter.unusedSimpArgs false

/-- The number of the first bytes. -/
def be2 (q : ByteArray) : Int := (q.data.toList.getD 0 0).toNat * 256 + (q.data.toList.getD 1 0).toNat
theorem be2_bounds (q : ByteArray) : 0 ≤ be2 q ∧ be2 q < 65536 := by
  unfold be2
  have g0 := (q.data.toList.getD 0 0).toNat_lt
  have g1 := (q.data.toList.getD 1 0).toNat_lt
  omega
set_option maxRecDepth 100000 in
set_option maxHeartbeats 2000000 in
theorem take16_no (p : Nat) (q : ByteArray) (t : Int) (w : World) (hr : RdR w p q t) (h : q.size < 2) : Calls Tryd.prog 44 #[.pointer (some ⟨p, 0, none⟩)] w fun e w' => e = .returned (.tuple #[.int .u16 0, FV w.heap.size]) ∧ w' = w.alloc (.cells #[.int .i64 3, .int .i64 t] 35) := by
  go_enter Tryd.func44, Tryd.ntmps44
  go_wp2_with (first | (go_at_call 53; refine (width16 _).mono ?_; rintro e w' ⟨rfl, rfl⟩) | (go_at_call 34; refine (ahead_no p q t 2 _ hr h).mono ?_; rintro e w' ⟨rfl, rfl⟩; dsimp only [FV]))
  go_ret2
  exact ⟨rfl, rfl⟩
theorem or16_first (b : UInt8) : IntKind.u16.wrap (bits .or .u64 0 (IntKind.u64.wrap (b.toNat : Int))) = b.toNat := by
  rw [IntKind.wrap_u16]
  have hb := b.toNat_lt
  have h2 : (b.toNat : Int) % 18446744073709551616 = b.toNat := by omega
  rw [IntKind.wrap_u64, h2, u64_or8 0 _ (by omega) (by omega) (by omega) (by omega) (by omega)]
  omega
theorem or16_step (x : Int) (h0 : 0 ≤ x) (h1 : x < 256) (b : UInt8) : IntKind.u16.wrap (bits .or .u64 (x * 256) (IntKind.u64.wrap (b.toNat : Int))) = x * 256 + b.toNat := by
  rw [IntKind.wrap_u16]
  have hb := b.toNat_lt
  have h2 : (b.toNat : Int) % 18446744073709551616 = b.toNat := by omega
  rw [IntKind.wrap_u64, h2, u64_or8 (x * 256) _ (by omega) (by omega) (by omega) (by omega) (by omega)]
  omega
set_option maxRecDepth 100000 in
set_option maxHeartbeats 8000000 in
theorem take16_is (p : Nat) (q : ByteArray) (t : Int) (w : World) (hr : RdR w p q t) (h : 2 ≤ q.size) (hp : p < w.heap.size) (ht : 0 ≤ t ∧ t + 2 < 9223372036854775808) : Calls Tryd.prog 44 #[.pointer (some ⟨p, 0, none⟩)] w fun e w' => e = .returned (.tuple #[.int .u16 (be2 q), .nilIface]) ∧ RdR w' p (dropB q 2) (t + 2) ∧ w.grownBy w' (some p) := by
  have hsz := takeB_size q 2 h
  obtain ⟨s, hs⟩ : ∃ s, s = takeB q 2 := ⟨_, rfl⟩
  rw [← hs] at hsz
  have hcv := Lib.run_convert_string_bytes (P := Tryd.prog) w 9 22 5 s Tryd.underlying9 Tryd.underlying22 Tryd.underlying5
  have hB : Below w.heap.size w (Lib.bytesWorld w 5 s) := bytesWorld_below w 5 s
  obtain ⟨W, hW⟩ : ∃ W, W = Lib.bytesWorld w 5 s := ⟨_, rfl⟩
  obtain ⟨b0, b1, hl⟩ : ∃ b0 b1 : UInt8, s.data.toList = [b0, b1] := by
    have hl : s.data.toList.length = 2 := by rw [Array.length_toList]; exact hsz
    match s.data.toList, hl with
    | [b0, b1], _ => exact ⟨b0, b1, rfl⟩
  have k0 : W.cell? ⟨w.heap.size, 0, none⟩ = some (.int .u8 b0.toNat) := by rw [hW, Lib.bytesWorld_cell w 5 s 0 (by omega), hl]; rfl
  have k1 : W.cell? ⟨w.heap.size, 1, none⟩ = some (.int .u8 b1.toNat) := by rw [hW, Lib.bytesWorld_cell w 5 s 1 (by omega), hl]; rfl
  rw [← hW] at hcv hB
  clear hW
  rw [hsz] at hcv
  subst hs
  go_enter Tryd.func44, Tryd.ntmps44
  go_wp2_with (first | (go_at_call 53; refine (width16 _).mono ?_; rintro e w' ⟨rfl, rfl⟩) | (go_at_call 34; refine (ahead_is p q t 2 _ hr h).mono ?_; rintro e w' ⟨rfl, rfl⟩))
  refine wp_loop_rounds 3 ?_
  rw [rounds_succ]
  go_wp2
  rw [rounds_succ]
  go_wp2
  rw [rounds_succ]
  go_wp2_with fail
  refine (skip_any p q t 2 _ (hr.keep hB) h ht).mono ?_
  rintro e w2 ⟨rfl, hr2, hB2, _⟩
  go_wp2_with fail
  go_ret2
  refine ⟨?_, hr2, grown_trans (grown_below hB _) hB2⟩
  have g0 := b0.toNat_lt
  have g1 := b1.toNat_lt
  show Ending.returned (.tuple #[.int .u16 (IntKind.u16.wrap (bits .or .u64 (IntKind.u64.wrap (IntKind.u64.wrap (IntKind.u16.wrap (bits .or .u64 0 (IntKind.u64.wrap (b0.toNat : Int)))) * 256)) (IntKind.u64.wrap (b1.toNat : Int)))), .nilIface]) = _
  rw [or16_first b0, IntKind.wrap_u64 (b0.toNat : Int), Int.emod_eq_of_lt (by omega) (by omega), IntKind.wrap_u64 ((b0.toNat : Int) * 256), Int.emod_eq_of_lt (by omega) (by omega), or16_step (b0.toNat : Int) (by omega) (by omega) b1]
  have hq : q.data.toList = b0 :: b1 :: q.data.toList.drop 2 := by
    conv => lhs; rw [← List.take_append_drop 2 q.data.toList]
    rw [takeB_list] at hl
    rw [hl]
    rfl
  have he : be2 q = (b0.toNat : Int) * 256 + b1.toNat := by
    unfold be2
    rw [hq]
    rfl
  rw [he]
theorem U16_no (p : Nat) (q : ByteArray) (t : Int) (w : World) (hr : RdR w p q t) (h : q.size < 2) : Calls Tryd.prog 30 #[.pointer (some ⟨p, 0, none⟩)] w fun e w' => e = .returned (.tuple #[.int .u16 0, FV w.heap.size]) ∧ w' = w.alloc (.cells #[.int .i64 3, .int .i64 t] 35) := by
  go_enter Tryd.func30, Tryd.ntmps30
  go_wp2_with (go_at_call 44; refine (take16_no p q t _ hr h).mono ?_; rintro e w' ⟨rfl, rfl⟩)
  go_ret2
  exact ⟨rfl, rfl⟩
theorem U16_is (p : Nat) (q : ByteArray) (t : Int) (w : World) (hr : RdR w p q t) (h : 2 ≤ q.size) (hp : p < w.heap.size) (ht : 0 ≤ t ∧ t + 2 < 9223372036854775808) : Calls Tryd.prog 30 #[.pointer (some ⟨p, 0, none⟩)] w fun e w' => e = .returned (.tuple #[.int .u16 (be2 q), .nilIface]) ∧ RdR w' p (dropB q 2) (t + 2) ∧ w.grownBy w' (some p) := by
  go_enter Tryd.func30, Tryd.ntmps30
  go_wp2_with (go_at_call 44; refine (take16_is p q t _ hr h hp ht).mono ?_; rintro e w' ⟨rfl, hr2, hB⟩)
  go_ret2
  exact ⟨rfl, hr2, hB⟩
end Go.Proofs.YtbnnemiiodhjbaaDoor
