/- fixed's reader: a number of four bytes. -/
import Derived.Test.YtbnnemiiodhjbaaDoorP3
namespace Go.Proofs.YtbnnemiiodhjbaaDoor
open Go.RowKit
set_option linter.unusedVariables false

theorem or_first (b : UInt8) : bits .or .u64 0 (IntKind.u64.wrap (b.toNat : Int)) % 4294967296 = b.toNat := by
  have hb := b.toNat_lt
  have h2 : (b.toNat : Int) % 18446744073709551616 = b.toNat := by omega
  rw [IntKind.wrap_u64, h2, u64_or8 0 _ (by omega) (by omega) (by omega) (by omega) (by omega)]
  omega
theorem or_step (x : Int) (h0 : 0 ≤ x) (h1 : x < 16777216) (b : UInt8) : bits .or .u64 (x * 256) (IntKind.u64.wrap (b.toNat : Int)) % 4294967296 = x * 256 + b.toNat := by
  have hb := b.toNat_lt
  have h2 : (b.toNat : Int) % 18446744073709551616 = b.toNat := by omega
  rw [IntKind.wrap_u64, h2, u64_or8 (x * 256) _ (by omega) (by omega) (by omega) (by omega) (by omega)]
  omega

/-- The number of four bytes. -/
def be4 (q : ByteArray) : Int := (((q.data.toList.getD 0 0).toNat * 256 + (q.data.toList.getD 1 0).toNat) * 256 + (q.data.toList.getD 2 0).toNat) * 256 + (q.data.toList.getD 3 0).toNat

set_option maxRecDepth 100000 in
set_option maxHeartbeats 4000000 in
theorem take32_is (p : Nat) (q : ByteArray) (t : Int) (w : World) (hr : RdR w p q t) (h : 4 ≤ q.size) (hp : p < w.heap.size) (ht : 0 ≤ t ∧ t + 4 < 9223372036854775808) : Calls Tryd.prog 52 #[.pointer (some ⟨p, 0, none⟩)] w fun e w' => e = .returned (.tuple #[.int .u32 (be4 q), .nilIface]) ∧ RdR w' p (dropB q 4) (t + 4) ∧ w.grownBy w' (some p) := by
  have hsz := takeB_size q 4 h
  obtain ⟨s, hs⟩ : ∃ s, s = takeB q 4 := ⟨_, rfl⟩
  rw [← hs] at hsz
  have hcv := Lib.run_convert_string_bytes (P := Tryd.prog) w 9 22 5 s Tryd.underlying9 Tryd.underlying22 Tryd.underlying5
  have hB : Below w.heap.size w (Lib.bytesWorld w 5 s) := bytesWorld_below w 5 s
  obtain ⟨W, hW⟩ : ∃ W, W = Lib.bytesWorld w 5 s := ⟨_, rfl⟩
  obtain ⟨b0, b1, b2, b3, hl⟩ : ∃ b0 b1 b2 b3 : UInt8, s.data.toList = [b0, b1, b2, b3] := by
    have hl : s.data.toList.length = 4 := by rw [Array.length_toList]; exact hsz
    match s.data.toList, hl with
    | [b0, b1, b2, b3], _ => exact ⟨b0, b1, b2, b3, rfl⟩
  have k0 : W.cell? ⟨w.heap.size, 0, none⟩ = some (.int .u8 b0.toNat) := by rw [hW, Lib.bytesWorld_cell w 5 s 0 (by omega), hl]; rfl
  have k1 : W.cell? ⟨w.heap.size, 1, none⟩ = some (.int .u8 b1.toNat) := by rw [hW, Lib.bytesWorld_cell w 5 s 1 (by omega), hl]; rfl
  have k2 : W.cell? ⟨w.heap.size, 2, none⟩ = some (.int .u8 b2.toNat) := by rw [hW, Lib.bytesWorld_cell w 5 s 2 (by omega), hl]; rfl
  have k3 : W.cell? ⟨w.heap.size, 3, none⟩ = some (.int .u8 b3.toNat) := by rw [hW, Lib.bytesWorld_cell w 5 s 3 (by omega), hl]; rfl
  rw [← hW] at hcv hB
  clear hW
  rw [hsz] at hcv
  subst hs
  go_enter Tryd.func52, Tryd.ntmps52
  go_wp2_with (first | (go_at_call 54; refine (width32 _).mono ?_; rintro e w' ⟨rfl, rfl⟩) | (go_at_call 34; refine (ahead_is p q t 4 _ hr h).mono ?_; rintro e w' ⟨rfl, rfl⟩))
  refine wp_loop_rounds 5 ?_
  rw [rounds_succ]
  go_wp2
  rw [rounds_succ]
  go_wp2
  rw [rounds_succ]
  go_wp2
  rw [rounds_succ]
  go_wp2
  rw [rounds_succ]
  go_wp2_with fail
  refine (skip_any p q t 4 _ (hr.keep hB) h ht).mono ?_
  rintro e w2 ⟨rfl, hr2, hB2, _⟩
  go_wp2_with fail
  go_ret2
  refine ⟨?_, hr2, grown_trans (grown_below hB _) hB2⟩
  have g0 := b0.toNat_lt
  have g1 := b1.toNat_lt
  have g2 := b2.toNat_lt
  have g3 := b3.toNat_lt
  rw [or_first b0, or_step (b0.toNat : Int) (by omega) (by omega) b1, or_step ((b0.toNat : Int) * 256 + b1.toNat) (by omega) (by omega) b2, or_step (((b0.toNat : Int) * 256 + b1.toNat) * 256 + b2.toNat) (by omega) (by omega) b3]
  have hq : q.data.toList = b0 :: b1 :: b2 :: b3 :: q.data.toList.drop 4 := by
    conv => lhs; rw [← List.take_append_drop 4 q.data.toList]
    rw [takeB_list] at hl
    rw [hl]
    rfl
  have he : be4 q = (((b0.toNat : Int) * 256 + b1.toNat) * 256 + b2.toNat) * 256 + b3.toNat := by
    unfold be4
    rw [hq]
    rfl
  rw [he]
  rfl
end Go.Proofs.YtbnnemiiodhjbaaDoor
