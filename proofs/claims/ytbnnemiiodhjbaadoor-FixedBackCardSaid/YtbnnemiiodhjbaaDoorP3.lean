/- fixed's reader: numbers that are there. -/
import Derived.Test.YtbnnemiiodhjbaaDoorP2
import Derived.Test.YtbnnemiiodhjbaaDoorBw
import Derived.Laws.BitsLemmas
namespace Go.Proofs.YtbnnemiiodhjbaaDoor
open Go.RowKit
set_option linter.unusedVariables false

theorem u64_or8 (x y : Int) (hx0 : 0 ≤ x) (hx : x % 256 = 0) (hx1 : x < 18446744073709551616) (h0 : 0 ≤ y) (h1 : y < 256) : bits .or .u64 x y = x + y :=
  bits_join .u64 64 (by decide) (fun n h0 h1 => by simp only [IntKind.wrap_u64]; omega) 8 x y hx0 hx hx1 h0 h1 (by omega)

theorem or_byte (b : UInt8) : bits .or .u64 0 (IntKind.u64.wrap (b.toNat : Int)) % 256 = b.toNat := by
  have hb := b.toNat_lt
  have h2 : (b.toNat : Int) % 18446744073709551616 = b.toNat := by omega
  rw [IntKind.wrap_u64, h2, u64_or8 0 _ (by omega) (by omega) (by omega) (by omega) (by omega)]
  omega

theorem RdR.keep {w W : World} {p : Nat} {q : ByteArray} {t : Int} (hB : Below w.heap.size w W) (h : RdR w p q t) : RdR W p q t := by
  have hl := World.block_lt_of_cell? w _ h.c0
  have hb := hB.block p hl
  exact ⟨keep_cell' hB h.c0, keep_cell' hB h.c1, (World.frozen?_of_block hb).trans h.f0, (World.frozen?_of_block hb).trans h.f1⟩

/-- The number of the first byte. -/
def be1 (q : ByteArray) : Int := (q.data.toList.getD 0 0).toNat

set_option maxRecDepth 100000 in
set_option maxHeartbeats 2000000 in
theorem take8_is (p : Nat) (q : ByteArray) (t : Int) (w : World) (hr : RdR w p q t) (h : 1 ≤ q.size) (hp : p < w.heap.size) (ht : 0 ≤ t ∧ t + 1 < 9223372036854775808) : Calls Tryd.prog 31 #[.pointer (some ⟨p, 0, none⟩)] w fun e w' => e = .returned (.tuple #[.int .u8 (be1 q), .nilIface]) ∧ RdR w' p (dropB q 1) (t + 1) ∧ w.grownBy w' (some p) := by
  have hsz := takeB_size q 1 h
  have hcv := Lib.run_convert_string_bytes (P := Tryd.prog) w 9 22 5 (takeB q 1) Tryd.underlying9 Tryd.underlying22 Tryd.underlying5
  have hB : Below w.heap.size w (Lib.bytesWorld w 5 (takeB q 1)) := bytesWorld_below w 5 (takeB q 1)
  have hcell : (Lib.bytesWorld w 5 (takeB q 1)).cell? ⟨w.heap.size, 0, none⟩ = some (.int .u8 ((takeB q 1).data.toList.getD 0 0).toNat) := Lib.bytesWorld_cell w 5 (takeB q 1) 0 (by omega)
  obtain ⟨W, hW⟩ : ∃ W, W = Lib.bytesWorld w 5 (takeB q 1) := ⟨_, rfl⟩
  rw [← hW] at hcv hcell hB
  clear hW
  rw [hsz] at hcv
  go_enter Tryd.func31, Tryd.ntmps31
  go_wp2_with (first | (go_at_call 43; refine (width8 _).mono ?_; rintro e w' ⟨rfl, rfl⟩) | (go_at_call 34; refine (ahead_is p q t 1 _ hr h).mono ?_; rintro e w' ⟨rfl, rfl⟩))
  refine wp_loop_rounds 2 ?_
  rw [rounds_succ]
  go_wp2
  rw [rounds_succ]
  go_wp2_with fail
  refine (skip_any p q t 1 _ (hr.keep hB) h ht).mono ?_
  rintro e w2 ⟨rfl, hr2, hB2, _⟩
  go_wp2_with fail
  go_ret2
  refine ⟨?_, hr2, grown_trans (grown_below hB _) hB2⟩
  have hlt : 0 < (takeB q 1).data.size := by have := hsz; show 0 < (takeB q 1).size; omega
  have hg : (takeB q 1).data[0] = q.data.toList.getD 0 0 := by
    have hl : 0 < q.data.toList.length := by rw [Array.length_toList]; exact h
    cases hq : q.data.toList with
    | nil => rw [hq] at hl; simp at hl
    | cons a r => simp [takeB, hq]
  rw [or_byte]
  exact congrArg (fun z : UInt8 => Ending.returned (.tuple #[.int .u8 (z.toNat : Int), .nilIface])) hg
end Go.Proofs.YtbnnemiiodhjbaaDoor
