/- fixed's reader: Text. -/
import Derived.Test.YtbnnemiiodhjbaaDoorP5
import Derived.Test.YtbnnemiiodhjbaaDoorTo2
namespace Go.Proofs.YtbnnemiiodhjbaaDoor
open Go.RowKit
set_option linter.unusedVariables false

theorem be1_bounds (q : ByteArray) : 0 ≤ be1 q ∧ be1 q < 256 := by
  unfold be1
  have := (q.data.toList.getD 0 0).toNat_lt
  omega

theorem index_head (q : ByteArray) (h : 1 ≤ q.size) (W : World) : (Instr.index 9 (.string (takeB q 1)) (.int .i64 0)).run Tryd.prog W = .ok (.int .u8 (be1 q)) W := by
  have hsz := takeB_size q 1 h
  rw [run_index_string (P := Tryd.prog) W 9 (takeB q 1) .i64 0 Tryd.underlying9, dif_pos (by omega)]
  have hlt : 0 < (takeB q 1).data.size := by have := hsz; show 0 < (takeB q 1).size; omega
  have hg : (takeB q 1).data[0] = q.data.toList.getD 0 0 := by
    have hl : 0 < q.data.toList.length := by rw [Array.length_toList]; exact h
    cases hq : q.data.toList with
    | nil => rw [hq] at hl; simp at hl
    | cons a r => simp [takeB, hq]
  exact congrArg (fun z : UInt8 => Result.ok (Value.int .u8 (z.toNat : Int)) W) hg

set_option maxRecDepth 100000 in
set_option maxHeartbeats 4000000 in
/-- A text is not there. -/
theorem Text_no (p : Nat) (q : ByteArray) (t most : Int) (w : World) (hr : RdR w p q t) (hm : 0 ≤ most) (h : q.size < 1 ∨ most < be1 q ∨ (q.size : Int) < 1 + be1 q) : Calls Tryd.prog 15 #[.pointer (some ⟨p, 0, none⟩), .int .i64 most] w fun e w' => (∃ a, e = .returned (.tuple #[.string ⟨#[]⟩, FV a])) ∧ Below w.heap.size w w' := by
  have hm' : ¬ most < 0 := by omega
  by_cases h1 : q.size < 1
  · go_enter Tryd.func15, Tryd.ntmps15
    go_wp2_with (go_at_call 34; refine (ahead_no p q t 1 _ hr h1).mono ?_; rintro e w' ⟨rfl, rfl⟩; dsimp only [FV])
    go_ret2
    exact ⟨⟨_, rfl⟩, by go_grown⟩
  · have hb := be1_bounds q
    have hix := index_head q (by omega)
    by_cases h2 : most < be1 q
    · clear h
      go_enter Tryd.func15, Tryd.ntmps15
      go_wp2_with fail
      refine (ahead_is p q t 1 _ hr (by omega)).mono ?_
      rintro e w' ⟨rfl, rfl⟩
      go_wp2_with (go_at_call 33; refine (wrong_any p q t 4 _ hr).mono ?_; rintro e w' ⟨rfl, rfl⟩; dsimp only [FV])
      go_ret2
      exact ⟨⟨_, rfl⟩, by go_grown⟩
    · obtain ⟨n, hn⟩ : ∃ n : Nat, 1 + be1 q = (n : Int) := ⟨(1 + be1 q).toNat, by omega⟩
      have h3 : q.size < n := by omega
      have h2' : be1 q ≤ most := by omega
      clear h h2
      go_enter Tryd.func15, Tryd.ntmps15
      go_wp2_with fail
      refine (ahead_is p q t 1 _ hr (by omega)).mono ?_
      rintro e w' ⟨rfl, rfl⟩
      go_wp2_with fail
      refine (ahead_no p q t n _ hr h3).mono ?_
      rintro e w2 ⟨rfl, rfl⟩
      dsimp only [FV]
      have hc : (w'.alloc (.cells #[.int .i64 3, .int .i64 t] 35)).cell? ⟨w'.heap.size, 0, none⟩ = some (.int .i64 3) := by rw [cell_of_row _ _ 0 _ _ _ (heap_alloc_new w' _)]; rfl
      have hi := is_fault w'.heap.size 3 _ hc
      dsimp only [ErrV] at hi
      go_wp2_with (go_at_call 35; refine hi.mono ?_; rintro e w3 ⟨rfl, rfl⟩)
      go_ret2
      exact ⟨⟨_, rfl⟩, by go_grown⟩

set_option maxRecDepth 100000 in
set_option maxHeartbeats 4000000 in
/-- A text that is there. -/
theorem Text_is (p : Nat) (q : ByteArray) (t most : Int) (n : Nat) (w : World) (hr : RdR w p q t) (hm : 0 ≤ most) (hn : 1 + be1 q = (n : Int)) (h1 : n ≤ q.size) (h2 : be1 q ≤ most) (ht : 0 ≤ t ∧ t + n < 9223372036854775808) :
    Calls Tryd.prog 15 #[.pointer (some ⟨p, 0, none⟩), .int .i64 most] w fun e w' => e = .returned (.tuple #[.string (dropB (takeB q n) 1), .nilIface]) ∧ RdR w' p (dropB q n) (t + n) ∧ w.grownBy w' (some p) ∧ w'.heap.size = w.heap.size := by
  have hb := be1_bounds q
  have hix := index_head q (by omega)
  have hd : ∀ W, (Instr.slice 9 (.string (takeB q n)) (some (.int .i64 1)) none none).run Tryd.prog W = .ok (.string (dropB (takeB q n) 1)) W := fun W => run_dropB (P := Tryd.prog) 9 Tryd.underlying9 (takeB q n) 1 (by rw [takeB_size q n h1]; omega) W
  have h3 : ¬ most < be1 q := by omega
  go_enter Tryd.func15, Tryd.ntmps15
  go_wp2_with fail
  refine (ahead_is p q t 1 _ hr (by omega)).mono ?_
  rintro e w' ⟨rfl, rfl⟩
  go_wp2_with fail
  refine (ahead_is p q t n _ hr h1).mono ?_
  rintro e w2 ⟨rfl, rfl⟩
  go_wp2_with (first | (go_at_call 35; refine (is_nil 3 _).mono ?_; rintro e w3 ⟨rfl, rfl⟩) | (go_at_call 36; refine (skip_any p q t n _ hr h1 ht).mono ?_; rintro e w4 ⟨rfl, hr4, hB4, hs4⟩))
  go_ret2
  exact ⟨rfl, hr4, hB4, hs4⟩
end Go.Proofs.YtbnnemiiodhjbaaDoor
