/- The reference's map: its small methods. -/
import Derived.Test.YtdaeibbjoefofaaDoorFmd
namespace Go.Proofs.YtdaeibbjoefofaaDoor
open Go.RowKit
set_option linter.unusedVariables false
set_option linter.unusedSimpArgs false

/-- Block b holds the reference's map: its flags lie in block g. -/
structure RefAt (w : World) (b g n : Nat) (T : Nat → Bool) : Prop where
  ptr : w.cell? ⟨b, 0, none⟩ = some (.slice (some ⟨g, 0, none⟩) n n)
  row : w.rowIs g 4 n (fun j => .bool (T j))
  ne : b ≠ g
theorem RefAt.lt {w : World} {b g n : Nat} {T : Nat → Bool} (h : RefAt w b g n T) : b < w.heap.size := World.block_lt_of_cell? _ _ h.ptr
theorem RefAt.below {w w' : World} {b g n : Nat} {T : Nat → Bool} (h : RefAt w b g n T) (hb : Below w.heap.size w w') : RefAt w' b g n T := ⟨keep_cell hb h.ptr, rowIs_below h.row hb, h.ne⟩
theorem RefAt.grown {w w' : World} {b g n : Nat} {T : Nat → Bool} (h : RefAt w b g n T) {row : Option Nat} (hg : w.grownBy w' row) (h1 : some b ≠ row) (h2 : some g ≠ row) : RefAt w' b g n T := ⟨grown_cell h.ptr hg h1, rowIs_grown h.row hg h2, h.ne⟩
theorem RefAt.drew {w : World} {b g n : Nat} {T : Nat → Bool} (h : RefAt w b g n T) : RefAt w.drew b g n T := ⟨h.ptr, h.row, h.ne⟩
theorem RefAt.drewN {w : World} {b g n : Nat} {T : Nat → Bool} (h : RefAt w b g n T) (k : Nat) : RefAt (w.drewN k) b g n T := ⟨h.ptr, h.row, h.ne⟩
theorem RefAt.turn {w : World} {b g n k : Nat} {T : Nat → Bool} (h : RefAt w b g n T) (hk : k < n) (u : Bool) : RefAt (w.setCell ⟨g, k, none⟩ (.bool u)) b g n (turnT T n (k : Int) u) := by
  refine ⟨by rw [World.cell?_setCell_other (h := by have := h.ne; simp <;> omega)]; exact h.ptr, (h.row.set k (.bool u)).congr fun i hi => ?_, h.ne⟩
  rw [turnT_at hk]
  by_cases e : i = k
  · simp [e]
  · simp [e]

set_option maxRecDepth 100000 in
set_option maxHeartbeats 1000000 in
theorem rnew_yes (n : Nat) (w : World) (h1 : 1 ≤ n) (h2 : n ≤ 1024) : Calls Tryd.prog 15 #[.int .i64 n] w fun e w' => e = .returned (.pointer (some ⟨w.heap.size + 1, 0, none⟩)) ∧ RefAt w' (w.heap.size + 1) w.heap.size n (fun _ => false) ∧ Below w.heap.size w w' := by
  have hmk : ∀ w : World, (Instr.makeSlice 27 (.int .i64 (n : Int)) (.int .i64 (n : Int))).run Tryd.prog w = .ok (.slice (some ⟨w.heap.size, 0, none⟩) n n) (w.alloc (.cells (madeCells #[.bool false] n) 4)) := fun w =>
    run_make_row' (P := Tryd.prog) 27 4 (.bool false) 1 Tryd.underlying27 info_bool rfl .i64 .i64 n (by omega) (by omega) w
  go_enter Tryd.func15, Tryd.ntmps15
  go_wp2_with fail
  go_ret
  have h0 := World.rowIs_made w (.bool false) n 4
  refine ⟨rfl, ⟨?_, h0.alloc _, by omega⟩, ((Below.refl _ _).alloc (Nat.le_refl _) _).alloc (by simp) _⟩
  have := heap_alloc_new (w.alloc (.cells (madeCells #[.bool false] n) 4)) (.cells #[.slice (some ⟨w.heap.size, 0, none⟩) n n] 65)
  rw [World.size_alloc] at this
  rw [cell_of_row _ _ 0 _ _ _ this]
  rfl
theorem rnew_no (n : Int) (w : World) (h : sizeB n = false) : Calls Tryd.prog 15 #[.int .i64 n] w fun e w' => e = .returned (.pointer none) ∧ w = w' := by
  have h2 : n < 1 ∨ (1 ≤ n ∧ 1024 < n) := by
    unfold sizeB at h
    simp at h
    omega
  clear h
  rcases h2 with h2 | ⟨h2, h3⟩
  all_goals
    go_enter Tryd.func15, Tryd.ntmps15
    go_wp2_with fail
    go_ret
    exact ⟨rfl, rfl⟩
theorem there_any (b g n : Nat) (T : Nat → Bool) (i : Int) (w : World) (h : RefAt w b g n T) : Calls Tryd.prog 33 #[.pointer (some ⟨b, 0, none⟩), .int .i64 i] w fun e w' => e = .returned (.bool (inB n i)) ∧ w = w' := by
  have c := h.ptr
  by_cases h0 : 0 ≤ i
  · by_cases h1 : i < n
    all_goals
      go_enter Tryd.func33, Tryd.ntmps33
      go_wp2_with fail
      go_ret
      exact ⟨by unfold inB; first | (simp [h1]; done) | (simp; omega), rfl⟩
  · go_enter Tryd.func33, Tryd.ntmps33
    go_wp2_with fail
    go_ret
    exact ⟨by unfold inB; simp; omega, rfl⟩
theorem rhas_any (b g n : Nat) (T : Nat → Bool) (i : Int) (w : World) (h : RefAt w b g n T) : Calls Tryd.prog 22 #[.pointer (some ⟨b, 0, none⟩), .int .i64 i] w fun e w' => e = .returned (.bool (hasB T n i)) ∧ w = w' := by
  have c := h.ptr
  cases hi : inB n i with
  | true =>
    have hi2 : 0 ≤ i ∧ i < n := by unfold inB at hi; simpa using hi
    obtain ⟨k, rfl⟩ : ∃ k : Nat, i = (k : Int) := ⟨i.toNat, by omega⟩
    have hk : k < n := by omega
    have hc := h.row.cell hk
    have HI := Lib.hid hi
    have HH := Lib.hid (hasB_in hk (rfl : T k = T k))
    clear hi
    go_enter Tryd.func22, Tryd.ntmps22
    go_wp2_with fail
    have q := there_any b g n T (k : Int) w h
    rw [HI.out] at q
    refine q.mono ?_
    clear q
    rintro e w' ⟨rfl, rfl⟩
    go_wp2_with fail
    go_ret
    exact ⟨by rw [HH.out]; rfl, rfl⟩
  | false =>
    have HI := Lib.hid hi
    have HH : Hid (hasB T n i = false) := by
      show hasB T n i = false
      unfold hasB
      unfold inB at hi
      rw [hi]
      rfl
    clear hi
    go_enter Tryd.func22, Tryd.ntmps22
    go_wp2_with fail
    have q := there_any b g n T i w h
    rw [HI.out] at q
    refine q.mono ?_
    clear q
    rintro e w' ⟨rfl, rfl⟩
    go_wp2_with fail
    go_ret
    exact ⟨by rw [HH.out]; rfl, rfl⟩
theorem turnC_out {T : Nat → Bool} {n : Nat} {i : Int} {u : Bool} {was : Int} (h : inB n i = false) : turnC T n i u was = 2 := by
  unfold turnC
  rw [if_neg (by simp [h])]
theorem turnT_out {T : Nat → Bool} {n : Nat} {i : Int} {u : Bool} (h : inB n i = false) : turnT T n i u = T := by
  unfold turnT
  rw [if_neg (by simp [h])]
theorem turnC_in {T : Nat → Bool} {n : Nat} {i : Int} {u : Bool} {was : Int} (h : inB n i = true) : turnC T n i u was = if T i.toNat == u then was else 0 := by
  unfold turnC
  rw [if_pos h]
set_option maxRecDepth 100000 in
set_option maxHeartbeats 1000000 in
theorem ruse_any (b g n : Nat) (T : Nat → Bool) (i : Int) (w : World) (h : RefAt w b g n T) : Calls Tryd.prog 16 #[.pointer (some ⟨b, 0, none⟩), .int .i64 i] w fun e w' => e = .returned (.int .i64 (turnC T n i true 12)) ∧ RefAt w' b g n (turnT T n i true) ∧ w.grownBy w' (some g) := by
  have c := h.ptr
  cases hi : inB n i with
  | true =>
    have hi2 : 0 ≤ i ∧ i < n := by unfold inB at hi; simpa using hi
    obtain ⟨k, rfl⟩ : ∃ k : Nat, i = (k : Int) := ⟨i.toNat, by omega⟩
    have hk : k < n := by omega
    have hc := h.row.cell hk
    have hf := h.row.frozen k
    have hcode := turnC_in (T := T) (u := true) (was := 12) hi
    rw [Int.toNat_natCast] at hcode
    have HI := Lib.hid hi
    cases hT : T k with
    | true =>
      rw [hT] at hc hcode
      have HC := Lib.hid hcode
      have HS := Lib.hid (turn_same hi hT)
      clear hi hT hcode
      go_enter Tryd.func16, Tryd.ntmps16
      go_wp2_with fail
      have q := there_any b g n T (k : Int) w h
      rw [HI.out] at q
      refine q.mono ?_
      clear q
      rintro e w' ⟨rfl, rfl⟩
      go_wp2_with fail
      go_ret
      exact ⟨by rw [HC.out]; rfl, by rw [HS.out]; exact h, grown_refl _ _⟩
    | false =>
      rw [hT] at hc hcode
      have HC := Lib.hid hcode
      clear hi hT hcode
      go_enter Tryd.func16, Tryd.ntmps16
      go_wp2_with fail
      have q := there_any b g n T (k : Int) w h
      rw [HI.out] at q
      refine q.mono ?_
      clear q
      rintro e w' ⟨rfl, rfl⟩
      go_wp2_with fail
      go_ret
      exact ⟨by rw [HC.out]; rfl, h.turn hk true, grown_set _ _ _⟩
  | false =>
    have HC := Lib.hid (turnC_out (T := T) (u := true) (was := 12) hi)
    have HS := Lib.hid (turnT_out (T := T) (u := true) hi)
    have HI := Lib.hid hi
    clear hi
    go_enter Tryd.func16, Tryd.ntmps16
    go_wp2_with fail
    have q := there_any b g n T i w h
    rw [HI.out] at q
    refine q.mono ?_
    clear q
    rintro e w' ⟨rfl, rfl⟩
    go_wp2_with fail
    go_ret
    exact ⟨by rw [HC.out]; rfl, by rw [HS.out]; exact h, grown_refl _ _⟩
set_option maxRecDepth 100000 in
set_option maxHeartbeats 1000000 in
theorem rgive_any (b g n : Nat) (T : Nat → Bool) (i : Int) (w : World) (h : RefAt w b g n T) : Calls Tryd.prog 17 #[.pointer (some ⟨b, 0, none⟩), .int .i64 i] w fun e w' => e = .returned (.int .i64 (turnC T n i false 13)) ∧ RefAt w' b g n (turnT T n i false) ∧ w.grownBy w' (some g) := by
  have c := h.ptr
  cases hi : inB n i with
  | true =>
    have hi2 : 0 ≤ i ∧ i < n := by unfold inB at hi; simpa using hi
    obtain ⟨k, rfl⟩ : ∃ k : Nat, i = (k : Int) := ⟨i.toNat, by omega⟩
    have hk : k < n := by omega
    have hc := h.row.cell hk
    have hf := h.row.frozen k
    have hcode := turnC_in (T := T) (u := false) (was := 13) hi
    rw [Int.toNat_natCast] at hcode
    have HI := Lib.hid hi
    cases hT : T k with
    | false =>
      rw [hT] at hc hcode
      have HC := Lib.hid hcode
      have HS := Lib.hid (turn_same hi hT)
      clear hi hT hcode
      go_enter Tryd.func17, Tryd.ntmps17
      go_wp2_with fail
      have q := there_any b g n T (k : Int) w h
      rw [HI.out] at q
      refine q.mono ?_
      clear q
      rintro e w' ⟨rfl, rfl⟩
      go_wp2_with fail
      go_ret
      exact ⟨by rw [HC.out]; rfl, by rw [HS.out]; exact h, grown_refl _ _⟩
    | true =>
      rw [hT] at hc hcode
      have HC := Lib.hid hcode
      clear hi hT hcode
      go_enter Tryd.func17, Tryd.ntmps17
      go_wp2_with fail
      have q := there_any b g n T (k : Int) w h
      rw [HI.out] at q
      refine q.mono ?_
      clear q
      rintro e w' ⟨rfl, rfl⟩
      go_wp2_with fail
      go_ret
      exact ⟨by rw [HC.out]; rfl, h.turn hk false, grown_set _ _ _⟩
  | false =>
    have HC := Lib.hid (turnC_out (T := T) (u := false) (was := 13) hi)
    have HS := Lib.hid (turnT_out (T := T) (u := false) hi)
    have HI := Lib.hid hi
    clear hi
    go_enter Tryd.func17, Tryd.ntmps17
    go_wp2_with fail
    have q := there_any b g n T i w h
    rw [HI.out] at q
    refine q.mono ?_
    clear q
    rintro e w' ⟨rfl, rfl⟩
    go_wp2_with fail
    go_ret
    exact ⟨by rw [HC.out]; rfl, by rw [HS.out]; exact h, grown_refl _ _⟩
end Go.Proofs.YtdaeibbjoefofaaDoor
