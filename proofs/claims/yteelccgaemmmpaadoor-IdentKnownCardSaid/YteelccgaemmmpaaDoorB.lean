/- ident.Person. -/
import Derived.Test.YteelccgaemmmpaaDoorWd
namespace Go.Proofs.YteelccgaemmmpaaDoor
open Go.RowKit

/-- What may stand in a person's name. -/
def okP (c : UInt8) : Bool := decide (33 ≤ c.toNat ∧ c.toNat ≤ 126)
/-- A person's name. -/
def personB (l : List UInt8) : Bool := !l.isEmpty && decide (l.length ≤ 24) && l.all okP

/-- The table of persons' bytes, as it is laid. -/
def GP (w : World) : Prop := w.cell? ⟨1, 0, none⟩ = some (.int .u8 33) ∧ w.cell? ⟨1, 1, none⟩ = some (.int .u8 126)
theorem GP.below {w w1 : World} (h : GP w) (hb : Below w.heap.size w w1) : GP w1 :=
  ⟨(hb.cell (World.block_lt_of_cell? w _ h.1)).trans h.1, (hb.cell (World.block_lt_of_cell? w _ h.2)).trans h.2⟩

theorem size_toList (s : ByteArray) : s.data.toList.length = s.size := by rw [Array.length_toList]; rfl

theorem take_succ' (s : ByteArray) (k : Nat) (h : k < s.size) : s.data.toList.take (k + 1) = s.data.toList.take k ++ [s[k]] := by
  rw [List.take_succ_eq_append_getElem (by rw [size_toList]; exact h)]; rfl

theorem all_take_succ {p : UInt8 → Bool} (s : ByteArray) (k : Nat) (h : k < s.size) (ha : Hid ((s.data.toList.take k).all p = true)) (hk : p s[k] = true) : Hid ((s.data.toList.take (k + 1)).all p = true) := by
  show (s.data.toList.take (k + 1)).all p = true
  rw [take_succ' s k h, List.all_append, ha.out]
  simp [hk]

theorem all_false {p : UInt8 → Bool} (s : ByteArray) (k : Nat) (h : k < s.size) (hk : p s[k] = false) : s.data.toList.all p = false := by
  rw [List.all_eq_false]
  exact ⟨s[k], List.getElem_mem (l := s.data.toList) (by rw [size_toList]; exact h), by simp [hk]⟩

set_option maxHeartbeats 4000000 in
theorem mayP_any (s : ByteArray) (w : World) (hs : s.size ≤ 140737488351232) (hG : GP w) :
    Calls Tryd.prog 26 #[.agg #[.slice (some ⟨1, 0, none⟩) 1 1, .int .i64 24, .func (.func 27) #[] #[]], .string s] w fun e w' => e = .returned (.bool (personB s.data.toList)) ∧ Below w.heap.size w w' := by
  have hsz := size_toList s
  have htl := ByteArray.toList_eq s
  by_cases h0 : s.toList = []
  · have e0 : personB s.data.toList = false := by rw [← htl, h0]; rfl
    rw [e0]
    clear e0 htl hsz
    go_enter Tryd.func26, Tryd.ntmps26
    go_wp2_with fail
    go_ret
    exact ⟨rfl, (Below.refl _ _).alloc (Nat.le_refl _) _⟩
  · have h0' : s.toList.isEmpty = false := by simpa using h0
    by_cases h1 : 24 < (s.size : Int)
    · have e0 : personB s.data.toList = false := by simp [personB]; intro _ h; omega
      rw [e0]
      clear e0 htl hsz
      go_enter Tryd.func26, Tryd.ntmps26
      go_wp2_with fail
      go_ret
      exact ⟨rfl, (Below.refl _ _).alloc (Nat.le_refl _) _⟩
    · have e0 : personB s.data.toList = s.data.toList.all okP := by
        have : s.data.toList.isEmpty = false := by rw [← htl]; exact h0'
        have h2 : decide (s.data.toList.length ≤ 24) = true := by simp; omega
        unfold personB
        rw [this, h2]; rfl
      rw [e0]
      have h1' : (s.size : Int) ≤ 24 := by omega
      clear e0 htl hsz h1 h0
      go_enter Tryd.func26, Tryd.ntmps26
      go_wp2_with fail
      have hd24 : decide (24 < (s.size : Int)) = false := by simp; omega
      go_loopw [20] (fun i wr => ∃ k : Nat, k ≤ s.size ∧ i = .int .i64 k ∧ Hid ((s.data.toList.take k).all okP = true) ∧ Below w.heap.size w wr ∧ w.heap.size < wr.heap.size ∧
          wr.cell? ⟨w.heap.size, 0, none⟩ = some (.slice (some ⟨1, 0, none⟩) 1 1) ∧ wr.cell? ⟨w.heap.size, 2, none⟩ = some (.func (.func 27) #[] #[]))
        (fun i _ => s.size - (intOf i).toNat)
      case atStart => exact ⟨0, Nat.zero_le _, rfl, (by simp [Hid]), (Below.refl _ _).alloc (Nat.le_refl _) _, by simp, cell_of_row _ _ 0 _ _ _ (heap_alloc_new w _), cell_of_row _ _ 2 _ _ _ (heap_alloc_new w _)⟩
      case round =>
        obtain ⟨k, hk, rfl, hall, hB, hlt, hc0, hc2⟩ := hrel
        have hGr := hG.below hB
        obtain ⟨hg0, hg1⟩ := hGr
        by_cases hkl : k < s.size
        · by_cases hok : okP s[k] = true
          · have hok' : 33 ≤ s[k].toNat ∧ s[k].toNat ≤ 126 := by simpa [okP] using hok
            have b1 : decide ((33 : Int) ≤ (s[k].toNat : Int)) = true := by simp; omega
            have b2 : decide ((s[k].toNat : Int) ≤ 126) = true := by simp; omega
            have hall' : Hid ((s.data.toList.take (k + 1)).all okP = true) := all_take_succ s k hkl hall hok
            clear hok hok'
            go_wp2_with fail
            refine wp_loop_rounds 2 ?_
            rw [rounds_succ]
            go_wp2_with fail
            go_quiet (fail)
            go_wp2_with fail
            rw [rounds_succ]
            go_wp2
            go_roundw
            case rel => exact ⟨k + 1, by omega, by go_num, hall', below_drewN (hB.alloc (by omega) _) _, by simp; omega, by go_cell, by go_cell⟩
            case measure => simp [intOf]; omega
          · have hfalse : s.data.toList.all okP = false := all_false s k hkl (by simpa using hok)
            have HF := Lib.hid hfalse
            clear hfalse hall
            by_cases b0 : 33 ≤ s[k].toNat
            · have b1 : decide ((33 : Int) ≤ (s[k].toNat : Int)) = true := by simp; omega
              have b2 : decide ((s[k].toNat : Int) ≤ 126) = false := by
                have : ¬ (33 ≤ s[k].toNat ∧ s[k].toNat ≤ 126) := by simpa [okP] using hok
                simp; omega
              clear hok b0
              go_wp2_with fail
              refine wp_loop_rounds 2 ?_
              rw [rounds_succ]
              go_wp2_with fail
              go_quiet (fail)
              go_wp2_with fail
              rw [rounds_succ]
              go_wp2
              go_ret
              exact ⟨by rw [HF.out]; rfl, below_drewN (hB.alloc (by omega) _) _⟩
            · have b1 : decide ((33 : Int) ≤ (s[k].toNat : Int)) = false := by simp; omega
              clear hok b0
              go_wp2_with fail
              refine wp_loop_rounds 2 ?_
              rw [rounds_succ]
              go_wp2_with fail
              go_quiet (fail)
              go_wp2_with fail
              rw [rounds_succ]
              go_wp2
              go_ret
              exact ⟨by rw [HF.out]; rfl, below_drewN (hB.alloc (by omega) _) _⟩
        · go_wp2
          go_ret
          have : k = s.size := by omega
          subst this
          have h2 := hall.out
          rw [List.take_of_length_le (by rw [size_toList]; exact Nat.le_refl _)] at h2
          rw [h2]
          exact ⟨rfl, by go_grown⟩

set_option maxHeartbeats 1000000 in
/-- Whether a text is a person's name. -/
theorem person_any (s : ByteArray) (w : World) (hs : s.size ≤ 140737488351232) (hG : GP w) :
    Calls Tryd.prog 11 #[.string s] w fun e w' => e = .returned (.bool (personB s.data.toList)) ∧ Below w.heap.size w w' := by
  go_enter Tryd.func11, Tryd.ntmps11
  go_wp2_with (go_at_call 26; refine (mayP_any s _ hs hG).mono ?_; rintro e w' ⟨rfl, hB⟩)
  go_ret
  exact ⟨rfl, hB⟩
end Go.Proofs.YteelccgaemmmpaaDoor
