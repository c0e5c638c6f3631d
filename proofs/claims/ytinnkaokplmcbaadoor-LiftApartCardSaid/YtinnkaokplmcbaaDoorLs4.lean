/- Two records with one seat: the program. -/
import Derived.Test.YtinnkaokplmcbaaDoorLs3
namespace Go.Proofs.YtinnkaokplmcbaaDoor
open Go.RowKit
set_option linter.unusedVariables false
set_option linter.unusedSimpArgs false

theorem frz {w : World} {b : Nat} {cs : Array Value} {t : TypeId} (h : w.heap[b]? = some (.cells cs t (0, 0))) (j : Nat) : w.frozen? ⟨b, j, none⟩ = false := by simp [World.frozen?, h]
/-- Who of the first i has it, and 1 more. -/
def byF (s : List Int) (i : Nat) (j : Int) : Int := match (List.range i).find? (fun k => s.getD k (-1) == j) with | some k => (k : Int) + 1 | none => 0
theorem byF_zero (s : List Int) (j : Int) : byF s 0 j = 0 := rfl
theorem byF_cases (s : List Int) (i : Nat) (j : Int) : (byF s i j = 0 ∧ ∀ k, k < i → s.getD k (-1) ≠ j) ∨ (∃ k, k < i ∧ s.getD k (-1) = j ∧ byF s i j = (k : Int) + 1 ∧ ∀ x, x < k → s.getD x (-1) ≠ j) := by
  cases h : (List.range i).find? (fun k => s.getD k (-1) == j) with
  | none =>
    left
    refine ⟨by unfold byF; rw [h], fun k hk e => ?_⟩
    have := List.find?_eq_none.1 h k (List.mem_range.2 hk)
    exact this (by rw [e]; exact beq_self_eq_true j)
  | some k =>
    right
    have h1 := List.find?_some h
    have h2 := List.mem_range.1 (List.mem_of_find?_eq_some h)
    refine ⟨k, h2, by simpa using h1, by unfold byF; rw [h], fun x hx e => ?_⟩
    rw [List.find?_range_eq_some] at h
    have := h.2.2 x hx
    rw [e] at this
    simp at this
theorem byF_other (s : List Int) (i : Nat) (j : Int) (h : s.getD i (-1) ≠ j) : byF s (i + 1) j = byF s i j := by
  unfold byF
  rw [List.range_succ, List.find?_append]
  cases h2 : (List.range i).find? (fun k => s.getD k (-1) == j) with
  | some k => rfl
  | none =>
    have h3 : (s.getD i (-1) == j) = false := by simpa using h
    simp only [List.find?_cons, h3]
    rfl
theorem byF_new (s : List Int) (i : Nat) (j : Int) (h : s.getD i (-1) = j) (h0 : byF s i j = 0) : byF s (i + 1) j = (i : Int) + 1 := by
  rcases byF_cases s i j with ⟨_, hn⟩ | ⟨k, _, _, hk, _⟩
  · unfold byF
    rw [List.range_succ, List.find?_append]
    cases h2 : (List.range i).find? (fun k => s.getD k (-1) == j) with
    | some k =>
      exfalso
      have h1 := List.find?_some h2
      exact hn k (List.mem_range.1 (List.mem_of_find?_eq_some h2)) (by simpa using h1)
    | none =>
      have h3 : (s.getD i (-1) == j) = true := by simpa using h
      simp only [List.find?_cons, h3]
      rfl
  · omega

set_option maxRecDepth 100000 in
set_option maxHeartbeats 8000000 in
theorem Clash_any (l : List Rec) (lv : Value) (w : World) (hl : RdL w lv l) (hlen : l.length ≤ 100) :
    Calls Tryd.prog 21 #[lv] w fun e w' => e = .returned (clV (seats l)) ∧ Below w.heap.size w w' := by
  obtain ⟨a, c, rfl, hc, hr⟩ := hl.opn
  have HR := Lib.hid hr
  have HZ : Hid ((seats l).length = l.length) := List.length_map _
  clear hr hl
  have hb0 := heap_alloc_new w (.cells #[.int .i64 0, .int .i64 0, .int .i64 0, .int .i64 0, .int .i64 0, .int .i64 0, .int .i64 0, .int .i64 0, .int .i64 0, .int .i64 0, .int .i64 0, .int .i64 0, .int .i64 0, .int .i64 0, .int .i64 0, .int .i64 0, .int .i64 0, .int .i64 0, .int .i64 0, .int .i64 0, .int .i64 0, .int .i64 0, .int .i64 0, .int .i64 0, .int .i64 0, .int .i64 0, .int .i64 0, .int .i64 0, .int .i64 0, .int .i64 0, .int .i64 0, .int .i64 0, .int .i64 0, .int .i64 0, .int .i64 0, .int .i64 0, .int .i64 0, .int .i64 0, .int .i64 0, .int .i64 0, .int .i64 0, .int .i64 0, .int .i64 0, .int .i64 0, .int .i64 0, .int .i64 0, .int .i64 0, .int .i64 0, .int .i64 0, .int .i64 0, .int .i64 0, .int .i64 0, .int .i64 0, .int .i64 0, .int .i64 0, .int .i64 0, .int .i64 0, .int .i64 0, .int .i64 0, .int .i64 0, .int .i64 0, .int .i64 0, .int .i64 0, .int .i64 0] 68)
  have hby : ∀ j, j < 64 → (w.alloc (.cells #[.int .i64 0, .int .i64 0, .int .i64 0, .int .i64 0, .int .i64 0, .int .i64 0, .int .i64 0, .int .i64 0, .int .i64 0, .int .i64 0, .int .i64 0, .int .i64 0, .int .i64 0, .int .i64 0, .int .i64 0, .int .i64 0, .int .i64 0, .int .i64 0, .int .i64 0, .int .i64 0, .int .i64 0, .int .i64 0, .int .i64 0, .int .i64 0, .int .i64 0, .int .i64 0, .int .i64 0, .int .i64 0, .int .i64 0, .int .i64 0, .int .i64 0, .int .i64 0, .int .i64 0, .int .i64 0, .int .i64 0, .int .i64 0, .int .i64 0, .int .i64 0, .int .i64 0, .int .i64 0, .int .i64 0, .int .i64 0, .int .i64 0, .int .i64 0, .int .i64 0, .int .i64 0, .int .i64 0, .int .i64 0, .int .i64 0, .int .i64 0, .int .i64 0, .int .i64 0, .int .i64 0, .int .i64 0, .int .i64 0, .int .i64 0, .int .i64 0, .int .i64 0, .int .i64 0, .int .i64 0, .int .i64 0, .int .i64 0, .int .i64 0, .int .i64 0] 68)).cell? ⟨w.heap.size, j, none⟩ = some (.int .i64 0) := fun j hj => by
    rw [cell_of_row _ _ j _ _ _ hb0]
    show (Array.replicate 64 (Value.int .i64 0))[j]? = _
    simp [hj]
  have hfr : ∀ j, j < 64 → (w.alloc (.cells #[.int .i64 0, .int .i64 0, .int .i64 0, .int .i64 0, .int .i64 0, .int .i64 0, .int .i64 0, .int .i64 0, .int .i64 0, .int .i64 0, .int .i64 0, .int .i64 0, .int .i64 0, .int .i64 0, .int .i64 0, .int .i64 0, .int .i64 0, .int .i64 0, .int .i64 0, .int .i64 0, .int .i64 0, .int .i64 0, .int .i64 0, .int .i64 0, .int .i64 0, .int .i64 0, .int .i64 0, .int .i64 0, .int .i64 0, .int .i64 0, .int .i64 0, .int .i64 0, .int .i64 0, .int .i64 0, .int .i64 0, .int .i64 0, .int .i64 0, .int .i64 0, .int .i64 0, .int .i64 0, .int .i64 0, .int .i64 0, .int .i64 0, .int .i64 0, .int .i64 0, .int .i64 0, .int .i64 0, .int .i64 0, .int .i64 0, .int .i64 0, .int .i64 0, .int .i64 0, .int .i64 0, .int .i64 0, .int .i64 0, .int .i64 0, .int .i64 0, .int .i64 0, .int .i64 0, .int .i64 0, .int .i64 0, .int .i64 0, .int .i64 0, .int .i64 0] 68)).frozen? ⟨w.heap.size, j, none⟩ = false := fun j hj => frz hb0 j
  have HB0 : Below w.heap.size w (w.alloc (.cells #[.int .i64 0, .int .i64 0, .int .i64 0, .int .i64 0, .int .i64 0, .int .i64 0, .int .i64 0, .int .i64 0, .int .i64 0, .int .i64 0, .int .i64 0, .int .i64 0, .int .i64 0, .int .i64 0, .int .i64 0, .int .i64 0, .int .i64 0, .int .i64 0, .int .i64 0, .int .i64 0, .int .i64 0, .int .i64 0, .int .i64 0, .int .i64 0, .int .i64 0, .int .i64 0, .int .i64 0, .int .i64 0, .int .i64 0, .int .i64 0, .int .i64 0, .int .i64 0, .int .i64 0, .int .i64 0, .int .i64 0, .int .i64 0, .int .i64 0, .int .i64 0, .int .i64 0, .int .i64 0, .int .i64 0, .int .i64 0, .int .i64 0, .int .i64 0, .int .i64 0, .int .i64 0, .int .i64 0, .int .i64 0, .int .i64 0, .int .i64 0, .int .i64 0, .int .i64 0, .int .i64 0, .int .i64 0, .int .i64 0, .int .i64 0, .int .i64 0, .int .i64 0, .int .i64 0, .int .i64 0, .int .i64 0, .int .i64 0, .int .i64 0, .int .i64 0] 68)) := (Below.refl _ _).alloc (Nat.le_refl _) _
  have hsz0 : w.heap.size < (w.alloc (.cells #[.int .i64 0, .int .i64 0, .int .i64 0, .int .i64 0, .int .i64 0, .int .i64 0, .int .i64 0, .int .i64 0, .int .i64 0, .int .i64 0, .int .i64 0, .int .i64 0, .int .i64 0, .int .i64 0, .int .i64 0, .int .i64 0, .int .i64 0, .int .i64 0, .int .i64 0, .int .i64 0, .int .i64 0, .int .i64 0, .int .i64 0, .int .i64 0, .int .i64 0, .int .i64 0, .int .i64 0, .int .i64 0, .int .i64 0, .int .i64 0, .int .i64 0, .int .i64 0, .int .i64 0, .int .i64 0, .int .i64 0, .int .i64 0, .int .i64 0, .int .i64 0, .int .i64 0, .int .i64 0, .int .i64 0, .int .i64 0, .int .i64 0, .int .i64 0, .int .i64 0, .int .i64 0, .int .i64 0, .int .i64 0, .int .i64 0, .int .i64 0, .int .i64 0, .int .i64 0, .int .i64 0, .int .i64 0, .int .i64 0, .int .i64 0, .int .i64 0, .int .i64 0, .int .i64 0, .int .i64 0, .int .i64 0, .int .i64 0, .int .i64 0, .int .i64 0] 68)).heap.size := by simp
  obtain ⟨w0, hw0⟩ : ∃ w0, w0 = w.alloc (.cells #[.int .i64 0, .int .i64 0, .int .i64 0, .int .i64 0, .int .i64 0, .int .i64 0, .int .i64 0, .int .i64 0, .int .i64 0, .int .i64 0, .int .i64 0, .int .i64 0, .int .i64 0, .int .i64 0, .int .i64 0, .int .i64 0, .int .i64 0, .int .i64 0, .int .i64 0, .int .i64 0, .int .i64 0, .int .i64 0, .int .i64 0, .int .i64 0, .int .i64 0, .int .i64 0, .int .i64 0, .int .i64 0, .int .i64 0, .int .i64 0, .int .i64 0, .int .i64 0, .int .i64 0, .int .i64 0, .int .i64 0, .int .i64 0, .int .i64 0, .int .i64 0, .int .i64 0, .int .i64 0, .int .i64 0, .int .i64 0, .int .i64 0, .int .i64 0, .int .i64 0, .int .i64 0, .int .i64 0, .int .i64 0, .int .i64 0, .int .i64 0, .int .i64 0, .int .i64 0, .int .i64 0, .int .i64 0, .int .i64 0, .int .i64 0, .int .i64 0, .int .i64 0, .int .i64 0, .int .i64 0, .int .i64 0, .int .i64 0, .int .i64 0, .int .i64 0] 68) := ⟨_, rfl⟩
  have HW0 := Lib.hid hw0
  rw [← hw0] at hby hfr HB0 hsz0
  have HBY := Lib.hid hby
  have HFR := Lib.hid hfr
  clear hb0 hw0 hby hfr
  go_enter Tryd.func21, Tryd.ntmps21
  go_wp2_with fail
  rw [← HW0.out]
  go_loopw [6, 7, 8, 11] (fun _ _ _ i wr => ∃ b : Nat, b ≤ l.length ∧ i = .int .i64 b ∧ Hid (NoC (seats l) b) ∧ Below w.heap.size w wr ∧ w.heap.size < wr.heap.size ∧ Hid (∀ j, j < 64 → wr.cell? ⟨w.heap.size, j, none⟩ = some (.int .i64 (byF (seats l) b j))) ∧ Hid (∀ j, j < 64 → wr.frozen? ⟨w.heap.size, j, none⟩ = false)) (fun _ _ _ i _ => l.length - (intOf i).toNat)
  case atStart => exact ⟨0, Nat.zero_le _, rfl, (fun y hy => absurd hy (by omega)), HB0, hsz0, fun j hj => HBY.out j hj, HFR.out⟩
  case round =>
    clear HB0 hsz0 HBY HFR
    obtain ⟨b, hb, rfl, hno, HB, hsz, HBY, HFR⟩ := hrel
    by_cases hbl : b < l.length
    · obtain ⟨r, hr⟩ : ∃ r, l[b]? = some r := ⟨l[b], List.getElem?_eq_getElem hbl⟩
      obtain ⟨g, o, rfl, hcs⟩ := HR.out b r hr
      have c0 := keep_cell HB (hcs 0 _ rfl)
      have c1 := keep_cell HB (hcs 1 _ rfl)
      have c2 := keep_cell HB (hcs 2 _ rfl)
      have c3 := keep_cell HB (hcs 3 _ rfl)
      have c4 := keep_cell HB (hcs 4 _ rfl)
      have c5 := keep_cell HB (hcs 5 _ rfl)
      have c6 := keep_cell HB (hcs 6 _ rfl)
      rw [Nat.add_zero] at c0
      have HSB := Lib.hid (seats_at hr)
      clear hr hcs
      by_cases hin : 0 ≤ r.seat ∧ r.seat < 64
      · obtain ⟨j, hj⟩ : ∃ j : Nat, r.seat = (j : Int) := ⟨r.seat.toNat, by omega⟩
        have hj64 : j < 64 := by omega
        rw [hj] at c4
        have HJ : Hid ((seats l).getD b (-1) = (j : Int)) := by show _ = _; rw [HSB.out, hj]
        have hb0 := Below.heap_alloc wr (.cells #[.bool r.hold, .int .u32 r.id, .string r.person, .int .i64 r.cls, .int .i64 (j : Int), .int .i64 r.was, .int .u64 r.til] 25) w.heap.size hsz
        have cy : (wr.alloc (.cells #[.bool r.hold, .int .u32 r.id, .string r.person, .int .i64 r.cls, .int .i64 (j : Int), .int .i64 r.was, .int .u64 r.til] 25)).cell? ⟨w.heap.size, j, none⟩ = some (.int .i64 (byF (seats l) b j)) := (World.cell?_of_block hb0).trans (HBY.out j hj64)
        have fy : (wr.alloc (.cells #[.bool r.hold, .int .u32 r.id, .string r.person, .int .i64 r.cls, .int .i64 (j : Int), .int .i64 r.was, .int .u64 r.til] 25)).frozen? ⟨w.heap.size, j, none⟩ = false := (World.frozen?_of_block hb0).trans (HFR.out j hj64)
        clear hj hin HSB
        rcases byF_cases (seats l) b j with ⟨h0, hn⟩ | ⟨k, hk, hks, hke, hkl⟩
        · rw [h0] at cy
          have HN : Hid (NoC (seats l) (b + 1)) := by
            intro y hy
            rcases Nat.lt_succ_iff_lt_or_eq.1 hy with h | h
            · exact hno.out y h
            · subst h
              rintro x hx ⟨h1, _⟩
              rw [HJ.out] at h1
              exact hn x hx h1
          have HNW := Lib.hid (byF_new (seats l) b j HJ.out h0)
          clear hn h0
          go_wp2_with fail
          have HB1 : Below w.heap.size w (wr.setCell ⟨w.heap.size, j, none⟩ (.int .i64 ((b : Int) + 1))) := HB.setCell (Nat.le_refl _) _
          have hsz1 : w.heap.size < (wr.setCell ⟨w.heap.size, j, none⟩ (.int .i64 ((b : Int) + 1))).heap.size := by simpa [World.setCell] using hsz
          have h2 := Below.heap_alloc (wr.setCell ⟨w.heap.size, j, none⟩ (.int .i64 ((b : Int) + 1))) (.cells #[.bool r.hold, .int .u32 r.id, .string r.person, .int .i64 r.cls, .int .i64 (j : Int), .int .i64 r.was, .int .u64 r.til] 25) w.heap.size hsz1
          refine ⟨⟨b + 1, by omega, by go_num, HN, HB1.alloc HB1.size _, by rw [World.size_alloc]; omega, ?_, ?_⟩, by simp [intOf]; omega⟩
          · intro j' hj'
            refine (World.cell?_of_block h2).trans ?_
            by_cases e : j' = j
            · subst e
              rw [World.cell?_setCell_same (h := HBY.out j' hj'), HNW.out]
            · rw [World.cell?_setCell_other (h := by simp <;> omega), HBY.out j' hj', byF_other _ _ _ (by rw [HJ.out]; omega)]
          · intro j' hj'
            refine (World.frozen?_of_block h2).trans ?_
            rw [World.frozen?_setCell]
            exact HFR.out j' hj'
        · rw [hke] at cy
          have hpos : (0 : Int) < (k : Int) + 1 := by omega
          have HF : Hid (Fst (seats l) k b) := ⟨hk, by rw [HZ.out]; exact hbl, ⟨by rw [hks, HJ.out], by rw [HJ.out]; omega⟩, fun x hx h => hkl x hx (by rw [h.1, HJ.out]), hno.out⟩
          clear hks hke hkl
          go_wp2_with fail
          go_returns
          exact ⟨by rw [clV_some HF.out]; rfl, HB.alloc HB.size _⟩
      · have hin2 : r.seat < 0 ∨ 64 ≤ r.seat := by omega
        clear hin
        have hb0 := heap_alloc_new wr (.cells #[.bool r.hold, .int .u32 r.id, .string r.person, .int .i64 r.cls, .int .i64 r.seat, .int .i64 r.was, .int .u64 r.til] 25)
        have cx : (wr.alloc (.cells #[.bool r.hold, .int .u32 r.id, .string r.person, .int .i64 r.cls, .int .i64 r.seat, .int .i64 r.was, .int .u64 r.til] 25)).cell? ⟨wr.heap.size, 4, none⟩ = some (.int .i64 r.seat) := cell_of_row _ _ 4 _ _ _ hb0
        have h2 := Below.heap_alloc wr (.cells #[.bool r.hold, .int .u32 r.id, .string r.person, .int .i64 r.cls, .int .i64 r.seat, .int .i64 r.was, .int .u64 r.til] 25) w.heap.size hsz
        have HBY1 : Hid (∀ j, j < 64 → (wr.alloc (.cells #[.bool r.hold, .int .u32 r.id, .string r.person, .int .i64 r.cls, .int .i64 r.seat, .int .i64 r.was, .int .u64 r.til] 25)).cell? ⟨w.heap.size, j, none⟩ = some (.int .i64 (byF (seats l) b j))) := fun j hj => (World.cell?_of_block h2).trans (HBY.out j hj)
        have HFR1 : Hid (∀ j, j < 64 → (wr.alloc (.cells #[.bool r.hold, .int .u32 r.id, .string r.person, .int .i64 r.cls, .int .i64 r.seat, .int .i64 r.was, .int .u64 r.til] 25)).frozen? ⟨w.heap.size, j, none⟩ = false) := fun j hj => (World.frozen?_of_block h2).trans (HFR.out j hj)
        have HB1 : Below w.heap.size w (wr.alloc (.cells #[.bool r.hold, .int .u32 r.id, .string r.person, .int .i64 r.cls, .int .i64 r.seat, .int .i64 r.was, .int .u64 r.til] 25)) := HB.alloc HB.size _
        have hs1 : w.heap.size < (wr.alloc (.cells #[.bool r.hold, .int .u32 r.id, .string r.person, .int .i64 r.cls, .int .i64 r.seat, .int .i64 r.was, .int .u64 r.til] 25)).heap.size := by simp; omega
        obtain ⟨W1, hW1⟩ : ∃ W1, W1 = (wr.alloc (.cells #[.bool r.hold, .int .u32 r.id, .string r.person, .int .i64 r.cls, .int .i64 r.seat, .int .i64 r.was, .int .u64 r.til] 25)) := ⟨_, rfl⟩
        have HW1 := Lib.hid hW1
        rw [← hW1] at cx HBY1 HFR1 HB1 hs1
        clear hW1 hb0 h2 HB HBY HFR
        rcases hin2 with h1 | h1
        all_goals
          go_wp2_with fail
          rw [← HW1.out]
          go_loopw [8, 25] (fun _ i wi => ∃ a : Nat, a ≤ b ∧ i = .int .i64 a ∧ Hid (∀ x, x < a → ¬ Same (seats l) x b) ∧ Below W1.heap.size W1 wi) (fun _ i _ => b - (intOf i).toNat)
          case atStart => exact ⟨0, Nat.zero_le _, rfl, (fun y hy => absurd hy (by omega)), Below.refl _ _⟩
          case round =>
            obtain ⟨a, ha, rfl, hna, HBI⟩ := hrel
            have HBA := bstep HB1 HBI
            by_cases hab : a < b
            · obtain ⟨q, hq⟩ : ∃ q, l[a]? = some q := ⟨l[a], List.getElem?_eq_getElem (by omega)⟩
              obtain ⟨g', o', hgo, hcs⟩ := HR.out a q hq
              obtain ⟨rfl, rfl⟩ : g = g' ∧ o = o' := by simpa using hgo
              have d1 := keep_cell HBA (hcs 4 _ rfl)
              have d2 := keep_cell HBI cx
              have HSA := Lib.hid (seats_at hq)
              clear hq hcs hgo
              by_cases hs : q.seat = r.seat
              · by_cases hs1 : r.seat = -1
                · have HN : Hid (∀ x, x < a + 1 → ¬ Same (seats l) x b) := by
                    intro x hx
                    rcases Nat.lt_succ_iff_lt_or_eq.1 hx with h | h
                    · exact hna.out x h
                    · rintro ⟨_, h2⟩; rw [HSB.out] at h2; exact h2 hs1
                  have e1 : (q.seat == r.seat) = true := by simpa using hs
                  have e2 : (r.seat == -1) = true := by simp [hs1]
                  have e3 : (r.seat != -1) = false := by simp [hs1]
                  clear hs hs1
                  go_wp2_with fail
                  go_quiet (fail)
                  go_wp2
                  go_roundw
                  case rel => exact ⟨a + 1, by omega, by go_num, HN, below_drewN HBI _⟩
                  case measure => simp [intOf]; omega
                · have HF : Hid (Fst (seats l) a b) := ⟨hab, by rw [HZ.out]; exact hbl, ⟨by rw [HSA.out, HSB.out]; exact hs, by rw [HSB.out]; exact hs1⟩, hna.out, hno.out⟩
                  have e1 : (q.seat == r.seat) = true := by simpa using hs
                  have e2 : (r.seat == -1) = false := by simp [hs1]
                  have e3 : (r.seat != -1) = true := by simp [hs1]
                  clear hs hs1
                  go_wp2_with fail
                  go_quiet (fail)
                  go_wp2
                  go_returns
                  exact ⟨by rw [clV_some HF.out]; rfl, below_drewN HBA _⟩
              · have HN : Hid (∀ x, x < a + 1 → ¬ Same (seats l) x b) := by
                  intro x hx
                  rcases Nat.lt_succ_iff_lt_or_eq.1 hx with h | h
                  · exact hna.out x h
                  · rintro ⟨h1, _⟩; rw [h, HSA.out, HSB.out] at h1; exact hs h1
                have e1 : (q.seat == r.seat) = false := by simpa using hs
                clear hs
                go_wp2_with fail
                go_quiet (fail)
                go_wp2
                go_roundw
                case rel => exact ⟨a + 1, by omega, by go_num, HN, below_drewN HBI _⟩
                case measure => simp [intOf]; omega
            · have HN : Hid (NoC (seats l) (b + 1)) := by
                intro y hy
                rcases Nat.lt_succ_iff_lt_or_eq.1 hy with h | h
                · exact hno.out y h
                · subst h; intro x hx; exact hna.out x (by omega)
              go_wp2
              go_roundw
              case rel =>
                refine ⟨b + 1, by omega, by go_num, HN, HBA, Nat.lt_of_lt_of_le hs1 HBI.size, ?_, ?_⟩
                · intro j' hj'
                  rw [byF_other _ _ _ (by rw [HSB.out]; omega)]
                  exact keep_cell HBI (HBY1.out j' hj')
                · intro j' hj'
                  exact (World.frozen?_of_block (HBI.block w.heap.size hs1)).trans (HFR1.out j' hj')
              case measure => simp [intOf]; omega
    · have HN : Hid (NoC (seats l) (seats l).length) := by
        have e : (seats l).length = b := by rw [HZ.out]; omega
        rw [e]
        exact hno
      go_wp2
      go_returns
      exact ⟨by rw [clV_none HN.out]; rfl, HB⟩
end Go.Proofs.YtinnkaokplmcbaaDoor
