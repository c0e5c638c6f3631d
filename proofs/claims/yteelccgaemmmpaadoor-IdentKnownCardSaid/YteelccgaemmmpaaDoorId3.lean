/- ident.Event. -/
import Derived.Test.YteelccgaemmmpaaDoorId2
import Derived.Test.YteelccgaemmmpaaDoorB
import Derived.Test.YteelccgaemmmpaaDoorSp
namespace Go.Proofs.YteelccgaemmmpaaDoor
open Go.RowKit
set_option linter.unusedVariables false
set_option linter.unusedSimpArgs false

/-- The table of events' bytes, as it is laid. -/
def GE (w : World) : Prop := (w.cell? ⟨0, 0, none⟩ = some (.int .u8 97) ∧ w.cell? ⟨0, 1, none⟩ = some (.int .u8 122)) ∧ (w.cell? ⟨0, 2, none⟩ = some (.int .u8 48) ∧ w.cell? ⟨0, 3, none⟩ = some (.int .u8 57)) ∧ w.cell? ⟨0, 4, none⟩ = some (.int .u8 45) ∧ w.cell? ⟨0, 5, none⟩ = some (.int .u8 45)
/-- The variable that strings.Index looks at. -/
def GM (w : World) : Prop := ∃ m : Int, w.cell? ⟨2, 0, none⟩ = some (.int .i64 m)
theorem keepC {w w1 : World} {a : Addr} {v : Value} (hb : Below w.heap.size w w1) (h : w.cell? a = some v) : w1.cell? a = some v := (hb.cell (World.block_lt_of_cell? w _ h)).trans h
theorem GE.below {w w1 : World} (h : GE w) (hb : Below w.heap.size w w1) : GE w1 :=
  ⟨⟨keepC hb h.1.1, keepC hb h.1.2⟩, ⟨keepC hb h.2.1.1, keepC hb h.2.1.2⟩, keepC hb h.2.2.1, keepC hb h.2.2.2⟩
theorem GM.below {w w1 : World} (h : GM w) (hb : Below w.heap.size w w1) : GM w1 := by
  obtain ⟨m, hm⟩ := h
  exact ⟨m, keepC hb hm⟩
theorem bstep {w0 w w1 : World} (h : Below w0.heap.size w0 w) (hb : Below w.heap.size w w1) : Below w0.heap.size w0 w1 := h.trans (hb.mono h.size)

def neB (x : ByteArray) : Bool := !x.data.toList.isEmpty
theorem pieces (s : ByteArray) (c : UInt8) : ∃ ps, ps = Lib.splitB ⟨#[c]⟩ 0 (Lib.countB s ⟨#[c]⟩) s ∧ ps.map (·.data.toList) = cutL c s.data.toList ∧ Lib.countB s ⟨#[c]⟩ + 1 = ps.length ∧ ps.length ≤ s.size + 1 := by
  refine ⟨_, rfl, split_one s c, ?_, ?_⟩
  · rw [splitB_len, ← split_one, List.length_map]
  · have := Lib.countB_le ⟨#[c]⟩ (Nat.le_refl 1) s.size s (Nat.le_refl _)
    rw [Lib.splitB_all ⟨#[c]⟩ (Nat.le_refl 1) 0 _ s rfl]
    omega
theorem piece_all {p : ByteArray → Bool} {ps : List ByteArray} {k : Nat} (h : k < ps.length) (ha : (ps.take k).all p = true) (hk : p ps[k] = true) : (ps.take (k + 1)).all p = true := by
  rw [List.take_succ_eq_append_getElem h, List.all_append, ha]
  simp [hk]
theorem piece_not {p : ByteArray → Bool} {ps : List ByteArray} {k : Nat} (h : k < ps.length) (hk : p ps[k] = false) : ps.all p = false := by
  rw [List.all_eq_false]
  exact ⟨ps[k], List.getElem_mem h, by simp [hk]⟩
set_option maxHeartbeats 1000000 in
theorem parted_any (s : ByteArray) (w : World) (hs : s.size ≤ 16) (hM : GM w) :
    Calls Tryd.prog 24 #[.string s] w fun e w' => e = .returned (.bool (hyL true s.data.toList)) ∧ Below w.heap.size w w' := by
  obtain ⟨m, hm⟩ := hM
  have hsp := Tryd.strings_Split s ⟨#[45]⟩ m w (by omega) hm (Nat.le_refl 1)
  obtain ⟨ps, hps, h1, h2, h4⟩ := pieces s 45
  have h3 : hyL true s.data.toList = ps.all neB := by rw [hy_cut', ← h1, List.all_map]; rfl
  rw [← hps, h2] at hsp
  rw [h3]
  have hN : (ps.length : Int) ≤ 17 := by omega
  clear hps h1 h2 h3 h4 hm
  go_enter Tryd.func24, Tryd.ntmps24
  go_wp2_with fail
  refine hsp.mono ?_
  rintro e w1 ⟨rfl, hw1⟩
  have hc : Hid (∀ k x, ps[k]? = some x → w1.cell? ⟨w.heap.size, k, none⟩ = some (.string x)) := by
    intro k x hx
    rw [hw1, cell_of_row _ _ k _ _ _ (heap_alloc_new w _)]
    simp [hx]
  have hB : Hid (Below w.heap.size w w1) := by rw [hw1]; exact (Below.refl _ _).alloc (Nat.le_refl _) _
  clear hw1 hsp
  go_wp2_with fail
  go_loop [8] (fun i => ∃ k : Nat, k ≤ ps.length ∧ i = .int .i64 k ∧ Hid ((ps.take k).all neB = true)) (fun i => ps.length - (intOf i).toNat)
  case atStart => exact ⟨0, Nat.zero_le _, rfl, (by simp [Hid])⟩
  case round =>
    obtain ⟨k, hk, rfl, ha⟩ := hrel
    by_cases hlt : k < ps.length
    · have hx := hc.out k ps[k] (List.getElem?_eq_getElem hlt)
      by_cases he : ps[k].toList = []
      · have hf : ps.all neB = false := piece_not hlt (by unfold neB; rw [← ByteArray.toList_eq, he]; rfl)
        have HF := Lib.hid hf
        clear hf ha
        go_wp2_with fail
        go_ret
        exact ⟨by rw [HF.out]; rfl, hB.out⟩
      · have he' : ps[k].toList.isEmpty = false := by simpa using he
        have HA := Lib.hid (piece_all hlt ha.out (show neB ps[k] = true by unfold neB; rw [← ByteArray.toList_eq, he']; rfl))
        clear ha
        go_wp2_with fail
        go_round
        case rel => exact ⟨k + 1, by omega, by go_num, HA.out⟩
        case measure => simp [intOf]; omega
    · obtain rfl : k = ps.length := by omega
      have h2 := ha.out
      rw [List.take_length] at h2
      have HF := Lib.hid h2
      clear h2 ha
      go_wp2_with fail
      go_ret
      exact ⟨by rw [HF.out]; rfl, hB.out⟩

/-- The j-th span: its ends. -/
def spL (j : Nat) : Int := if j = 0 then 97 else if j = 1 then 48 else 45
def spH (j : Nat) : Int := if j = 0 then 122 else if j = 1 then 57 else 45
/-- Is the byte in one of the first j spans? -/
def inJ (c : UInt8) (j : Nat) : Bool := (List.range j).any fun i => decide (spL i ≤ (c.toNat : Int)) && decide ((c.toNat : Int) ≤ spH i)
theorem inJ_succ (c : UInt8) (j : Nat) : inJ c (j + 1) = (inJ c j || (decide (spL j ≤ (c.toNat : Int)) && decide ((c.toNat : Int) ≤ spH j))) := by
  unfold inJ
  rw [List.range_succ, List.any_append]
  simp
theorem inJ_three (c : UInt8) : inJ c 3 = evC c := by
  rw [inJ_succ, inJ_succ, inJ_succ]
  unfold evC spL spH
  have : inJ c 0 = false := rfl
  rw [this, Bool.eq_iff_iff]
  simp
  omega

set_option maxHeartbeats 4000000 in
theorem mayE_any (s : ByteArray) (w : World) (hs : s.size ≤ 140737488351232) (hG : GE w) (hM : GM w) :
    Calls Tryd.prog 26 #[.agg #[.slice (some ⟨0, 0, none⟩) 3 3, .int .i64 16, .func (.func 24) #[] #[]], .string s] w fun e w' => e = .returned (.bool (eventB s.data.toList)) ∧ Below w.heap.size w w' := by
  have hsz := size_toList s
  have htl := ByteArray.toList_eq s
  by_cases h0 : s.toList = []
  · have e0 : eventB s.data.toList = false := by rw [← htl, h0]; rfl
    rw [e0]
    clear e0 htl hsz
    go_enter Tryd.func26, Tryd.ntmps26
    go_wp2_with fail
    go_ret
    exact ⟨rfl, (Below.refl _ _).alloc (Nat.le_refl _) _⟩
  · have h0' : s.toList.isEmpty = false := by simpa using h0
    by_cases h1 : 16 < (s.size : Int)
    · have e0 : eventB s.data.toList = false := by unfold eventB; rw [decide_eq_false (by omega)]; simp
      rw [e0]
      clear e0 htl hsz
      go_enter Tryd.func26, Tryd.ntmps26
      go_wp2_with fail
      go_ret
      exact ⟨rfl, (Below.refl _ _).alloc (Nat.le_refl _) _⟩
    · have e0 : eventB s.data.toList = (s.data.toList.all evC && hyL true s.data.toList) := by
        have : s.data.toList.isEmpty = false := by rw [← htl]; exact h0'
        have h2 : decide (s.data.toList.length ≤ 16) = true := by simp; omega
        unfold eventB
        rw [this, h2]; rfl
      rw [e0]
      have h1' : (s.size : Int) ≤ 16 := by omega
      have HG0 := Lib.hid hG
      have HM := Lib.hid hM
      clear e0 htl hsz h1 h0 hG hM
      go_enter Tryd.func26, Tryd.ntmps26
      go_wp2_with fail
      have hd16 : decide (16 < (s.size : Int)) = false := by simp; omega
      go_loopw [20] (fun i wr => ∃ k : Nat, k ≤ s.size ∧ i = .int .i64 k ∧ Hid ((s.data.toList.take k).all evC = true) ∧ Hid (Below w.heap.size w wr) ∧ Hid (w.heap.size < wr.heap.size) ∧ Hid (GE wr) ∧
          wr.cell? ⟨w.heap.size, 0, none⟩ = some (.slice (some ⟨0, 0, none⟩) 3 3) ∧ wr.cell? ⟨w.heap.size, 2, none⟩ = some (.func (.func 24) #[] #[]))
        (fun i _ => s.size - (intOf i).toNat)
      case atStart => exact ⟨0, Nat.zero_le _, rfl, (by simp [Hid]), (Below.refl _ _).alloc (Nat.le_refl _) _, by simp [Hid], HG0.out.below ((Below.refl _ _).alloc (Nat.le_refl _) _), cell_of_row _ _ 0 _ _ _ (heap_alloc_new w _), cell_of_row _ _ 2 _ _ _ (heap_alloc_new w _)⟩
      case round =>
        obtain ⟨k, hk, rfl, hall, HB0, Hlt0, HGr, hc0, hc2⟩ := hrel
        obtain ⟨wo, rfl⟩ : ∃ wo : World, wo = wr := ⟨_, rfl⟩
        by_cases hkl : k < s.size
        · go_wp2_with fail
          go_loopw [6, 26] (fun b i wr => ∃ j : Nat, j ≤ 3 ∧ i = .int .i64 j ∧ b = .bool (inJ s[k] j) ∧ Hid (Below w.heap.size w wr) ∧ Hid (w.heap.size < wr.heap.size) ∧ Hid (GE wr) ∧
              wr.cell? ⟨w.heap.size, 0, none⟩ = some (.slice (some ⟨0, 0, none⟩) 3 3) ∧ wr.cell? ⟨w.heap.size, 2, none⟩ = some (.func (.func 24) #[] #[]))
            (fun _ i _ => 3 - (intOf i).toNat)
          case atStart => exact ⟨0, by omega, rfl, rfl, HB0, Hlt0, HGr, hc0, hc2⟩
          case round =>
            clear hc0 hc2 HB0 Hlt0 HGr
            obtain ⟨j, hj, rfl, rfl, HB, Hlt, HG, hc0, hc2⟩ := hrel
            by_cases hj3 : j < 3
            · obtain ⟨⟨g0, g1⟩, ⟨g2, g3⟩, g4, g5⟩ := HG.out
              rcases (show j = 0 ∨ j = 1 ∨ j = 2 by omega) with rfl | rfl | rfl
              · have hs : inJ s[k] (0 + 1) = (inJ s[k] 0 || (decide ((97 : Int) ≤ (s[k].toNat : Int)) && decide ((s[k].toNat : Int) ≤ 122))) := inJ_succ s[k] 0
                cases hb : inJ s[k] 0 <;> cases b1 : decide ((97 : Int) ≤ (s[k].toNat : Int)) <;> cases b2 : decide ((s[k].toNat : Int) ≤ 122)
                all_goals
                  rw [hb, b1, b2] at hs
                  simp only [Bool.true_or, Bool.false_or, Bool.true_and, Bool.false_and] at hs
                  have HS := Lib.hid hs
                  clear hs hb
                  go_wp2_with fail
                  go_quiet (fail)
                  go_wp2_with fail
                  go_roundw
                  case rel => exact ⟨0 + 1, by omega, by go_num, by rw [HS.out], below_drewN (HB.out.alloc (Nat.le_of_lt Hlt.out) _) _, by show w.heap.size < _; rw [size_drewN]; have := Hlt.out; simp; omega, (HG.out.below (below_drewN ((Below.refl _ _).alloc (Nat.le_refl _) _) _)), keepC (below_drewN ((Below.refl _ _).alloc (Nat.le_refl _) _) _) hc0, keepC (below_drewN ((Below.refl _ _).alloc (Nat.le_refl _) _) _) hc2⟩
                  case measure => simp [intOf]
              · have hs : inJ s[k] (1 + 1) = (inJ s[k] 1 || (decide ((48 : Int) ≤ (s[k].toNat : Int)) && decide ((s[k].toNat : Int) ≤ 57))) := inJ_succ s[k] 1
                cases hb : inJ s[k] 1 <;> cases b1 : decide ((48 : Int) ≤ (s[k].toNat : Int)) <;> cases b2 : decide ((s[k].toNat : Int) ≤ 57)
                all_goals
                  rw [hb, b1, b2] at hs
                  simp only [Bool.true_or, Bool.false_or, Bool.true_and, Bool.false_and] at hs
                  have HS := Lib.hid hs
                  clear hs hb
                  go_wp2_with fail
                  go_quiet (fail)
                  go_wp2_with fail
                  go_roundw
                  case rel => exact ⟨1 + 1, by omega, by go_num, by rw [HS.out], below_drewN (HB.out.alloc (Nat.le_of_lt Hlt.out) _) _, by show w.heap.size < _; rw [size_drewN]; have := Hlt.out; simp; omega, (HG.out.below (below_drewN ((Below.refl _ _).alloc (Nat.le_refl _) _) _)), keepC (below_drewN ((Below.refl _ _).alloc (Nat.le_refl _) _) _) hc0, keepC (below_drewN ((Below.refl _ _).alloc (Nat.le_refl _) _) _) hc2⟩
                  case measure => simp [intOf]
              · have hs : inJ s[k] (2 + 1) = (inJ s[k] 2 || (decide ((45 : Int) ≤ (s[k].toNat : Int)) && decide ((s[k].toNat : Int) ≤ 45))) := inJ_succ s[k] 2
                cases hb : inJ s[k] 2 <;> cases b1 : decide ((45 : Int) ≤ (s[k].toNat : Int)) <;> cases b2 : decide ((s[k].toNat : Int) ≤ 45)
                all_goals
                  rw [hb, b1, b2] at hs
                  simp only [Bool.true_or, Bool.false_or, Bool.true_and, Bool.false_and] at hs
                  have HS := Lib.hid hs
                  clear hs hb
                  go_wp2_with fail
                  go_quiet (fail)
                  go_wp2_with fail
                  go_roundw
                  case rel => exact ⟨2 + 1, by omega, by go_num, by rw [HS.out], below_drewN (HB.out.alloc (Nat.le_of_lt Hlt.out) _) _, by show w.heap.size < _; rw [size_drewN]; have := Hlt.out; simp; omega, (HG.out.below (below_drewN ((Below.refl _ _).alloc (Nat.le_refl _) _) _)), keepC (below_drewN ((Below.refl _ _).alloc (Nat.le_refl _) _) _) hc0, keepC (below_drewN ((Below.refl _ _).alloc (Nat.le_refl _) _) _) hc2⟩
                  case measure => simp [intOf]
            · obtain rfl : j = 3 := by omega
              have h3 := inJ_three s[k]
              cases hok : evC s[k]
              · have HF := Lib.hid (all_false s k hkl hok)
                rw [hok] at h3
                clear hok hall
                go_wp2_with fail
                go_ret
                exact ⟨by rw [HF.out]; rfl, HB.out⟩
              · have HA := all_take_succ s k hkl hall hok
                rw [hok] at h3
                clear hok hall
                go_wp2_with fail
                go_roundw
                case rel => exact ⟨k + 1, by omega, by go_num, HA, HB.out, Hlt.out, HG.out, hc0, hc2⟩
                case measure => simp [intOf]; omega
        · obtain rfl : k = s.size := by omega
          have h2 := hall.out
          rw [List.take_of_length_le (by rw [size_toList]; exact Nat.le_refl _)] at h2
          have H2 := Lib.hid h2
          have hp := parted_any s wo (by omega) (HM.out.below HB0.out)
          clear h2 hall
          go_wp2_with (go_at_call 24; refine hp.mono ?_; rintro e w1 ⟨rfl, hB1⟩)
          go_ret
          exact ⟨by rw [H2.out, Bool.true_and]; rfl, bstep HB0.out hB1⟩

set_option maxHeartbeats 1000000 in
/-- Whether a text is an event's name. -/
theorem event_any (s : ByteArray) (w : World) (hs : s.size ≤ 140737488351232) (hG : GE w) (hM : GM w) :
    Calls Tryd.prog 9 #[.string s] w fun e w' => e = .returned (.bool (eventB s.data.toList)) ∧ Below w.heap.size w w' := by
  go_enter Tryd.func9, Tryd.ntmps9
  go_wp2_with (go_at_call 26; refine (mayE_any s _ hs hG hM).mono ?_; rintro e w' ⟨rfl, hB⟩)
  go_ret
  exact ⟨rfl, hB⟩
end Go.Proofs.YteelccgaemmmpaaDoor
