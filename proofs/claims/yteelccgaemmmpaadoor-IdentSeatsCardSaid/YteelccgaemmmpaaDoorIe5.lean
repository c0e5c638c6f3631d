/- IdentSeats: the walk. -/
import Derived.Test.YteelccgaemmmpaaDoorIe4
namespace Go.Proofs.YteelccgaemmmpaaDoor
open Go.RowKit
set_option linter.unusedVariables false
set_option linter.unusedSimpArgs false

theorem cut_to (w0 : World) (v : Value) (l : List Int) (i : Nat) (hv : RdS w0 v l) (hi : i ≤ l.length) :
    ∃ v', RdS w0 v' (l.take i) ∧ ∀ W, (Instr.slice 27 v none (some (.int .i64 (i : Int))) none).run Tryd.prog W = .ok v' W := by
  obtain ⟨i0, hi0, hz0, hz1, hz2⟩ := info_parts info_int
  have ht' : Tryd.prog.underlying 27 = some (.slice (Tryd.prog.elem 27)) := by simp [Program.elem, Tryd.underlying27]
  have he : Tryd.prog.elem 27 = 3 := by simp [Program.elem, Tryd.underlying27]
  obtain ⟨A, c, rfl, h1, h2, h3⟩ := hv
  have hrun : ∀ W, (Instr.slice 27 (.slice (A.map fun p => (⟨p.1, p.2, none⟩ : Addr)) l.length c) none (some (.int .i64 (i : Int))) none).run Tryd.prog W = .ok (sliced (A.map fun p => (⟨p.1, p.2, none⟩ : Addr)) 0 i c 1) W := fun W => by
    rw [run_slice_h W 27 _ l.length c ht' .i64 (i : Int) (by omega) (by omega), he]
    have hz : (Go.sizeOf 3).run Tryd.prog W = .ok 1 W := by simp [Go.sizeOf, typeInfo, hi0, hz1]
    rw [hz]
    rfl
  refine ⟨_, ?_, hrun⟩
  have hl : (l.take i).length = i := by rw [List.length_take]; omega
  have hsl : sliced (A.map fun p => (⟨p.1, p.2, none⟩ : Addr)) 0 i c 1 = .slice (A.map fun p => ⟨p.1, p.2, none⟩) (l.take i).length c := by
    rw [hl]
    unfold sliced
    cases A with
    | none => simp
    | some q => simp [add_lit]
  rw [hsl]
  refine ⟨A, c, rfl, by omega, h2, fun p hp k f hf => h3 p hp k f ?_⟩
  rw [List.getElem?_take] at hf
  split at hf
  · exact hf
  · cases hf
theorem RdT.lit (W : World) (T : TypeId) (l : List ByteArray) : RdT (W.alloc (.cells (l.map Value.string).toArray T)) W.heap.size l := fun k x hx => by
  rw [cell_of_row _ _ _ _ _ _ (heap_alloc_new W _)]
  simp [hx]
set_option maxRecDepth 100000 in
set_option maxHeartbeats 4000000 in
theorem lists_any (l0 : List Int) (s : ByteArray) (v0 : Value) (w : World) (hG : GW w) (hv0 : RdS w v0 l0) (hml : l0.length ≤ maxLen) : Calls Tryd.prog 4 #[v0, .string s] w fun e w' => e = .returned (.bool true) ∧ Below w.heap.size w w' := by
  have HG := Lib.hid hG
  unfold maxLen at hml
  obtain ⟨S, m, hS1, hS2, am1, am2, am3, hsS⟩ := cut_min s 300
  replace am1 : min (s.size : Int) 300 = (m : Int) := am1
  replace am2 : (if (300 : Int) < (s.size : Int) then (300 : Int) else (s.size : Int)) = (m : Int) := am2
  have hsS' := fun W => hsS Tryd.prog 9 W Tryd.underlying9
  obtain ⟨S2, m2, hS21, hS22, bm1, bm2, bm3, hsS2⟩ := cut_min S 2
  replace bm1 : min (S.size : Int) 2 = (m2 : Int) := bm1
  replace bm2 : (if (2 : Int) < (S.size : Int) then (2 : Int) else (S.size : Int)) = (m2 : Int) := bm2
  have hsS2' := fun W => hsS2 Tryd.prog 9 W Tryd.underlying9
  obtain ⟨n, hn⟩ : ∃ n : Nat, n = min l0.length 80 := ⟨_, rfl⟩
  have hni : (if (80 : Int) < (l0.length : Int) then (80 : Int) else (l0.length : Int)) = (n : Int) := by split <;> omega
  have hni2 : min (l0.length : Int) 80 = (n : Int) := by omega
  obtain ⟨v1, hv1, hrv⟩ := cut_to w v0 l0 n hv0 (by omega)
  obtain ⟨l, hl⟩ : ∃ l, l = l0.take n := ⟨_, rfl⟩
  have hll : l.length = n := by rw [hl, List.length_take]; omega
  have hn80 : n ≤ 80 := by omega
  rw [← hl] at hv1
  have pm : (0 : Int) ≤ (m : Int) := by omega
  have pm2 : (m : Int) ≤ (s.size : Int) := by omega
  have qm : (0 : Int) ≤ (m2 : Int) := by omega
  have qm2 : (m2 : Int) ≤ (S.size : Int) := by omega
  have pn : (0 : Int) ≤ (n : Int) := by omega
  have pn2 : (n : Int) ≤ (l0.length : Int) := by omega
  obtain ⟨a0, c0, rfl, hc0, _⟩ := hv0.opn
  have HV := Lib.hid hv1
  obtain ⟨a1, c1, rfl, hc1, hcl⟩ := hv1.opn
  have HS := Lib.hid hS2
  have HS2 := Lib.hid hS22
  have HLL := Lib.hid hll
  have hlb : (l.length : Int) ≤ 80 := by omega
  have HCL := Lib.hid hcl
  clear hcl hS2 hS22 hG hv0 hv1 hl hn hsS hsS2 hll
  go_enter Tryd.func4, Tryd.ntmps4
  go_wp2_with fail
  go_loopw [5] (fun i wr => ∃ k : Nat, k ≤ l.length ∧ i = .int .i64 k ∧ Hid (Below w.heap.size w wr)) (fun i _ => l.length - (intOf i).toNat)
  case atStart => exact ⟨0, Nat.zero_le _, rfl, Below.refl _ _⟩
  case round =>
    obtain ⟨k, hk, rfl, HB⟩ := hrel
    by_cases hlt : k < l.length
    · obtain ⟨b, o, rfl, cc⟩ := HCL.out k l[k] (List.getElem?_eq_getElem hlt)
      replace cc := keepC HB.out cc
      have i0 : (0 : Int) ≤ (k : Int) := by omega
      have i1 : (k : Int) < (l.length : Int) := by omega
      obtain ⟨x, hx⟩ : ∃ x, x = l[k] := ⟨_, rfl⟩
      rw [← hx] at cc
      have Q1 := Lib.hid (label_any x)
      have Q2 := Lib.hid (rlabel_any x)
      obtain ⟨L, hL⟩ : ∃ L : ByteArray, L = ⟨(labL x).toArray⟩ := ⟨_, rfl⟩
      rw [← hL] at Q1 Q2
      have n1 : (L.toList != L.toList) = false := by simp
      clear hL hx
      go_wp2_with fail
      go_region_held3 (fun W => W.cell? ⟨b, o + k, none⟩ = some (.int .i64 x) ∧ Below w.heap.size w W) (first | assumption | (exact ⟨cc, HB.out⟩) | (exact ⟨cc, HB.out.drew⟩) | (exact ⟨keepC hBs (‹_ ∧ Below w.heap.size w _›).1, bstep (‹_ ∧ Below w.heap.size w _›).2 hBs⟩)) (first | (go_at_call 14; refine (Q1.out _).mono ?_; rintro e w5 ⟨rfl, hBs⟩) | (go_at_call 15; refine (Q2.out _).mono ?_; rintro e w5 ⟨rfl, hBs⟩))
      all_goals
        have hS := Lib.hid (‹_ ∧ Below w.heap.size w _›).2
        go_wp2_with fail
        go_roundw
        case rel => exact ⟨k + 1, by omega, by go_num, hS.out⟩
        case measure => simp [intOf]; omega
    · obtain rfl : k = l.length := by omega
      have hL80 : l.length ≤ 1000 := by have := HLL.out; omega
      have Q1 := Lib.hid (fun W hB => labels_any l _ W (HV.out.below hB) hL80)
      have Q2 := Lib.hid (fun W hB => rlabels_any l _ W (HV.out.below hB) (Nat.le_trans hL80 (by decide)))
      have htl : (labsL l).length ≤ 240 := by have := labsL_len l; have := HLL.out; omega
      obtain ⟨T, hT⟩ : ∃ T : ByteArray, T = ⟨(labsL l).toArray⟩ := ⟨_, rfl⟩
      have hTs : T.size ≤ 240 := by rw [← size_toList, hT]; exact htl
      rw [← hT] at Q1 Q2
      have n1 : (T.toList != T.toList) = false := by simp
      clear hT htl
      go_wp2_with fail
      go_region_with ((go_at_call 16; refine (Q1.out _ (by first | exact HB.out | exact HB.out.drew | exact below_drewN HB.out _)).mono ?_; rintro e w5 ⟨rfl, hBs⟩))
      all_goals
        have HRT := Lib.hid (RdT.lit w5 9 [S, T, S2])
        have HB8 := Lib.hid (bstep (bstep HB.out (show Below wr.heap.size wr w5 from ⟨hBs.os, hBs.tape, hBs.output, hBs.size, hBs.block⟩)) (below_alloc1 w5 (.cells ([S, T, S2].map Value.string).toArray 9)))
        rw [show ([S, T, S2].map Value.string).toArray = #[Value.string S, .string T, .string S2] from rfl] at HRT HB8
        generalize w5.alloc (.cells #[Value.string S, .string T, .string S2] 9) = wn at *
        generalize w5.heap.size = g at *
        clear hBs HB Q1
        have c1' := HRT.out 1 T rfl
        go_wp2_with fail
        go_region_held3 (fun W => W.cell? ⟨g, 1, none⟩ = some (.string T) ∧ Below wn.heap.size wn W) (first | assumption | (exact ⟨c1', Below.refl _ _⟩) | (exact ⟨c1', (Below.refl _ _).drew⟩) | (exact ⟨keepC hBs (‹_ ∧ Below wn.heap.size wn _›).1, bstep (‹_ ∧ Below wn.heap.size wn _›).2 hBs⟩)) ((go_at_call 17; refine (Q2.out _ (bstep HB8.out (‹_ ∧ Below wn.heap.size wn _›).2)).mono ?_; rintro e w6 ⟨rfl, hBs⟩))
        have hS := Lib.hid (‹_ ∧ Below wn.heap.size wn _›).2
        have HZ : Hid (∀ (k : Nat) (X : ByteArray), [S, T, S2][k]? = some X → X.size ≤ 1000) := fun k X hX => by
          have := List.mem_of_getElem? hX
          simp only [List.mem_cons, List.not_mem_nil, or_false] at this
          rcases this with rfl | rfl | rfl <;> omega
        have HRT2 := Lib.hid (HRT.out.below hS.out)
        have HB9 := Lib.hid (bstep HB8.out hS.out)
        clear hBs HRT HB8 hS c1' Q2
        go_wp2_with fail
        go_loopw [7] (fun i wr => ∃ k : Nat, k ≤ 3 ∧ i = .int .i64 k ∧ Hid (RdT wr g [S, T, S2]) ∧ Hid (Below w.heap.size w wr)) (fun i _ => 3 - (intOf i).toNat)
        case atStart => exact ⟨0, Nat.zero_le _, rfl, HRT2.out, HB9.out⟩
        case round =>
          clear HRT2 HB9
          obtain ⟨k, hk, rfl, HR, HB⟩ := hrel
          by_cases hlt : k < 3
          · obtain ⟨X, hX⟩ : ∃ X, ([S, T, S2] : List ByteArray)[k]? = some X := ⟨_, List.getElem?_eq_getElem (show k < ([S, T, S2] : List ByteArray).length from hlt)⟩
            have hXs := HZ.out k X hX
            have z1 := HR.out k X hX
            have i0 : (0 : Int) ≤ (k : Int) := by omega
            have i1 : (k : Int) < 3 := by omega
            obtain ⟨R, hR⟩ : ∃ R, R = seatsO X.data.toList := ⟨_, rfl⟩
            obtain ⟨x2, hx2⟩ : ∃ x, x = seatV X.data.toList := ⟨_, rfl⟩
            obtain ⟨x3, hx3⟩ : ∃ x, x = seatB X.data.toList := ⟨_, rfl⟩
            have Q1 := Lib.hid (fun W hM => seats_any X W hXs hM)
            have Q2 := Lib.hid (fun W => rseats_any X W hXs)
            have Q3 := Lib.hid (fun W => seat_any X W)
            have Q4 := Lib.hid (fun W => rseat_any X W)
            rw [← hR] at Q1 Q2
            rw [← hx2, ← hx3] at Q3 Q4
            obtain ⟨x1, hx1⟩ : ∃ x, x = R.isSome := ⟨_, rfl⟩
            rw [← hx1] at Q1 Q2
            obtain ⟨RL, hRL⟩ : ∃ RL, RL = R.getD [] := ⟨_, rfl⟩
            rw [← hRL] at Q1 Q2
            have hRLl : RL.length ≤ maxLen := by
              rw [hRL]
              cases hc : seatsO X.data.toList with
              | none => rw [hR, hc]; decide
              | some q =>
                rw [hR, hc]
                obtain ⟨h1, h2⟩ := labs_seats hc
                have h3 := labs_ris_len h1
                rw [h2, size_toList] at h3
                show q.length ≤ maxLen
                unfold maxLen
                omega
            have m1 : (x1 != x1) = false := by simp
            have m2 : (x2 != x2) = false := by simp
            have m3 : (x3 != x3) = false := by simp
            have HRLl := Lib.hid hRLl
            clear hX hXs hx1 hx2 hx3 hR hRL hRLl
            go_wp2_with fail
            refine (Q1.out _ (HG.out.below HB.out).m).mono ?_
            rintro e w1 ⟨va, rfl, hra, hB1⟩
            have z1 := keepC hB1 z1
            have HR1 := Lib.hid (HR.out.below hB1)
            have HB1 := Lib.hid (bstep HB.out hB1)
            have HA := Lib.hid hra
            clear hB1 HB HR Q1 hra
            go_wp2_with fail
            refine (Q2.out _).mono ?_
            rintro e w2 ⟨vb, rfl, hrb, hB2⟩
            have z1 := keepC hB2 z1
            have HR2 := Lib.hid (HR1.out.below hB2)
            have HA2 := Lib.hid (HA.out.below hB2)
            have HB2 := Lib.hid (bstep HB1.out hB2)
            have HBB := Lib.hid hrb
            clear hB2 HB1 HR1 Q2 hrb HA
            go_wp2_with fail
            refine (Q3.out _).mono ?_
            rintro e w3 ⟨rfl, hB3⟩
            have z1 := keepC hB3 z1
            have HR3 := Lib.hid (HR2.out.below hB3)
            have HA3 := Lib.hid (HA2.out.below hB3)
            have HBB3 := Lib.hid (HBB.out.below hB3)
            have HB3 := Lib.hid (bstep HB2.out hB3)
            clear hB3 HB2 HR2 Q3 HA2 HBB
            go_wp2_with fail
            refine (Q4.out _).mono ?_
            rintro e w4 ⟨rfl, hB4⟩
            have HR4 := Lib.hid (HR3.out.below hB4)
            have HA4 := Lib.hid (HA3.out.below hB4)
            have HBB4 := Lib.hid (HBB3.out.below hB4)
            have HB4 := Lib.hid (bstep HB3.out hB4)
            clear hB4 HB3 HR3 Q4 HA3 HBB3
            go_wp2_with fail
            have q := ints_any RL RL va vb w4 HA4.out HBB4.out HRLl.out
            rw [show decide (RL = RL) = true from decide_eq_true rfl] at q
            refine q.mono ?_
            rintro e w5 ⟨rfl, hB5⟩
            have HR5 := Lib.hid (HR4.out.below hB5)
            have HB5 := Lib.hid (bstep HB4.out hB5)
            clear hB5 HB4 HR4 q HA4 HBB4
            go_wp2_with fail
            go_roundw
            case rel => exact ⟨k + 1, by omega, by go_num, HR5.out, HB5.out⟩
            case measure => simp [intOf]; omega
          · obtain rfl : k = 3 := by omega
            go_wp2_with fail
            refine (works_any _ (HG.out.below HB.out)).mono ?_
            rintro e w9 ⟨rfl, hB9⟩
            go_wp2_with fail
            go_ret
            exact ⟨rfl, bstep HB.out hB9⟩
end Go.Proofs.YteelccgaemmmpaaDoor
