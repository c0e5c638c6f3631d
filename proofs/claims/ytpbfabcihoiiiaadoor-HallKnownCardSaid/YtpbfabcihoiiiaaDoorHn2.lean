/- The reference's Read of a hall. -/
import Derived.Test.YtpbfabcihoiiiaaDoorHn1
namespace Go.Proofs.YtpbfabcihoiiiaaDoor
open Go.RowKit
set_option linter.unusedVariables false
set_option linter.unusedSimpArgs false

/-- What the reference's Read gives. -/
def RReadP (S : List UInt8) (w : World) (e : Ending) (w' : World) : Prop :=
  ((∃ (c : Int) (t : Nat), readT 8 0 S = .inr (c, t) ∧ e = .returned (.tuple #[.agg #[.slice none 0 0], .agg #[.int .i64 c, .int .i64 (t : Nat)]])) ∨
   (∃ (rows : List HRow) (v : Value), readT 8 0 S = .inl rows ∧ e = .returned (.tuple #[.agg #[v], .agg #[.int .i64 0, .int .i64 0]]) ∧ RdH w' v rows)) ∧ Below w.heap.size w w'
structure HdQ (w wr : World) (rows : List HRow) (k : Nat) (v : Value) : Prop where
  b0 : Boxed wr w.heap.size 24 (.slice none 0 0)
  b1 : wr.heap[w.heap.size + 1]? = some (.cells #[.int .i64 0, .int .i64 0] 37 (0, 0))
  b2 : Boxed wr (w.heap.size + 2) 24 v
  own : wr.ownsRow (w.heap.size + 3) 47 2 v k (rows.flatMap rowC)
  bel : Below w.heap.size w wr
theorem HdQ.below {w w1 w2 : World} {rows : List HRow} {k : Nat} {v : Value} (h : HdQ w w1 rows k v) (hB : Below w1.heap.size w1 w2) : HdQ w w2 rows k v :=
  ⟨(hB.block _ h.b0.lt).trans h.b0, (hB.block _ (Array.getElem?_eq_some_iff.1 h.b1).1).trans h.b1, (hB.block _ h.b2.lt).trans h.b2, own_kept h.own hB, h.bel.trans (hB.mono h.bel.size)⟩
theorem HdQ.drew {w w1 : World} {rows : List HRow} {k : Nat} {v : Value} (h : HdQ w w1 rows k v) : HdQ w w1.drew rows k v := h.below (Below.refl _ _).drew
theorem HdQ.push {w wc w3 : World} {rows : List HRow} {k c c1 : Nat} {A A1 : Option Addr} {r : HRow} (h : HdQ w wc rows k (.slice A k c)) (hown : w3.ownsRow (w.heap.size + 3) 47 2 (.slice A1 (k + 1) c1) (k + 1) (rows.flatMap rowC ++ rowC r)) (hB : Below (w.heap.size + 3) wc w3) :
    HdQ w (w3.setCell ⟨w.heap.size + 2, 0, none⟩ (.slice A1 (k + 1) c1)) (rows ++ [r]) (k + 1) (.slice A1 (k + 1) c1) := by
  have q0 : Boxed w3 w.heap.size 24 (.slice none 0 0) := (hB.block _ (by omega)).trans h.b0
  have q1 := (hB.block (w.heap.size + 1) (by omega)).trans h.b1
  have q2 : Boxed w3 (w.heap.size + 2) 24 (.slice A k c) := (hB.block _ (by omega)).trans h.b2
  refine ⟨q0.other (by omega) _, row_kept q1 (grownBy_setCell' w3 (w.heap.size + 2) _) (by simp), q2.set _, ?_, (h.bel.trans (hB.mono (by omega))).setCell (p := ⟨w.heap.size + 2, 0, none⟩) (by simp) _⟩
  have e : (rows ++ [r]).flatMap rowC = rows.flatMap rowC ++ rowC r := by simp
  rw [e]
  exact ownsRow_setCell_below hown (by simp) _
theorem T_at {S : List UInt8} {a j : Nat} (hj : j < 9) (h : a + j < S.length) : ((S.drop a).take 9)[j]? = some (S.getD (a + j) 0) := by
  rw [List.getElem?_take, if_pos hj, List.getElem?_drop, List.getD_eq_getElem?_getD, List.getElem?_eq_getElem h]
  rfl
structure InQ (wo wr : World) (T : List UInt8) (j : Nat) : Prop where
  c0 : wr.cell? ⟨wo.heap.size, 0, none⟩ = some (.int .i64 (clsC T))
  c1 : wr.cell? ⟨wo.heap.size, 1, none⟩ = some (.int .u8 (mkM ((T.take (j + 1)).drop 1) : Nat))
  f0 : wr.frozen? ⟨wo.heap.size, 0, none⟩ = false
  f1 : wr.frozen? ⟨wo.heap.size, 1, none⟩ = false
  bt : ∀ i : Nat, i < 8 → wr.cell? ⟨wo.heap.size + 1, i, none⟩ = some (.int .u8 (2 ^ i : Nat))
  bel : Below wo.heap.size wo wr
  bad : badI 0 (T.take (j + 1)) = none
theorem InQ.drew {wo wr : World} {T : List UInt8} {j : Nat} (h : InQ wo wr T j) : InQ wo wr.drew T j := ⟨h.c0, h.c1, h.f0, h.f1, h.bt, h.bel.drew, h.bad⟩
theorem InQ.start (wo : World) (T : List UInt8) (d : UInt8) (x : Int) (hd : T[0]? = some d) (hx : x = (d.toNat : Int) - 48) (ho : okC 0 d = true) : InQ wo ((wo.alloc (.cells #[.int .i64 x, .int .u8 0] 47)).alloc (.cells #[.int .u8 1, .int .u8 2, .int .u8 4, .int .u8 8, .int .u8 16, .int .u8 32, .int .u8 64, .int .u8 128] 63)) T 0 := by
  have h0 := heap_alloc2_old wo (.cells #[.int .i64 x, .int .u8 0] 47) (.cells #[.int .u8 1, .int .u8 2, .int .u8 4, .int .u8 8, .int .u8 16, .int .u8 32, .int .u8 64, .int .u8 128] 63)
  have h1 := heap_alloc2_new wo (.cells #[.int .i64 x, .int .u8 0] 47) (.cells #[.int .u8 1, .int .u8 2, .int .u8 4, .int .u8 8, .int .u8 16, .int .u8 32, .int .u8 64, .int .u8 128] 63)
  have e1 : (T.take 1).drop 1 = [] := List.drop_of_length_le (by rw [List.length_take]; omega)
  refine ⟨?_, ?_, frozen_new h0 _, frozen_new h0 _, fun i hi => ?_, ((Below.refl _ _).alloc (Nat.le_refl _) _).alloc (by simp) _, bad_no hd rfl ho⟩
  · rw [cell_of_row _ _ 0 _ _ _ h0]
    unfold clsC
    rw [getD_at hd, ← hx]
    rfl
  · rw [cell_of_row _ _ 1 _ _ _ h0, e1]
    rfl
  · rw [cell_of_row _ _ i _ _ _ h1]
    match i, hi with
    | 0, _ | 1, _ | 2, _ | 3, _ | 4, _ | 5, _ | 6, _ | 7, _ => rfl
    | i + 8, h => omega

set_option maxRecDepth 100000 in
set_option maxHeartbeats 8000000 in
theorem rread_any (s : ByteArray) (w : World) (hs : s.size ≤ 140737488351232) : Calls Tryd.prog 8 #[.string s] w (RReadP s.data.toList w) := by
  have hsz : s.data.toList.length = s.size := by rw [Array.length_toList]; rfl
  go_enter Tryd.func8, Tryd.ntmps8
  go_wp2_with fail
  have HH0 : Hid (HdQ w (((w.alloc (.cells #[.slice none 0 0] 24)).alloc (.cells #[.int .i64 0, .int .i64 0] 37)).alloc (.cells #[.slice none 0 0] 24)) [] 0 (.slice none 0 0)) := by
    have q0 := ((Boxed.new w 24 (.slice none 0 0)).alloc (.cells #[.int .i64 0, .int .i64 0] 37)).alloc (.cells #[.slice none 0 0] 24)
    have q1 := heap_alloc2_old (w.alloc (.cells #[.slice none 0 0] 24)) (.cells #[.int .i64 0, .int .i64 0] 37) (.cells #[.slice none 0 0] 24)
    have q2 := Boxed.new ((w.alloc (.cells #[.slice none 0 0] 24)).alloc (.cells #[.int .i64 0, .int .i64 0] 37)) 24 (.slice none 0 0)
    simp only [World.size_alloc] at q1 q2
    exact ⟨q0, q1, q2, World.ownsRow_nil _ _ _ _, (((Below.refl _ w).alloc (Nat.le_refl _) _).alloc (by simp) _).alloc (by simp; omega) _⟩
  have HI0 := Lib.hid (RdI.start s.data.toList)
  obtain ⟨S, hS⟩ : ∃ S, S = s.data.toList := ⟨_, rfl⟩
  have hix : ∀ i : Nat, i < s.size → ∀ W, (Instr.index 9 (.string s) (.int .i64 (i : Int))).run Tryd.prog W = .ok (.int .u8 ((S.getD i 0).toNat : Int)) W := fun i hi W => by rw [hS]; exact idx_str 9 Tryd.underlying9 s i hi W
  rw [← hS] at hsz HI0 ⊢
  have HIX := Lib.hid hix
  clear hS hix
  go_loopw [5] (fun i wr => ∃ (k a : Nat) (rows : List HRow) (v : Value), k ≤ 8 ∧ a ≤ s.size ∧ a ≤ 80 ∧ i = .int .i64 a ∧ Hid (RdI S rows k a) ∧ Hid (HdQ w wr rows k v)) (fun i _ => 100 - (intOf i).toNat)
  case atStart => exact ⟨0, 0, [], _, by omega, by omega, by omega, rfl, HI0, HH0⟩
  case round =>
    clear HI0 HH0
    obtain ⟨k, a, rows, v, hk, ha, ha8, rfl, HI, HH⟩ := hrel
    obtain ⟨A, c, rfl⟩ := own_opn HH.out.own
    have ch := HH.out.b2.cell
    have fh := HH.out.b2.frozen
    have hdl : (S.drop a).length = s.size - a := by rw [List.length_drop, hsz]
    have HDL := Lib.hid hdl
    clear hdl
    by_cases hk8 : k = 8
    · subst hk8
      have HR := Lib.hid HI.out.full
      have e0 := HH.out.b0.cell
      have e0f := HH.out.b0.frozen
      have e1 : wr.cell? ⟨w.heap.size + 1, 0, none⟩ = some (.int .i64 0) := cell_of_row _ _ 0 _ _ _ HH.out.b1
      have e2 : wr.cell? ⟨w.heap.size + 1, 1, none⟩ = some (.int .i64 0) := cell_of_row _ _ 1 _ _ _ HH.out.b1
      have e1f := frozen_new HH.out.b1 0
      have e2f := frozen_new HH.out.b1 1
      go_wp2_with fail
      refine bodyPost_ret (v := .tuple #[.agg #[.slice none 0 0], .agg #[.int .i64 2, .int .i64 ((a : Nat))]]) (by simp [results, Tryd.results8, go_sem, e0, e1, e2]; try rfl) rfl ?_
      exact ⟨.inl ⟨_, _, HR.out, by first | rfl | (push_cast; rfl)⟩, by repeat (first | exact HH.out.bel | refine Below.setCell ?_ (by simp) _)⟩
    · have hk7 : k < 8 := by omega
      have hk8' : ((k : Int) == 8) = false := beq_eq_false_iff_ne.2 (by omega)
      clear hk8
      by_cases han : a < s.size
      case neg =>
        have hmin : min (a : Int) (s.size : Int) = (a : Int) := by omega
        have hnil : S.drop a = [] := List.eq_nil_of_length_eq_zero (by rw [HDL.out]; omega)
        have HR : Hid (readT 8 0 S = .inr (5, a)) := by
          have q := HI.out.fail hk7 (fun f => readT_short (by rw [hnil]; rfl) (by rw [HDL.out]; omega))
          rwa [HDL.out, show a + (s.size - a) = a by omega] at q
        have e0 := HH.out.b0.cell
        have e0f := HH.out.b0.frozen
        have e1 : wr.cell? ⟨w.heap.size + 1, 0, none⟩ = some (.int .i64 0) := cell_of_row _ _ 0 _ _ _ HH.out.b1
        have e2 : wr.cell? ⟨w.heap.size + 1, 1, none⟩ = some (.int .i64 0) := cell_of_row _ _ 1 _ _ _ HH.out.b1
        have e1f := frozen_new HH.out.b1 0
        have e2f := frozen_new HH.out.b1 1
        go_wp2_with fail
        refine bodyPost_ret (v := .tuple #[.agg #[.slice none 0 0], .agg #[.int .i64 5, .int .i64 ((a : Nat))]]) (by simp [results, Tryd.results8, go_sem, e0, e1, e2]; try rfl) rfl ?_
        exact ⟨.inl ⟨_, _, HR.out, by first | rfl | (push_cast; rfl)⟩, by repeat (first | exact HH.out.bel | refine Below.setCell ?_ (by simp) _)⟩
      have hi0 := HIX.out a han
      have hT0 := T_at (S := S) (a := a) (j := 0) (by omega) (by omega)
      rw [Nat.add_zero] at hT0
      generalize S.getD a 0 = d at hi0 hT0
      have HT0 := Lib.hid hT0
      clear hT0
      cases ho : okC 0 d with
      | false =>
        have hno := okC_no0 ho
        have HR : Hid (readT 8 0 S = .inr (5, a)) := by
          have q := HI.out.fail hk7 (fun f => readT_bad (bad_yes HT0.out rfl ho))
          rwa [Nat.add_zero] at q
        have hmin : min (a : Int) (s.size : Int) = (a : Int) := by omega
        clear ho
        by_cases h48 : (d.toNat : Int) < 48
        · clear hno
          have e0 := HH.out.b0.cell
          have e0f := HH.out.b0.frozen
          have e1 : wr.cell? ⟨w.heap.size + 1, 0, none⟩ = some (.int .i64 0) := cell_of_row _ _ 0 _ _ _ HH.out.b1
          have e2 : wr.cell? ⟨w.heap.size + 1, 1, none⟩ = some (.int .i64 0) := cell_of_row _ _ 1 _ _ _ HH.out.b1
          have e1f := frozen_new HH.out.b1 0
          have e2f := frozen_new HH.out.b1 1
          go_wp2_with fail
          refine bodyPost_ret (v := .tuple #[.agg #[.slice none 0 0], .agg #[.int .i64 5, .int .i64 ((a : Nat))]]) (by simp [results, Tryd.results8, go_sem, e0, e1, e2]; try rfl) rfl ?_
          exact ⟨.inl ⟨_, _, HR.out, by first | rfl | (push_cast; rfl)⟩, by repeat (first | exact HH.out.bel | refine Below.setCell ?_ (by simp) _)⟩
        · have h50 : (50 : Int) < (d.toNat : Int) := by omega
          clear hno
          have e0 := HH.out.b0.cell
          have e0f := HH.out.b0.frozen
          have e1 : wr.cell? ⟨w.heap.size + 1, 0, none⟩ = some (.int .i64 0) := cell_of_row _ _ 0 _ _ _ HH.out.b1
          have e2 : wr.cell? ⟨w.heap.size + 1, 1, none⟩ = some (.int .i64 0) := cell_of_row _ _ 1 _ _ _ HH.out.b1
          have e1f := frozen_new HH.out.b1 0
          have e2f := frozen_new HH.out.b1 1
          go_wp2_with fail
          refine bodyPost_ret (v := .tuple #[.agg #[.slice none 0 0], .agg #[.int .i64 5, .int .i64 ((a : Nat))]]) (by simp [results, Tryd.results8, go_sem, e0, e1, e2]; try rfl) rfl ?_
          exact ⟨.inl ⟨_, _, HR.out, by first | rfl | (push_cast; rfl)⟩, by repeat (first | exact HH.out.bel | refine Below.setCell ?_ (by simp) _)⟩
      | true =>
        obtain ⟨o1, o2⟩ := okC_zero ho
        have h48 : (48 : Int) ≤ (d.toNat : Int) := by omega
        have h50 : (d.toNat : Int) ≤ 50 := by omega
        have HO := Lib.hid ho
        clear ho o1 o2
        have hg1 : decide (s.size ≤ a) = false := decide_eq_false (by omega)
        have hg2 : decide ((d.toNat : Int) < 48) = false := decide_eq_false (by omega)
        have hg3 : decide ((50 : Int) < (d.toNat : Int)) = false := decide_eq_false (by omega)
        go_wp2_with fail
        obtain ⟨T, hT⟩ : ∃ T, T = (S.drop a).take 9 := ⟨_, rfl⟩
        obtain ⟨wo, rfl⟩ : ∃ wo : World, wo = wr := ⟨_, rfl⟩
        have HN0 : Hid (InQ wo ((wo.alloc (.cells #[.int .i64 ((d.toNat : Int) - 48), .int .u8 0] 47)).alloc (.cells #[.int .u8 1, .int .u8 2, .int .u8 4, .int .u8 8, .int .u8 16, .int .u8 32, .int .u8 64, .int .u8 128] 63)) T 0) := InQ.start wo T d _ (by rw [hT]; exact HT0.out) rfl HO.out
        have hTl : T.length = min 9 (s.size - a) := by rw [hT, List.length_take, HDL.out]
        have HTE := Lib.hid hT
        have HTL := Lib.hid hTl
        clear hT hTl hi0 HT0 HO h48 h50 ch fh hg1 hg2 hg3
        go_loopw [8] (fun i wr => ∃ j : Nat, j ≤ 8 ∧ i = .int .i64 j ∧ Hid (j + 1 ≤ T.length) ∧ Hid (InQ wo wr T j)) (fun i _ => 8 - (intOf i).toNat)
        case atStart => exact ⟨0, by omega, rfl, Lib.hid (by rw [HTL.out]; omega), HN0⟩
        case round =>
          clear HN0
          obtain ⟨j, hj, rfl, HJL, HN⟩ := hrel
          have HHi := Lib.hid (HH.out.below HN.out.bel)
          by_cases hj8 : j < 8
          · have hk3 : (a : Int) + 1 + (j : Int) = ((a + 1 + j : Nat) : Int) := by omega
            by_cases hkn : a + 1 + j < s.size
            case neg =>
              have hmin : min ((a : Int) + 1 + (j : Int)) (s.size : Int) = (s.size : Int) := by omega
              have HR : Hid (readT 8 0 S = .inr (5, s.size)) := by
                have hb := HN.out.bad
                rw [List.take_of_length_le (by rw [HTL.out]; omega), HTE.out] at hb
                have q := HI.out.fail hk7 (fun f => readT_short hb (by rw [HDL.out]; omega))
                rwa [HDL.out, show a + (s.size - a) = s.size by omega] at q
              clear hk3
              have e0 := HHi.out.b0.cell
              have e0f := HHi.out.b0.frozen
              have e1 : wr.cell? ⟨w.heap.size + 1, 0, none⟩ = some (.int .i64 0) := cell_of_row _ _ 0 _ _ _ HHi.out.b1
              have e2 : wr.cell? ⟨w.heap.size + 1, 1, none⟩ = some (.int .i64 0) := cell_of_row _ _ 1 _ _ _ HHi.out.b1
              have e1f := frozen_new HHi.out.b1 0
              have e2f := frozen_new HHi.out.b1 1
              go_wp2_with fail
              refine bodyPost_ret (v := .tuple #[.agg #[.slice none 0 0], .agg #[.int .i64 5, .int .i64 ((s.size : Nat))]]) (by simp [results, Tryd.results8, go_sem, e0, e1, e2]; try rfl) rfl ?_
              exact ⟨.inl ⟨_, _, HR.out, by first | rfl | (push_cast; rfl)⟩, by repeat (first | exact HHi.out.bel | refine Below.setCell ?_ (by simp) _)⟩
            have hi1 := HIX.out (a + 1 + j) hkn
            have hT1 : T[j + 1]? = some (S.getD (a + 1 + j) 0) := by
              rw [HTE.out, show a + 1 + j = a + (j + 1) by omega]
              exact T_at (by omega) (by omega)
            rw [← hk3] at hi1
            generalize S.getD (a + 1 + j) 0 = b at hi1 hT1
            have HTB := Lib.hid hT1
            clear hT1 hk3
            cases ho : okC (j + 1) b with
            | false =>
              obtain ⟨n35, n46⟩ := okC_no ho
              have h35 : ((b.toNat : Int) != 35) = true := by rw [bne_iff_ne]; intro e; exact n35 (UInt8.toNat.inj (by simpa using Int.ofNat.inj e))
              have h46 : ((b.toNat : Int) != 46) = true := by rw [bne_iff_ne]; intro e; exact n46 (UInt8.toNat.inj (by simpa using Int.ofNat.inj e))
              have HR : Hid (readT 8 0 S = .inr (5, a + (j + 1))) := HI.out.fail hk7 (fun f => readT_bad (by rw [← HTE.out]; exact bad_yes HTB.out HN.out.bad ho))
              have hmin : min ((a : Int) + 1 + (j : Int)) (s.size : Int) = (a : Int) + 1 + (j : Int) := by omega
              have htt : ((a + (j + 1) : Nat) : Int) = (a : Int) + 1 + (j : Int) := by omega
              have HTT := Lib.hid htt
              clear ho n35 n46 htt
              have e0 := HHi.out.b0.cell
              have e0f := HHi.out.b0.frozen
              have e1 : wr.cell? ⟨w.heap.size + 1, 0, none⟩ = some (.int .i64 0) := cell_of_row _ _ 0 _ _ _ HHi.out.b1
              have e2 : wr.cell? ⟨w.heap.size + 1, 1, none⟩ = some (.int .i64 0) := cell_of_row _ _ 1 _ _ _ HHi.out.b1
              have e1f := frozen_new HHi.out.b1 0
              have e2f := frozen_new HHi.out.b1 1
              go_wp2_with fail
              refine bodyPost_ret (v := .tuple #[.agg #[.slice none 0 0], .agg #[.int .i64 5, .int .i64 ((a : Int) + 1 + (j : Int))]]) (by simp [results, Tryd.results8, go_sem, e0, e1, e2]; try rfl) rfl ?_
              exact ⟨.inl ⟨_, _, HR.out, by rw [HTT.out]⟩, by repeat (first | exact HHi.out.bel | refine Below.setCell ?_ (by simp) _)⟩
            | true =>
              have HBA := Lib.hid (bad_no HTB.out HN.out.bad ho)
              have HMK := Lib.hid (mk_step (T := T) (j := j) HTB.out)
              have c1 := HN.out.c1
              have f1 := HN.out.f1
              have cb := HN.out.bt j hj8
              have HLL : Hid (j + 1 + 1 ≤ T.length) := Lib.hid ((List.getElem?_eq_some_iff.1 HTB.out).1)
              have hml := mk_lt (T := T) (j := j)
              have h27 : (2 : Nat) ^ j ≤ 2 ^ 7 := Nat.pow_le_pow_right (by omega) (by omega)
              generalize hmq : mkM ((T.take (j + 1)).drop 1) = mq at c1 HMK hml
              generalize hp2 : (2 : Nat) ^ j = p2 at cb hml h27 HMK
              clear hmq
              rcases okC_more ho with e | e
              · subst e
                clear ho
                go_wp2_with fail
                go_region
                go_wp2
                go_roundw
                case rel => exact ⟨j + 1, by omega, by go_num, HLL, InQ.drew ⟨by rw [World.cell?_setCell_other (h := by simp)]; exact HN.out.c0, by
                    rw [World.cell?_setCell_same (h := c1), HMK.out]
                    simp, by rw [World.frozen?_setCell]; exact HN.out.f0, by rw [World.frozen?_setCell]; exact f1, fun i hi => by rw [World.cell?_setCell_other (h := by simp)]; exact HN.out.bt i hi, HN.out.bel.setCell (by simp) _, HBA.out⟩⟩
                case measure => simp [intOf]; omega
              · subst e
                clear ho
                go_wp2_with fail
                go_roundw
                case rel => exact ⟨j + 1, by omega, by go_num, HLL, ⟨HN.out.c0, by rw [c1, HMK.out]; rfl, HN.out.f0, f1, HN.out.bt, HN.out.bel, HBA.out⟩⟩
                case measure => simp [intOf]; omega
          · obtain rfl : j = 8 := by omega
            have h9 : a + 9 ≤ s.size := by have := HJL.out; rw [HTL.out] at this; omega
            have hbad := HN.out.bad
            have g0 := HN.out.c0
            have g1 := HN.out.c1
            rw [List.take_of_length_le (by rw [HTL.out]; omega), HTE.out] at hbad
            rw [List.take_of_length_le (by rw [HTL.out]; omega)] at g1
            have HBAD := Lib.hid hbad
            generalize hM : mkM (T.drop 1) = M at g1
            have HMM : Hid (mkM (((S.drop a).take 9).drop 1) = M) := by show mkM (((S.drop a).take 9).drop 1) = M; rw [← HTE.out]; exact hM
            generalize hcj : clsC T = cj at g0
            have HRO : Hid (#[Value.int .i64 cj, Value.int .u8 (M : Nat)].toList = rowC (rowOf ((S.drop a).take 9))) := by
              show [Value.int .i64 cj, Value.int .u8 (M : Nat)] = [Value.int .i64 (clsC ((S.drop a).take 9)), Value.int .u8 ((mkM (((S.drop a).take 9).drop 1) : Nat) : Int)]
              rw [HMM.out, ← HTE.out, hcj]
            clear hM hcj hbad
            have chi := HHi.out.b2.cell
            have fhi := HHi.out.b2.frozen
            have hlts := HHi.out.b2.lt
            by_cases hend : a + 9 = s.size
            · have hendi : ¬ (a : Int) + 9 < (s.size : Int) := by omega
              have HD9 : Hid ((S.drop a).length = 9) := Lib.hid (by rw [HDL.out]; omega)
              by_cases hM0 : M = 0
              · subst hM0
                have HR : Hid (readT 8 0 S = .inr (23, a)) := HI.out.fail hk7 (fun f => readT_zero HBAD.out (by rw [HD9.out]; omega) (.inl HD9.out) HMM.out)
                have e0 := HHi.out.b0.cell
                have e0f := HHi.out.b0.frozen
                have e1 : wr.cell? ⟨w.heap.size + 1, 0, none⟩ = some (.int .i64 0) := cell_of_row _ _ 0 _ _ _ HHi.out.b1
                have e2 : wr.cell? ⟨w.heap.size + 1, 1, none⟩ = some (.int .i64 0) := cell_of_row _ _ 1 _ _ _ HHi.out.b1
                have e1f := frozen_new HHi.out.b1 0
                have e2f := frozen_new HHi.out.b1 1
                go_wp2_with fail
                refine bodyPost_ret (v := .tuple #[.agg #[.slice none 0 0], .agg #[.int .i64 23, .int .i64 ((a : Nat))]]) (by simp [results, Tryd.results8, go_sem, e0, e1, e2]; try rfl) rfl ?_
                exact ⟨.inl ⟨_, _, HR.out, by first | rfl | (push_cast; rfl)⟩, by repeat (first | exact HHi.out.bel | refine Below.setCell ?_ (by simp) _)⟩
              · have hM0i : ((M : Int) == 0) = false := beq_eq_false_iff_ne.2 (by omega)
                have HL := Lib.hid (HI.out.last hk7 HBAD.out HD9.out (by rw [HMM.out]; exact hM0))
                have hgt : (s.size : Int) < (a : Int) + 10 := by omega
                go_wp2_with (at_builtin; go_loud (refine own_append_box (w0 := wr) (w.heap.size + 3) rfl (.tmp 110) (.tmp 112) 22 47 rfl Tryd.underlying22 info_row rfl (by decide) _ _ _ #[.int .i64 cj, .int .u8 (M : Nat)] rfl (by simp [Value.oneCell']) rfl rfl HHi.out.own (Below.refl _ _) (by omega) (by omega) (by omega) ?_); intro v1 w3 hown hB3 hs3; obtain ⟨A1, c1, rfl⟩ := own_opn hown; have c3 := (hB3.cell (p := ⟨w.heap.size + 2, 0, none⟩) (by simp)).trans chi; have f3 := (hB3.frozen (p := ⟨w.heap.size + 2, 0, none⟩) (by simp)).trans fhi; have HP := Lib.hid (HHi.out.push (r := rowOf ((S.drop a).take 9)) (HRO.out ▸ hown) hB3); have y0 := (hB3.block w.heap.size (by omega)).trans HHi.out.b0; have y1 := (hB3.block (w.heap.size + 1) (by omega)).trans HHi.out.b1; have z0 := cell_of_row _ _ 0 _ _ _ y0; have z1 := cell_of_row _ _ 0 _ _ _ y1; have z2 := cell_of_row _ _ 1 _ _ _ y1; have z3 := frozen_new y0 0; have z4 := frozen_new y1 0; have z5 := frozen_new y1 1; clear hown hB3)
                have hk1 : k + 1 = (rows ++ [rowOf ((S.drop a).take 9)]).length := by rw [List.length_append, HI.out.len]; rfl
                refine bodyPost_ret (v := .tuple #[.agg #[.slice A1 (k + 1) c1], .agg #[.int .i64 0, .int .i64 0]]) (by simp [results, Tryd.results8, go_sem, z0, z1, z2]; try rfl) rfl ?_
                refine ⟨.inr ⟨_, _, HL.out.1, rfl, RdH.own (base := w.heap.size + 3) (e := 47) ?_ HL.out.2⟩, ?_⟩
                · rw [← hk1]
                  repeat (first | exact HP.out.own | refine ownsRow_setCell_below ?_ (by simp) _)
                · repeat (first | exact HP.out.bel | refine Below.setCell ?_ (by simp) _)
            · have hend' : a + 9 < s.size := by omega
              have hi9 := HIX.out (a + 9) hend'
              rw [show ((a + 9 : Nat) : Int) = (a : Int) + 9 by omega] at hi9
              have hsp : S.getD (a + 9) 0 = ((S.drop a).drop 9).getD 0 0 := by rw [List.drop_drop, List.getD_eq_getElem?_getD, List.getD_eq_getElem?_getD, List.getElem?_drop, Nat.add_zero]
              have HSP := Lib.hid hsp
              generalize S.getD (a + 9) 0 = d9 at hi9 hsp HSP
              clear hsp hend
              have hdl9 : Hid (9 < (S.drop a).length) := Lib.hid (by rw [HDL.out]; omega)
              by_cases h47 : d9 = 47
              · subst h47
                by_cases hM0 : M = 0
                · subst hM0
                  have HR : Hid (readT 8 0 S = .inr (23, a)) := HI.out.fail hk7 (fun f => readT_zero HBAD.out (by have := hdl9.out; omega) (.inr HSP.out.symm) HMM.out)
                  have e0 := HHi.out.b0.cell
                  have e0f := HHi.out.b0.frozen
                  have e1 : wr.cell? ⟨w.heap.size + 1, 0, none⟩ = some (.int .i64 0) := cell_of_row _ _ 0 _ _ _ HHi.out.b1
                  have e2 : wr.cell? ⟨w.heap.size + 1, 1, none⟩ = some (.int .i64 0) := cell_of_row _ _ 1 _ _ _ HHi.out.b1
                  have e1f := frozen_new HHi.out.b1 0
                  have e2f := frozen_new HHi.out.b1 1
                  go_wp2_with fail
                  refine bodyPost_ret (v := .tuple #[.agg #[.slice none 0 0], .agg #[.int .i64 23, .int .i64 ((a : Nat))]]) (by simp [results, Tryd.results8, go_sem, e0, e1, e2]; try rfl) rfl ?_
                  exact ⟨.inl ⟨_, _, HR.out, by first | rfl | (push_cast; rfl)⟩, by repeat (first | exact HHi.out.bel | refine Below.setCell ?_ (by simp) _)⟩
                · have hM0i : ((M : Int) == 0) = false := beq_eq_false_iff_ne.2 (by omega)
                  have HL := Lib.hid (HI.out.next hk7 HBAD.out hdl9.out HSP.out.symm (by rw [HMM.out]; exact hM0))
                  have hgt : ¬ (s.size : Int) < (a : Int) + 10 := by omega
                  go_wp2_with (at_builtin; go_loud (refine own_append_box (w0 := wr) (w.heap.size + 3) rfl (.tmp 110) (.tmp 112) 22 47 rfl Tryd.underlying22 info_row rfl (by decide) _ _ _ #[.int .i64 cj, .int .u8 (M : Nat)] rfl (by simp [Value.oneCell']) rfl rfl HHi.out.own (Below.refl _ _) (by omega) (by omega) (by omega) ?_); intro v1 w3 hown hB3 hs3; obtain ⟨A1, c1, rfl⟩ := own_opn hown; have c3 := (hB3.cell (p := ⟨w.heap.size + 2, 0, none⟩) (by simp)).trans chi; have f3 := (hB3.frozen (p := ⟨w.heap.size + 2, 0, none⟩) (by simp)).trans fhi; have HP := Lib.hid (HHi.out.push (r := rowOf ((S.drop a).take 9)) (HRO.out ▸ hown) hB3); clear hown hB3)
                  go_roundw
                  case rel => exact ⟨k + 1, a + 10, _, _, by omega, by omega, by have := HI.out.ak; omega, by go_num, HL, HP⟩
                  case measure => simp [intOf]; omega
              · have h47i : ((d9.toNat : Int) != 47) = true := by
                  rw [bne_iff_ne]
                  intro e
                  exact h47 (UInt8.toNat.inj (by simpa using Int.ofNat.inj e))
                have HR : Hid (readT 8 0 S = .inr (5, a + 9)) := HI.out.fail hk7 (fun f => readT_sep HBAD.out hdl9.out (by rw [← HSP.out]; exact h47))
                have e0 := HHi.out.b0.cell
                have e0f := HHi.out.b0.frozen
                have e1 : wr.cell? ⟨w.heap.size + 1, 0, none⟩ = some (.int .i64 0) := cell_of_row _ _ 0 _ _ _ HHi.out.b1
                have e2 : wr.cell? ⟨w.heap.size + 1, 1, none⟩ = some (.int .i64 0) := cell_of_row _ _ 1 _ _ _ HHi.out.b1
                have e1f := frozen_new HHi.out.b1 0
                have e2f := frozen_new HHi.out.b1 1
                go_wp2_with fail
                refine bodyPost_ret (v := .tuple #[.agg #[.slice none 0 0], .agg #[.int .i64 5, .int .i64 ((a : Int) + 9)]]) (by simp [results, Tryd.results8, go_sem, e0, e1, e2]; try rfl) rfl ?_
                exact ⟨.inl ⟨_, _, HR.out, by first | rfl | (push_cast; rfl)⟩, by repeat (first | exact HHi.out.bel | refine Below.setCell ?_ (by simp) _)⟩
end Go.Proofs.YtpbfabcihoiiiaaDoor
