/- FixedBack: a round of the inner loop. Printed by gen/fz.py -/
import Derived.Test.YtbnnemiiodhjbaaDoorFz2
namespace Go.Proofs.YtbnnemiiodhjbaaDoor
open Go.RowKit
set_option linter.unusedVariables false
set_option linter.unusedSimpArgs false

set_option maxRecDepth 100000 in
set_option maxHeartbeats 4000000 in
theorem inn_out2 (w wr : World) (l : List Th) (a1 : Option Addr) (c1 : Nat) (A : Option (Nat × Nat)) (cb : Nat) (vp dv gv kv : Value) (g p0 p1 p E : Nat) (Q : ByteArray) (D : List UInt8) (oth : World → Prop) (Q0 : Exit → Act → World → Prop) (u : Nat → Value) (j : Nat)
    (HEV : Hid (EnvF w l a1 D E Q)) (HRL : Hid (RelF w l vp g p0 p1 p Q oth j wr)) (hF : FrI u a1 l.length c1 (.slice (A.map fun p => ⟨p.1, p.2, none⟩) D.length cb) vp dv gv kv p E j) (hlj : j < l.length) (hjE : offT l j ≤ E) (hg : g ≠ p) (hp : w.heap.size ≤ p) (hoth : ∀ w1 w2 : World, oth w1 → w1.grownBy w2 (some p) → oth w2) (hw : l[j].wd % 5 = 2) (hin : E < offT l (j + 1)) (hret : ∀ (a' : Act) (W : World), WRet w a' W → Q0 .ret a' W) : Code.wp Tryd.prog bodyI (Exit.then (fun a' w'' => WI w l a1 c1 (.slice (A.map fun p => ⟨p.1, p.2, none⟩) D.length cb) vp dv gv kv g p0 p1 p E Q oth a' w'' ∧ muI l.length a' w'' < muI l.length (frame u) wr) Q0) (frame u) wr := by
  obtain ⟨k0, k1, k2, k3, k4⟩ := HEV.out.ok l[j] (List.getElem_mem hlj)
  obtain ⟨b, o, ha1, y0, y1, y2⟩ := HEV.out.cl j l[j] (List.getElem?_eq_getElem hlj)
  subst ha1
  have HON := offT_succ hlj
  have hNle : offT l (j + 1) ≤ D.length := by rw [HEV.out.dd]; exact offT_le (by omega)
  have hlast : j + 1 = l.length → offT l (j + 1) = D.length := fun e => by rw [e, offT_all, HEV.out.dd]
  have hDl : D.length ≤ 7680 := by
    rw [HEV.out.dd]
    have := flatT_len l
    have := HEV.out.len
    omega
  have hEl := HEV.out.El
  have hlen := HEV.out.len
  have HIN := Lib.hid (fun (q : ByteArray) (hq : q.data.toList = Q.data.toList.drop (offT l j)) (hE : offT l (j + 1) ≤ E) => ahead_in hlj HEV.out.qq q hq hE)
  have HOUT := Lib.hid (fun (q : ByteArray) (hq : q.data.toList = Q.data.toList.drop (offT l j)) (hE : E < offT l (j + 1)) => ahead_out hlj HEV.out.qq q hq hE hjE)
  have hQs : Q.size = E := by rw [← size_list', HEV.out.qq, List.length_take, ← HEV.out.dd]; omega
  obtain ⟨x, hx⟩ : ∃ x, x = l[j] := ⟨_, rfl⟩
  rw [← hx] at y0 y1 y2 k0 k1 k2 k3 k4 HON HIN HOUT hw
  obtain ⟨wd, nn, s⟩ := x
  dsimp only at y0 y1 y2 k0 k1 k2 k3 k4 hw
  rcases own_cells HRL.out.P with ⟨_, h0⟩ | ⟨gp, cp, hvp, _, _, hcl⟩
  · omega
  subst hvp
  have hgne : gp ≠ p := fun e => by
    have z := hcl 0 _ (placeC_at l l.length 0 (by omega))
    rw [e, HRL.out.R.r.c0] at z
    cases z
  have x0 := hcl j _ (placeC_at l l.length j hlj)
  have HX1 : Hid (∀ h : j + 1 < l.length, wr.cell? ⟨gp, j + 1, none⟩ = some (.int .i64 (offT l (j + 1) : Int))) := fun h => hcl (j + 1) _ (placeC_at l l.length (j + 1) h)
  have i0 : (0 : Int) ≤ (j : Int) := by omega
  have i1 : (j : Int) < (l.length : Int) := by omega
  have HY1 := Lib.hid y1
  have HY2 := Lib.hid y2
  replace y0 := keepC HRL.out.B y0
  obtain ⟨q, hq⟩ : ∃ q, q = dropB Q (offT l j) := ⟨_, rfl⟩
  have hql : q.data.toList = Q.data.toList.drop (offT l j) := by rw [hq, dropB_list]
  have hqs : q.size = E - offT l j := by rw [← size_list', hql, List.length_drop, size_list', hQs]
  have hdd : ∀ k, dropB q k = dropB Q (offT l j + k) := fun k => by rw [hq]; exact dropB_drop Q (offT l j) k
  have hRR := HRL.out.R
  rw [← hq] at hRR
  obtain ⟨O, hO⟩ : ∃ O, O = offT l j := ⟨_, rfl⟩
  obtain ⟨N, hN⟩ : ∃ N, N = offT l (j + 1) := ⟨_, rfl⟩
  rw [← hO] at hRR hjE HON hqs hdd HIN HOUT hql x0
  rw [← hN] at HON hNle hlast HIN HOUT HX1 hin
  have HR := Lib.hid hRR
  have HOe := Lib.hid hO
  have HNe := Lib.hid hN
  have HQL := Lib.hid hql
  have HQS := Lib.hid hqs
  have HDD := Lib.hid hdd
  have HHON := Lib.hid HON
  have HQs := Lib.hid hQs
  have HLA := Lib.hid hlast
  have HGN := Lib.hid hgne
  have hOb : (O : Int) ≤ 7680 := by omega
  have hNb : (N : Int) ≤ 7680 := by omega
  have hEb2 : (E : Int) ≤ 7680 := by omega
  have hlb : (l.length : Int) ≤ 30 := by omega
  obtain ⟨s0, s5, s6, s8, s9, s10, s11, s12, s13⟩ := hF
  clear hx hq hql hqs hdd hO hN HON hcl hgne y1 y2 hQs hlast hRR
  have hb : thB ⟨wd, nn, s⟩ = beB (2 ^ 2) nn.toNat := by unfold thB; rw [if_neg (by show ¬ wd % 5 = 4; omega), show (wd % 5).toNat = 2 by omega]
  have hsh : IntKind.i64.wrap 4 = 4 := by decide
  have qn := num_any 2 (by decide) HRL.out.B hp HR.out
  obtain ⟨hR, hM⟩ := HOUT.out q HQL.out hin
  rw [hb] at hR hM
  rw [beB_len'] at hM
  obtain ⟨c1', c2, c3⟩ := num_out q (2 ^ 2) (by rw [HQS.out]; exact hM)
  rw [c1', c2, c3] at qn
  have HQN := Lib.hid qn
  have hinI : (E : Int) < (N : Int) := by omega
  clear qn hR hM c1' c2 c3 hb
  have HMU : Hid (muI l.length (frame u) wr = l.length - j) := by
    show l.length - (intOf ((frame u).tmps.getD 13 undef)).toNat = _
    rw [show (frame u).tmps.getD 13 undef = u 13 from rfl, s13]
    simp [intOf]
  rw [HMU.out]
  rw [frame_lit]
  simp only [s0, s5, s6, s8, s9, s10, s11, s12, s13]
  conv => arg 2; whnf
  clear s0 s5 s6 s8 s9 s10 s11 s12 s13
  by_cases hla : j + 1 < l.length
  all_goals
    first
      | (have x1 := HX1.out hla; have j1 : (j : Int) + 1 < (l.length : Int) := by omega)
      | (have j1 : (l.length : Int) ≤ (j : Int) + 1 := by omega
         obtain rfl : N = D.length := HLA.out (by omega))
    go_wp2_with fail
    refine HQN.out.mono ?_
    rintro e w2 ⟨v2, rfl, he2, hl2, hr2, hg2, hB2⟩
    replace he2 : ErrIs w2 v2 3 (O : Int) := he2
    have hr3 : Rdr w2 p q (O : Int) := by
      rw [dropB_zero] at hr2
      simpa using hr2
    have x2 := cell_other x0 hg2 HGN.out
    have HE2 := Lib.hid he2
    have HR3 := Lib.hid hr3
    have HB2 := Lib.hid hB2
    clear he2 hl2 hr2 hg2 hB2 hr3 HR HQN x0
    go_wp2_with fail
    go_region_held3 (fun W => W.cell? ⟨gp, j, none⟩ = some (.int .i64 (O : Int)) ∧ Below w2.heap.size w2 W) (first | assumption | (exact ⟨x2, Below.refl _ _⟩) | (exact ⟨x2, (Below.refl _ _).drew⟩) | (exact ⟨keepC hBs (‹_ ∧ Below w2.heap.size w2 _›).1, trans' (‹_ ∧ Below w2.heap.size w2 _›).2 hBs⟩)) (first | (go_at_call 18; refine (is_any _ 3 (O : Int) _ (HE2.out.keep (‹_ ∧ Below w2.heap.size w2 _›).2) (HEV.out.et.below (trans' HB2.out (‹_ ∧ Below w2.heap.size w2 _›).2))).mono ?_; rintro e w5 ⟨rfl, hBs⟩) | (go_at_call 19; refine (Place_any _ _ _ _ (HR3.out.keep (‹_ ∧ Below w2.heap.size w2 _›).2).r).mono ?_; rintro e w5 ⟨rfl, rfl⟩))
    all_goals
      go_wp2_with fail
      unfold WRet
      exact ⟨rfl, rfl, trans' HB2.out (by first | exact (‹_ ∧ Below w2.heap.size w2 _›).2 | assumption)⟩
set_option maxRecDepth 100000 in
set_option maxHeartbeats 4000000 in
theorem inn_out3 (w wr : World) (l : List Th) (a1 : Option Addr) (c1 : Nat) (A : Option (Nat × Nat)) (cb : Nat) (vp dv gv kv : Value) (g p0 p1 p E : Nat) (Q : ByteArray) (D : List UInt8) (oth : World → Prop) (Q0 : Exit → Act → World → Prop) (u : Nat → Value) (j : Nat)
    (HEV : Hid (EnvF w l a1 D E Q)) (HRL : Hid (RelF w l vp g p0 p1 p Q oth j wr)) (hF : FrI u a1 l.length c1 (.slice (A.map fun p => ⟨p.1, p.2, none⟩) D.length cb) vp dv gv kv p E j) (hlj : j < l.length) (hjE : offT l j ≤ E) (hg : g ≠ p) (hp : w.heap.size ≤ p) (hoth : ∀ w1 w2 : World, oth w1 → w1.grownBy w2 (some p) → oth w2) (hw : l[j].wd % 5 = 3) (hin : E < offT l (j + 1)) (hret : ∀ (a' : Act) (W : World), WRet w a' W → Q0 .ret a' W) : Code.wp Tryd.prog bodyI (Exit.then (fun a' w'' => WI w l a1 c1 (.slice (A.map fun p => ⟨p.1, p.2, none⟩) D.length cb) vp dv gv kv g p0 p1 p E Q oth a' w'' ∧ muI l.length a' w'' < muI l.length (frame u) wr) Q0) (frame u) wr := by
  obtain ⟨k0, k1, k2, k3, k4⟩ := HEV.out.ok l[j] (List.getElem_mem hlj)
  obtain ⟨b, o, ha1, y0, y1, y2⟩ := HEV.out.cl j l[j] (List.getElem?_eq_getElem hlj)
  subst ha1
  have HON := offT_succ hlj
  have hNle : offT l (j + 1) ≤ D.length := by rw [HEV.out.dd]; exact offT_le (by omega)
  have hlast : j + 1 = l.length → offT l (j + 1) = D.length := fun e => by rw [e, offT_all, HEV.out.dd]
  have hDl : D.length ≤ 7680 := by
    rw [HEV.out.dd]
    have := flatT_len l
    have := HEV.out.len
    omega
  have hEl := HEV.out.El
  have hlen := HEV.out.len
  have HIN := Lib.hid (fun (q : ByteArray) (hq : q.data.toList = Q.data.toList.drop (offT l j)) (hE : offT l (j + 1) ≤ E) => ahead_in hlj HEV.out.qq q hq hE)
  have HOUT := Lib.hid (fun (q : ByteArray) (hq : q.data.toList = Q.data.toList.drop (offT l j)) (hE : E < offT l (j + 1)) => ahead_out hlj HEV.out.qq q hq hE hjE)
  have hQs : Q.size = E := by rw [← size_list', HEV.out.qq, List.length_take, ← HEV.out.dd]; omega
  obtain ⟨x, hx⟩ : ∃ x, x = l[j] := ⟨_, rfl⟩
  rw [← hx] at y0 y1 y2 k0 k1 k2 k3 k4 HON HIN HOUT hw
  obtain ⟨wd, nn, s⟩ := x
  dsimp only at y0 y1 y2 k0 k1 k2 k3 k4 hw
  rcases own_cells HRL.out.P with ⟨_, h0⟩ | ⟨gp, cp, hvp, _, _, hcl⟩
  · omega
  subst hvp
  have hgne : gp ≠ p := fun e => by
    have z := hcl 0 _ (placeC_at l l.length 0 (by omega))
    rw [e, HRL.out.R.r.c0] at z
    cases z
  have x0 := hcl j _ (placeC_at l l.length j hlj)
  have HX1 : Hid (∀ h : j + 1 < l.length, wr.cell? ⟨gp, j + 1, none⟩ = some (.int .i64 (offT l (j + 1) : Int))) := fun h => hcl (j + 1) _ (placeC_at l l.length (j + 1) h)
  have i0 : (0 : Int) ≤ (j : Int) := by omega
  have i1 : (j : Int) < (l.length : Int) := by omega
  have HY1 := Lib.hid y1
  have HY2 := Lib.hid y2
  replace y0 := keepC HRL.out.B y0
  obtain ⟨q, hq⟩ : ∃ q, q = dropB Q (offT l j) := ⟨_, rfl⟩
  have hql : q.data.toList = Q.data.toList.drop (offT l j) := by rw [hq, dropB_list]
  have hqs : q.size = E - offT l j := by rw [← size_list', hql, List.length_drop, size_list', hQs]
  have hdd : ∀ k, dropB q k = dropB Q (offT l j + k) := fun k => by rw [hq]; exact dropB_drop Q (offT l j) k
  have hRR := HRL.out.R
  rw [← hq] at hRR
  obtain ⟨O, hO⟩ : ∃ O, O = offT l j := ⟨_, rfl⟩
  obtain ⟨N, hN⟩ : ∃ N, N = offT l (j + 1) := ⟨_, rfl⟩
  rw [← hO] at hRR hjE HON hqs hdd HIN HOUT hql x0
  rw [← hN] at HON hNle hlast HIN HOUT HX1 hin
  have HR := Lib.hid hRR
  have HOe := Lib.hid hO
  have HNe := Lib.hid hN
  have HQL := Lib.hid hql
  have HQS := Lib.hid hqs
  have HDD := Lib.hid hdd
  have HHON := Lib.hid HON
  have HQs := Lib.hid hQs
  have HLA := Lib.hid hlast
  have HGN := Lib.hid hgne
  have hOb : (O : Int) ≤ 7680 := by omega
  have hNb : (N : Int) ≤ 7680 := by omega
  have hEb2 : (E : Int) ≤ 7680 := by omega
  have hlb : (l.length : Int) ≤ 30 := by omega
  obtain ⟨s0, s5, s6, s8, s9, s10, s11, s12, s13⟩ := hF
  clear hx hq hql hqs hdd hO hN HON hcl hgne y1 y2 hQs hlast hRR
  have hb : thB ⟨wd, nn, s⟩ = beB (2 ^ 3) nn.toNat := by unfold thB; rw [if_neg (by show ¬ wd % 5 = 4; omega), show (wd % 5).toNat = 3 by omega]
  have hsh : IntKind.i64.wrap 8 = 8 := by decide
  have qn := num_any 3 (by decide) HRL.out.B hp HR.out
  obtain ⟨hR, hM⟩ := HOUT.out q HQL.out hin
  rw [hb] at hR hM
  rw [beB_len'] at hM
  obtain ⟨c1', c2, c3⟩ := num_out q (2 ^ 3) (by rw [HQS.out]; exact hM)
  rw [c1', c2, c3] at qn
  have HQN := Lib.hid qn
  have hinI : (E : Int) < (N : Int) := by omega
  clear qn hR hM c1' c2 c3 hb
  have HMU : Hid (muI l.length (frame u) wr = l.length - j) := by
    show l.length - (intOf ((frame u).tmps.getD 13 undef)).toNat = _
    rw [show (frame u).tmps.getD 13 undef = u 13 from rfl, s13]
    simp [intOf]
  rw [HMU.out]
  rw [frame_lit]
  simp only [s0, s5, s6, s8, s9, s10, s11, s12, s13]
  conv => arg 2; whnf
  clear s0 s5 s6 s8 s9 s10 s11 s12 s13
  by_cases hla : j + 1 < l.length
  all_goals
    first
      | (have x1 := HX1.out hla; have j1 : (j : Int) + 1 < (l.length : Int) := by omega)
      | (have j1 : (l.length : Int) ≤ (j : Int) + 1 := by omega
         obtain rfl : N = D.length := HLA.out (by omega))
    go_wp2_with fail
    refine HQN.out.mono ?_
    rintro e w2 ⟨v2, rfl, he2, hl2, hr2, hg2, hB2⟩
    replace he2 : ErrIs w2 v2 3 (O : Int) := he2
    have hr3 : Rdr w2 p q (O : Int) := by
      rw [dropB_zero] at hr2
      simpa using hr2
    have x2 := cell_other x0 hg2 HGN.out
    have HE2 := Lib.hid he2
    have HR3 := Lib.hid hr3
    have HB2 := Lib.hid hB2
    clear he2 hl2 hr2 hg2 hB2 hr3 HR HQN x0
    go_wp2_with fail
    go_region_held3 (fun W => W.cell? ⟨gp, j, none⟩ = some (.int .i64 (O : Int)) ∧ Below w2.heap.size w2 W) (first | assumption | (exact ⟨x2, Below.refl _ _⟩) | (exact ⟨x2, (Below.refl _ _).drew⟩) | (exact ⟨keepC hBs (‹_ ∧ Below w2.heap.size w2 _›).1, trans' (‹_ ∧ Below w2.heap.size w2 _›).2 hBs⟩)) (first | (go_at_call 18; refine (is_any _ 3 (O : Int) _ (HE2.out.keep (‹_ ∧ Below w2.heap.size w2 _›).2) (HEV.out.et.below (trans' HB2.out (‹_ ∧ Below w2.heap.size w2 _›).2))).mono ?_; rintro e w5 ⟨rfl, hBs⟩) | (go_at_call 19; refine (Place_any _ _ _ _ (HR3.out.keep (‹_ ∧ Below w2.heap.size w2 _›).2).r).mono ?_; rintro e w5 ⟨rfl, rfl⟩))
    all_goals
      go_wp2_with fail
      unfold WRet
      exact ⟨rfl, rfl, trans' HB2.out (by first | exact (‹_ ∧ Below w2.heap.size w2 _›).2 | assumption)⟩
end Go.Proofs.YtbnnemiiodhjbaaDoor
