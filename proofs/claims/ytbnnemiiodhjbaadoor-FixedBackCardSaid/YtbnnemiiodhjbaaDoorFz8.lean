/- FixedBack: the outer loop. Printed by gen/fz.py -/
import Derived.Test.YtbnnemiiodhjbaaDoorFz7
namespace Go.Proofs.YtbnnemiiodhjbaaDoor
open Go.RowKit
set_option linter.unusedVariables false
set_option linter.unusedSimpArgs false

noncomputable def bodyO : Code := ((Tryd.f7.body.map loopsIn).getD []).getD 1 .skip
structure FrO (u : Nat → Value) (a1 : Option Addr) (n c1 : Nat) (bv vp : Value) (d g k : Nat) : Prop where
  s0 : u 0 = .slice a1 n c1
  s5 : u 5 = bv
  s6 : u 6 = vp
  s8 : u 8 = .int .i64 (d : Int)
  s9 : u 9 = .pointer (some ⟨g, 0, none⟩)
  s10 : u 10 = .int .i64 (k : Int)
structure RelO (w : World) (l : List Th) (vp : Value) (g p0 p1 : Nat) (D : List UInt8) (d k : Nat) (wr : World) : Prop where
  z0 : wr.cell? ⟨g, 0, none⟩ = some (.pointer (some ⟨p0, 0, none⟩))
  z1 : wr.cell? ⟨g, 1, none⟩ = some (.pointer (some ⟨p1, 0, none⟩))
  P : wr.ownsRow w.heap.size 3 1 vp l.length (placeC l l.length)
  H0 : k = 0 → RdR wr p0 ⟨D.toArray⟩ 0
  H1 : k ≤ 1 → RdR wr p1 ⟨(D.take d).toArray⟩ 0
  B : Below w.heap.size w wr
def WO (w : World) (l : List Th) (a1 : Option Addr) (c1 : Nat) (bv vp : Value) (g p0 p1 : Nat) (D : List UInt8) (d : Nat) (a : Act) (wr : World) : Prop :=
  ∃ (u : Nat → Value) (k : Nat), a = frame u ∧ FrO u a1 l.length c1 bv vp d g k ∧ k ≤ 2 ∧ RelO w l vp g p0 p1 D d k wr
def muO (a : Act) (_ : World) : Nat := 2 - (intOf (a.tmps.getD 10 undef)).toNat
set_option maxRecDepth 100000 in
set_option maxHeartbeats 4000000 in
theorem out_round0 (w wr : World) (l : List Th) (a1 : Option Addr) (c1 : Nat) (A : Option (Nat × Nat)) (cb : Nat) (vp : Value) (g p0 p1 d : Nat) (D : List UInt8) (Q1 : Exit → Act → World → Prop) (u : Nat → Value) (Qx : ByteArray) (HEV : Hid (EnvF w l a1 D D.length Qx)) (hd : d ≤ D.length) (hg : g ≠ p0 ∧ g ≠ p1) (hp : w.heap.size ≤ p0 ∧ w.heap.size ≤ p1) (hn : p0 ≠ p1) (hret : ∀ (a' : Act) (W : World), WRet w a' W → Q1 .ret a' W) (hrel : RelO w l vp g p0 p1 D d 0 wr) (hF : FrO u a1 l.length c1 (.slice (A.map fun p => ⟨p.1, p.2, none⟩) D.length cb) vp d g 0) : Code.wp Tryd.prog bodyO (Exit.then (fun a' w'' => WO w l a1 c1 (.slice (A.map fun p => ⟨p.1, p.2, none⟩) D.length cb) vp g p0 p1 D d a' w'' ∧ muO a' w'' < muO (frame u) wr) Q1) (frame u) wr := by
  obtain ⟨z0, z1, hP, h0, h1, hB⟩ := hrel
  obtain ⟨Q, hQ⟩ : ∃ Q : ByteArray, Q = ⟨D.toArray⟩ := ⟨_, rfl⟩
  have hr : RdR wr p0 Q 0 := by rw [hQ]; exact h0 rfl
  have hQl : Q.data.toList = (flatT l).take D.length := by rw [hQ, ← HEV.out.dd, List.take_of_length_le (Nat.le_refl _)]
  have hQs : Q.size = D.length := by rw [← size_list', hQl, List.length_take, ← HEV.out.dd]; omega
  have hDl : D.length ≤ 7680 := by
    rw [HEV.out.dd]
    have := flatT_len l
    have := HEV.out.len
    omega
  have hrd : Rdr wr p0 (dropB Q (offT l 0)) ((offT l 0 : Nat) : Int) := by
    rw [offT_zero, dropB_zero]
    exact ⟨hr, by simp, by rw [hQs]; simp; omega⟩
  have HEV2 : Hid (EnvF w l a1 D D.length Q) := ⟨HEV.out.cl, HEV.out.ok, HEV.out.et, HEV.out.len, HEV.out.dd, hQl, by omega⟩
  have HREL : Hid (RelF w l vp g p0 p1 p0 Q (fun W => RdR W p1 ⟨(D.take d).toArray⟩ 0) 0 wr) := ⟨z0, z1, hP, hrd, h1 (by omega), hB⟩
  have HQs := Lib.hid hQs
  have HP := Lib.hid hp
  have HG := Lib.hid hg
  have HN := Lib.hid hn
  have hlb : (l.length : Int) ≤ 30 := by have := HEV.out.len; omega
  obtain ⟨s0, s5, s6, s8, s9, s10⟩ := hF
  have HMU : Hid (muO (frame u) wr = 2 - 0) := by
    show 2 - (intOf ((frame u).tmps.getD 10 undef)).toNat = _
    rw [show (frame u).tmps.getD 10 undef = u 10 from rfl, s10]
    rfl
  rw [HMU.out]
  rw [frame_lit]
  simp only [s0, s5, s6, s8, s9, s10]
  conv => arg 2; whnf
  clear s0 s5 s6 s8 s9 s10 hrd hQs hQl hr hQ h0 h1 hP hB hp hg hn
  go_wp2_with fail
  refine inn_loop w l a1 c1 A cb vp _ _ _ g p0 p1 p0 D.length Q D (fun W => RdR W p1 ⟨(D.take d).toArray⟩ 0) _ HEV2 HG.out.1 HP.out.1 (fun w1 w2 h hg => h.other hg (Ne.symm HN.out)) (fun w1 n h => RdR.drewn h n) ?hre ?hex _ wr (by rfl) ⟨rfl, rfl, rfl, rfl, rfl, rfl, rfl, rfl, rfl⟩ HREL.out
  case hre =>
    intro a' W h
    exact hret a' W h
  case hex =>
    rintro a' W ⟨u', rfl, ⟨s0, s5, s6, s8, s9, s10, s11, s12, s13⟩, hEE, hR⟩
    have hEE2 : offT l l.length = D.length := by
      have := offT_all l
      rw [← HEV.out.dd] at this
      omega
    have hz : (dropB Q (offT l l.length)).size = 0 := by rw [← size_list', dropB_list, List.length_drop, size_list', HQs.out, hEE2]; omega
    have hz1 : enC (dropB Q (offT l l.length)) = 0 := if_pos hz
    have q := End_any p0 _ _ W hR.R.r
    rw [hz1] at q
    have HQE := Lib.hid q
    have HR := Lib.hid hR
    rw [frame_lit]
    simp only [s0, s5, s6, s8, s9, s10, s11, s12, s13]
    clear s0 s5 s6 s8 s9 s10 s11 s12 s13 hz hz1 q hEE2 hR hEE HREL z0 z1
    simp only [Exit.inBlock, if_true, Exit.then]
    go_wp2_with fail
    refine HQE.out.mono ?_
    rintro e w2 ⟨v2, rfl, he2, hB2⟩
    obtain rfl := err_no he2
    have HB2 := Lib.hid (trans' HR.out.B hB2)
    have HRL2 : Hid (RelO w l vp g p0 p1 D d 1 w2) := ⟨keepC hB2 HR.out.z0, keepC hB2 HR.out.z1, own_kept' HR.out.P hB2, (fun h => absurd h (by omega)), (fun _ => RdR.keep hB2 HR.out.O), trans' HR.out.B hB2⟩
    clear hB2 he2 HQE HR
    go_wp2_with fail
    refine ⟨⟨_, 1, frame_ex _ (by rfl), ⟨rfl, rfl, rfl, rfl, rfl, rfl⟩, by omega, HRL2.out⟩, ?_⟩
    show 2 - (intOf _).toNat < _
    simp [intOf]
set_option maxRecDepth 100000 in
set_option maxHeartbeats 4000000 in
theorem out_round1 (w wr : World) (l : List Th) (a1 : Option Addr) (c1 : Nat) (A : Option (Nat × Nat)) (cb : Nat) (vp : Value) (g p0 p1 d : Nat) (D : List UInt8) (Q1 : Exit → Act → World → Prop) (u : Nat → Value) (Qx : ByteArray) (HEV : Hid (EnvF w l a1 D D.length Qx)) (hd : d ≤ D.length) (hg : g ≠ p0 ∧ g ≠ p1) (hp : w.heap.size ≤ p0 ∧ w.heap.size ≤ p1) (hn : p0 ≠ p1) (hret : ∀ (a' : Act) (W : World), WRet w a' W → Q1 .ret a' W) (hrel : RelO w l vp g p0 p1 D d 1 wr) (hF : FrO u a1 l.length c1 (.slice (A.map fun p => ⟨p.1, p.2, none⟩) D.length cb) vp d g 1) : Code.wp Tryd.prog bodyO (Exit.then (fun a' w'' => WO w l a1 c1 (.slice (A.map fun p => ⟨p.1, p.2, none⟩) D.length cb) vp g p0 p1 D d a' w'' ∧ muO a' w'' < muO (frame u) wr) Q1) (frame u) wr := by
  obtain ⟨z0, z1, hP, h0, h1, hB⟩ := hrel
  obtain ⟨Q, hQ⟩ : ∃ Q : ByteArray, Q = ⟨(D.take d).toArray⟩ := ⟨_, rfl⟩
  have hr : RdR wr p1 Q 0 := by rw [hQ]; exact h1 (by omega)
  have hQl : Q.data.toList = (flatT l).take d := by rw [hQ, ← HEV.out.dd]
  have hQs : Q.size = d := by rw [← size_list', hQl, List.length_take, ← HEV.out.dd]; omega
  have hDl : D.length ≤ 7680 := by
    rw [HEV.out.dd]
    have := flatT_len l
    have := HEV.out.len
    omega
  have hrd : Rdr wr p1 (dropB Q (offT l 0)) ((offT l 0 : Nat) : Int) := by
    rw [offT_zero, dropB_zero]
    exact ⟨hr, by simp, by rw [hQs]; simp; omega⟩
  have HEV2 : Hid (EnvF w l a1 D d Q) := ⟨HEV.out.cl, HEV.out.ok, HEV.out.et, HEV.out.len, HEV.out.dd, hQl, by omega⟩
  have HREL : Hid (RelF w l vp g p0 p1 p1 Q (fun _ => True) 0 wr) := ⟨z0, z1, hP, hrd, trivial, hB⟩
  have HQs := Lib.hid hQs
  have HP := Lib.hid hp
  have HG := Lib.hid hg
  have HN := Lib.hid hn
  have hlb : (l.length : Int) ≤ 30 := by have := HEV.out.len; omega
  obtain ⟨s0, s5, s6, s8, s9, s10⟩ := hF
  have HMU : Hid (muO (frame u) wr = 2 - 1) := by
    show 2 - (intOf ((frame u).tmps.getD 10 undef)).toNat = _
    rw [show (frame u).tmps.getD 10 undef = u 10 from rfl, s10]
    rfl
  rw [HMU.out]
  rw [frame_lit]
  simp only [s0, s5, s6, s8, s9, s10]
  conv => arg 2; whnf
  clear s0 s5 s6 s8 s9 s10 hrd hQs hQl hr hQ h0 h1 hP hB hp hg hn
  go_wp2_with fail
  refine inn_loop w l a1 c1 A cb vp _ _ _ g p0 p1 p1 d Q D (fun _ => True) _ HEV2 HG.out.2 HP.out.2 (fun _ _ _ _ => trivial) (fun _ _ _ => trivial) ?hre ?hex _ wr (by rfl) ⟨rfl, rfl, rfl, rfl, rfl, rfl, rfl, rfl, rfl⟩ HREL.out
  case hre =>
    intro a' W h
    exact hret a' W h
  case hex =>
    rintro a' W ⟨u', rfl, ⟨s0, s5, s6, s8, s9, s10, s11, s12, s13⟩, hEE, hR⟩
    have hEE2 : offT l l.length = d := by
      have := offT_all l
      rw [← HEV.out.dd] at this
      omega
    have hz : (dropB Q (offT l l.length)).size = 0 := by rw [← size_list', dropB_list, List.length_drop, size_list', HQs.out, hEE2]; omega
    have hz1 : enC (dropB Q (offT l l.length)) = 0 := if_pos hz
    have q := End_any p1 _ _ W hR.R.r
    rw [hz1] at q
    have HQE := Lib.hid q
    have HR := Lib.hid hR
    rw [frame_lit]
    simp only [s0, s5, s6, s8, s9, s10, s11, s12, s13]
    clear s0 s5 s6 s8 s9 s10 s11 s12 s13 hz hz1 q hEE2 hR hEE HREL z0 z1
    simp only [Exit.inBlock, if_true, Exit.then]
    go_wp2_with fail
    refine HQE.out.mono ?_
    rintro e w2 ⟨v2, rfl, he2, hB2⟩
    obtain rfl := err_no he2
    have HB2 := Lib.hid (trans' HR.out.B hB2)
    have HRL2 : Hid (RelO w l vp g p0 p1 D d 2 w2) := ⟨keepC hB2 HR.out.z0, keepC hB2 HR.out.z1, own_kept' HR.out.P hB2, (fun h => absurd h (by omega)), (fun h => absurd h (by omega)), trans' HR.out.B hB2⟩
    clear hB2 he2 HQE HR
    go_wp2_with fail
    refine ⟨⟨_, 2, frame_ex _ (by rfl), ⟨rfl, rfl, rfl, rfl, rfl, rfl⟩, by omega, HRL2.out⟩, ?_⟩
    show 2 - (intOf _).toNat < _
    simp [intOf]
set_option maxRecDepth 100000 in
set_option maxHeartbeats 4000000 in
theorem out_end (w wr : World) (l : List Th) (a1 : Option Addr) (c1 : Nat) (A : Option (Nat × Nat)) (cb : Nat) (vp : Value) (g p0 p1 d : Nat) (D : List UInt8) (Q1 : Exit → Act → World → Prop) (u : Nat → Value) (Qx : ByteArray) (HEV : Hid (EnvF w l a1 D D.length Qx)) (hd : d ≤ D.length) (hg : g ≠ p0 ∧ g ≠ p1) (hp : w.heap.size ≤ p0 ∧ w.heap.size ≤ p1) (hn : p0 ≠ p1) (hret : ∀ (a' : Act) (W : World), WRet w a' W → Q1 .ret a' W) (hexit : ∀ (a' : Act) (W : World), (∃ u : Nat → Value, a' = frame u ∧ Below w.heap.size w W) → Q1 (.exit 2) a' W) (hrel : RelO w l vp g p0 p1 D d 2 wr) (hF : FrO u a1 l.length c1 (.slice (A.map fun p => ⟨p.1, p.2, none⟩) D.length cb) vp d g 2) : Code.wp Tryd.prog bodyO (Exit.then (fun a' w'' => WO w l a1 c1 (.slice (A.map fun p => ⟨p.1, p.2, none⟩) D.length cb) vp g p0 p1 D d a' w'' ∧ muO a' w'' < muO (frame u) wr) Q1) (frame u) wr := by
  have HB := Lib.hid hrel.B
  obtain ⟨s0, s5, s6, s8, s9, s10⟩ := hF
  replace s10 : u 10 = .int .i64 2 := s10
  rw [frame_lit]
  simp only [s0, s5, s6, s8, s9, s10]
  conv => arg 2; whnf
  clear s0 s5 s6 s8 s9 s10 hrel
  go_wp2_with fail
  exact ⟨_, frame_ex _ (by rfl), HB.out⟩
theorem out_loop (w : World) (l : List Th) (a1 : Option Addr) (c1 : Nat) (A : Option (Nat × Nat)) (cb : Nat) (vp : Value) (g p0 p1 d : Nat) (D : List UInt8) (Q1 : Exit → Act → World → Prop) (Qx : ByteArray) (HEV : Hid (EnvF w l a1 D D.length Qx)) (hd : d ≤ D.length) (hg : g ≠ p0 ∧ g ≠ p1) (hp : w.heap.size ≤ p0 ∧ w.heap.size ≤ p1) (hn : p0 ≠ p1) (hret : ∀ (a' : Act) (W : World), WRet w a' W → Q1 .ret a' W) (hexit : ∀ (a' : Act) (W : World), (∃ u : Nat → Value, a' = frame u ∧ Below w.heap.size w W) → Q1 (.exit 2) a' W) (t : Array Value) (wr : World) (ht : t.size = 242) (hF : FrO (fun i => t.getD i undef) a1 l.length c1 (.slice (A.map fun p => ⟨p.1, p.2, none⟩) D.length cb) vp d g 0) (hR : RelO w l vp g p0 p1 D d 0 wr) : Code.wp Tryd.prog (Code.loop bodyO) Q1 ⟨t, []⟩ wr := by
  refine wp_loop (WO w l a1 c1 (.slice (A.map fun p => ⟨p.1, p.2, none⟩) D.length cb) vp g p0 p1 D d) muO ⟨_, 0, frame_ex t ht, hF, by omega, hR⟩ ?_
  rintro a W ⟨u, k, rfl, hF, hk, hR⟩
  rcases (show k = 0 ∨ k = 1 ∨ k = 2 by omega) with rfl | rfl | rfl
  · exact out_round0 w W l a1 c1 A cb vp g p0 p1 d D Q1 u Qx HEV hd hg hp hn hret hR hF
  · exact out_round1 w W l a1 c1 A cb vp g p0 p1 d D Q1 u Qx HEV hd hg hp hn hret hR hF
  · exact out_end w W l a1 c1 A cb vp g p0 p1 d D Q1 u Qx HEV hd hg hp hn hret hexit hR hF
end Go.Proofs.YtbnnemiiodhjbaaDoor
