/- FixedBack: the inner loop. Printed by gen/fz.py -/
import Derived.Test.YtbnnemiiodhjbaaDoorFz3
import Derived.Test.YtbnnemiiodhjbaaDoorFz4
import Derived.Test.YtbnnemiiodhjbaaDoorFz5
import Derived.Test.YtbnnemiiodhjbaaDoorFz6
namespace Go.Proofs.YtbnnemiiodhjbaaDoor
open Go.RowKit
set_option linter.unusedVariables false
set_option linter.unusedSimpArgs false

/-- The frame and the world behind the inner loop. -/
def WExI (w : World) (l : List Th) (a1 : Option Addr) (c1 : Nat) (bv vp dv gv kv : Value) (g p0 p1 p E : Nat) (Q : ByteArray) (oth : World → Prop) (a : Act) (wr : World) : Prop :=
  ∃ u : Nat → Value, a = frame u ∧ FrI u a1 l.length c1 bv vp dv gv kv p E l.length ∧ offT l l.length ≤ E ∧ RelF w l vp g p0 p1 p Q oth l.length wr
set_option maxRecDepth 100000 in
set_option maxHeartbeats 4000000 in
theorem inn_end (w wr : World) (l : List Th) (a1 : Option Addr) (c1 : Nat) (A : Option (Nat × Nat)) (cb : Nat) (vp dv gv kv : Value) (g p0 p1 p E : Nat) (Q : ByteArray) (D : List UInt8) (oth : World → Prop) (Q0 : Exit → Act → World → Prop) (u : Nat → Value) (j : Nat)
    (HEV : Hid (EnvF w l a1 D E Q)) (HRL : Hid (RelF w l vp g p0 p1 p Q oth j wr)) (hF : FrI u a1 l.length c1 (.slice (A.map fun p => ⟨p.1, p.2, none⟩) D.length cb) vp dv gv kv p E j) (hjE : offT l j ≤ E) (hg : g ≠ p) (hp : w.heap.size ≤ p) (hoth : ∀ w1 w2 : World, oth w1 → w1.grownBy w2 (some p) → oth w2) (hjl : j = l.length) (hexit : ∀ (a' : Act) (W : World), WExI w l a1 c1 (.slice (A.map fun p => ⟨p.1, p.2, none⟩) D.length cb) vp dv gv kv g p0 p1 p E Q oth a' W → Q0 (.exit 4) a' W) : Code.wp Tryd.prog bodyI (Exit.then (fun a' w'' => WI w l a1 c1 (.slice (A.map fun p => ⟨p.1, p.2, none⟩) D.length cb) vp dv gv kv g p0 p1 p E Q oth a' w'' ∧ muI l.length a' w'' < muI l.length (frame u) wr) Q0) (frame u) wr := by
  subst hjl
  have hmx : ¬ ((l.length : Int) < (l.length : Int)) := by omega
  have HEX : Hid (WExI w l a1 c1 (.slice (A.map fun p => ⟨p.1, p.2, none⟩) D.length cb) vp dv gv kv g p0 p1 p E Q oth (frame u) wr → True) := fun _ => trivial
  have hlb : (l.length : Int) ≤ 30 := by have := HEV.out.len; omega
  have HJE := Lib.hid hjE
  obtain ⟨s0, s5, s6, s8, s9, s10, s11, s12, s13⟩ := hF
  rw [frame_lit]
  simp only [s0, s5, s6, s8, s9, s10, s11, s12, s13]
  conv => arg 2; whnf
  clear s0 s5 s6 s8 s9 s10 s11 s12 s13 hjE HEX
  go_wp2_with fail
  unfold WExI
  exact ⟨_, frame_ex _ (by rfl), ⟨rfl, rfl, rfl, rfl, rfl, rfl, rfl, rfl, rfl⟩, HJE.out, HRL.out⟩
theorem inn_round (w : World) (l : List Th) (a1 : Option Addr) (c1 : Nat) (A : Option (Nat × Nat)) (cb : Nat) (vp dv gv kv : Value) (g p0 p1 p E : Nat) (Q : ByteArray) (D : List UInt8) (oth : World → Prop) (Q0 : Exit → Act → World → Prop) (HEV : Hid (EnvF w l a1 D E Q)) (hg : g ≠ p) (hp : w.heap.size ≤ p) (hoth : ∀ w1 w2 : World, oth w1 → w1.grownBy w2 (some p) → oth w2) (hoth' : ∀ (w1 : World) (n : Nat), oth w1 → oth (w1.drewN n)) (hret : ∀ (a' : Act) (W : World), WRet w a' W → Q0 .ret a' W) (hexit : ∀ (a' : Act) (W : World), WExI w l a1 c1 (.slice (A.map fun p => ⟨p.1, p.2, none⟩) D.length cb) vp dv gv kv g p0 p1 p E Q oth a' W → Q0 (.exit 4) a' W)
    (a : Act) (wr : World) (hI : WI w l a1 c1 (.slice (A.map fun p => ⟨p.1, p.2, none⟩) D.length cb) vp dv gv kv g p0 p1 p E Q oth a wr) : Code.wp Tryd.prog bodyI (Exit.then (fun a' w'' => WI w l a1 c1 (.slice (A.map fun p => ⟨p.1, p.2, none⟩) D.length cb) vp dv gv kv g p0 p1 p E Q oth a' w'' ∧ muI l.length a' w'' < muI l.length a wr) Q0) a wr := by
  obtain ⟨u, j, rfl, hF, hj, hjE, hR⟩ := hI
  by_cases hlj : j < l.length
  · have hk := HEV.out.ok l[j] (List.getElem_mem hlj)
    have hw0 := hk.1
    rcases (show l[j].wd % 5 = 0 ∨ l[j].wd % 5 = 1 ∨ l[j].wd % 5 = 2 ∨ l[j].wd % 5 = 3 ∨ l[j].wd % 5 = 4 by omega) with hw | hw | hw | hw | hw
    all_goals by_cases hin : offT l (j + 1) ≤ E
    · exact inn_in0 w wr l a1 c1 A cb vp dv gv kv g p0 p1 p E Q D oth Q0 u j HEV hR hF hlj hjE hg hp hoth hw hin
    · exact inn_out0 w wr l a1 c1 A cb vp dv gv kv g p0 p1 p E Q D oth Q0 u j HEV hR hF hlj hjE hg hp hoth hw (by omega) hret
    · exact inn_in1 w wr l a1 c1 A cb vp dv gv kv g p0 p1 p E Q D oth Q0 u j HEV hR hF hlj hjE hg hp hoth hw hin
    · exact inn_out1 w wr l a1 c1 A cb vp dv gv kv g p0 p1 p E Q D oth Q0 u j HEV hR hF hlj hjE hg hp hoth hw (by omega) hret
    · exact inn_in2 w wr l a1 c1 A cb vp dv gv kv g p0 p1 p E Q D oth Q0 u j HEV hR hF hlj hjE hg hp hoth hw hin
    · exact inn_out2 w wr l a1 c1 A cb vp dv gv kv g p0 p1 p E Q D oth Q0 u j HEV hR hF hlj hjE hg hp hoth hw (by omega) hret
    · exact inn_in3 w wr l a1 c1 A cb vp dv gv kv g p0 p1 p E Q D oth Q0 u j HEV hR hF hlj hjE hg hp hoth hw hin
    · exact inn_out3 w wr l a1 c1 A cb vp dv gv kv g p0 p1 p E Q D oth Q0 u j HEV hR hF hlj hjE hg hp hoth hw (by omega) hret
    · exact inn_in4 w wr l a1 c1 A cb vp dv gv kv g p0 p1 p E Q D oth Q0 u j HEV hR hF hlj hjE hg hp hoth hoth' hw hin
    · exact inn_out4 w wr l a1 c1 A cb vp dv gv kv g p0 p1 p E Q D oth Q0 u j HEV hR hF hlj hjE hg hp hoth hw (by omega) hret
  · exact inn_end w wr l a1 c1 A cb vp dv gv kv g p0 p1 p E Q D oth Q0 u j HEV hR hF hjE hg hp hoth (by omega) hexit
theorem inn_loop (w : World) (l : List Th) (a1 : Option Addr) (c1 : Nat) (A : Option (Nat × Nat)) (cb : Nat) (vp dv gv kv : Value) (g p0 p1 p E : Nat) (Q : ByteArray) (D : List UInt8) (oth : World → Prop) (Q0 : Exit → Act → World → Prop) (HEV : Hid (EnvF w l a1 D E Q)) (hg : g ≠ p) (hp : w.heap.size ≤ p) (hoth : ∀ w1 w2 : World, oth w1 → w1.grownBy w2 (some p) → oth w2) (hoth' : ∀ (w1 : World) (n : Nat), oth w1 → oth (w1.drewN n)) (hret : ∀ (a' : Act) (W : World), WRet w a' W → Q0 .ret a' W) (hexit : ∀ (a' : Act) (W : World), WExI w l a1 c1 (.slice (A.map fun p => ⟨p.1, p.2, none⟩) D.length cb) vp dv gv kv g p0 p1 p E Q oth a' W → Q0 (.exit 4) a' W)
    (t : Array Value) (wr : World) (ht : t.size = 242) (hF : FrI (fun i => t.getD i undef) a1 l.length c1 (.slice (A.map fun p => ⟨p.1, p.2, none⟩) D.length cb) vp dv gv kv p E 0) (hR : RelF w l vp g p0 p1 p Q oth 0 wr) : Code.wp Tryd.prog (Code.loop bodyI) Q0 ⟨t, []⟩ wr := by
  refine wp_loop (WI w l a1 c1 (.slice (A.map fun p => ⟨p.1, p.2, none⟩) D.length cb) vp dv gv kv g p0 p1 p E Q oth) (muI l.length) ⟨_, 0, frame_ex t ht, hF, Nat.zero_le _, by rw [offT_zero]; omega, hR⟩ ?_
  intro a wr hI
  have := inn_round w l a1 c1 A cb vp dv gv kv g p0 p1 p E Q D oth Q0 HEV hg hp hoth hoth' hret hexit a wr hI
  exact this
end Go.Proofs.YtbnnemiiodhjbaaDoor
