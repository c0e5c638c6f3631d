/- What the laid table gives, and a world that meets it. -/
import Derived.Test.YtdaeibbjoefofaaDoorRows
import Derived.Test.YtdaeibbjoefofaaDoorTie
import Derived.Test.YtdaeibbjoefofaaDoorCards
import Derived.Test.YtdaeibbjoefofaaDoorFma
import Derived.ProofKit
import Derived.LaidMore
import Derived.OpenShut
import Derived.Stop.Joined
import Derived.SizedLaws
import Derived.Lib.SmallJoins
import Derived.SevenTiedAt
namespace Go.Proofs.YtdaeibbjoefofaaDoor
open Go.ChangeShapes Go.WideShapes Go.ChangeAt Go.WideMaps Go.WideElems Go.RowKit
set_option linter.unusedVariables false

theorem own : ownKnob Tryd.prog.godebug = none := by kernel_rfl
theorem laidOut : laidOutB Tryd.prog = true := by kernel_rfl
theorem gP : Tryd.prog.globalNamed "math/bits.deBruijn64tab" = some 0 := by kernel_rfl
theorem tP : (Tryd.prog.globals[0]?).map (·.type) = some 68 := by kernel_rfl

/-- What is laid in the program's variables, of every row. -/
def laidP {H : Type} : List (String × DataW H) := [("math/bits.deBruijn64tab", Rows.laid_math_bits_deBruijn64tab)]

theorem door_met (os : Os) (args : Array Value) : laidMetH Tryd.prog laidP ((World.doorLaid Tryd.prog 400 os).forCall (fun _ _ => 0) ⟨#[], args, []⟩).memory :=
  laidMetH_of_parts3 (fuel := 8) (laidMet_of_run' 8 (by kernel_rfl) (by kernel_rfl)) (by kernel_rfl) (by kernel_rfl)

theorem tab_list {H : Type} : (Rows.laid_math_bits_deBruijn64tab : DataW H) = .agg (Lib.deBruijn64tab.map fun n => .lit (.int .u8 (n : Nat))) := rfl
set_option maxRecDepth 100000 in
theorem tab_of_laid {W : World} (h : laidMetH Tryd.prog laidP W) : TabD W := by
  rw [MakeChecks.laidMetH_plain _ _ _ (by kernel_rfl)] at h
  obtain ⟨ps, ⟨g0, t0, cs0, f0, p0, q0, hg0, ht0, hv0, hd0, _, _⟩, _, _⟩ := h
  obtain rfl := Option.some.inj (gP.symm.trans hg0)
  obtain rfl := Option.some.inj (tP.symm.trans ht0)
  obtain ⟨xs, m1, rfl, hx1, hlen, hn3, hel⟩ := DataW.trod_array Tryd.underlying68 hd0
  have c5 : Tryd.prog.cellsOf 5 = 1 := by kernel_rfl
  rw [c5] at hel
  intro j hj
  have hj64 : j < 64 := hj
  have h0 := hel j hj64
  obtain ⟨x, hx⟩ : ∃ x, xs[j]? = some x := ⟨_, List.getElem?_eq_getElem (by omega)⟩
  rw [hx, Nat.mul_one] at h0
  obtain ⟨k0, e0, e0', _⟩ := DataW.trod_int Tryd.underlying5 h0
  have hd := congrArg Prod.fst hx1
  rw [tab_list] at hd
  simp only [DataW.agg.injEq] at hd
  have hj1 : (xs.map fun x => x.fst)[j]? = some x.1 := by rw [List.getElem?_map, hx]; rfl
  rw [← hd, List.getElem?_map, List.getElem?_eq_getElem hj] at hj1
  simp only [Option.map_some, Option.some.injEq] at hj1
  rw [e0'] at hj1
  have hk : ((Lib.deBruijn64tab[j] : Nat) : Int) = k0 := by
    injection hj1 with hj1
    injection hj1 with _ hj1
  have hc : cs0.toList[j]? = some (.int .u8 k0) := by
    have := congrArg (fun l => l[0]?) e0
    simpa using this
  rw [World.var?_cell gP hv0 j]
  rw [← Array.getElem?_toList, hc, ← hk, List.getD_eq_getElem?_getD, List.getElem?_eq_getElem hj]
  rfl

theorem z0_add (a : Addr) : a.add 0 = a := by unfold Addr.add; simp
theorem wfB {k : IntKind} {n : Int} (h : (Lit.int k n).wf = true) : k.min ≤ n ∧ n ≤ k.max := by simpa [Lit.wf] using h
theorem cH : Tryd.prog.cellsOf 22 = 1 := by kernel_rfl
theorem open_halves {H : Type} {enc : TypeId × Value → H} {W : World} {base : Nat} {v : Value} {d : DataW H} {p : List MemPlace} (hv : Value.okWide Tryd.prog W .any base 23 v) (h : DataW.Trod enc Tryd.prog W 0 (fun _ => true) true 23 v d p) :
    ∃ l, RdH W v l ∧ l.length ≤ maxLen := by
  obtain ⟨a, len, cap, rfl⟩ := okWide_slice Tryd.underlying23 hv
  obtain ⟨fuel, hf⟩ := h
  rcases Deep.open_slice Tryd.underlying23 hf with ⟨h0, _⟩ | ⟨a', len', cap', m, n, D, Pl, hc, _, hle, hcap, hm, _, hx⟩
  · simp [Value.cells] at h0
    obtain ⟨rfl, rfl, rfl⟩ := h0
    exact ⟨[], ⟨none, 0, rfl, Nat.le_refl _, fun k x hk => by simp at hk⟩, by simp⟩
  · simp [Value.cells] at hc
    obtain ⟨rfl, rfl, rfl⟩ := hc
    have hlm : len ≤ m := by rw [hm]; split <;> omega
    have each : ∀ i, i < len → ∃ q : Int, (0 ≤ q ∧ q < 65536) ∧ W.cell? (a'.add (i * 1)) = some (.int .u16 q) := by
      intro i hi
      obtain ⟨cs', h1, h2⟩ := hx i (by omega)
      rw [cH] at h1
      obtain ⟨_, hlen, hcell⟩ := World.cells?_some h1
      obtain ⟨b0, e0, _, w0⟩ := DataW.trod_int Tryd.underlying22 h2
      match cs', hlen, e0 with
      | [v0], _, e0 =>
        simp only [List.cons.injEq, and_true] at e0
        subst e0
        have q0 := wfB w0
        have m5 : IntKind.u16.min = 0 := rfl
        have m6 : IntKind.u16.max = 65535 := rfl
        have z0 := hcell 0 (by omega)
        refine ⟨b0, by omega, ?_⟩
        rw [z0_add] at z0
        simpa using z0
    obtain ⟨f, hfq⟩ := Deep.choose_lt each
    refine ⟨(List.range len).map f, ⟨some a', cap, by simp, by simpa using hle, fun k x hk => ?_⟩, by simp; omega⟩
    have hkl : k < len := by
      have := (List.getElem?_eq_some_iff.1 hk).1
      simpa using this
    have hxe : x = f k := by
      rw [List.getElem?_map, List.getElem?_range hkl] at hk
      simpa using hk.symm
    subst hxe
    obtain ⟨hb, hc0⟩ := hfq k hkl
    have hs : a'.spot = none := by
      have z := World.cell?_spot (hfq 0 (by omega)).2
      rwa [Nat.zero_mul, z0_add] at z
    obtain ⟨b, o, sp⟩ := a'
    simp only at hs
    subst hs
    rw [add_lit, Nat.mul_one] at hc0
    exact ⟨hb, b, o, rfl, hc0⟩
end Go.Proofs.YtdaeibbjoefofaaDoor
