/- What comes in: ints. -/
import Derived.Test.YteelccgaemmmpaaDoorIra
import Derived.Deep.Slices
import Derived.ChangeSame
namespace Go.Proofs.YteelccgaemmmpaaDoor
open Go.ChangeShapes Go.WideShapes Go.ChangeAt Go.WideMaps Go.WideElems Go.RowKit
set_option linter.unusedVariables false
set_option linter.unusedSimpArgs false

theorem spot_of {P : Program} {w : World} {r : Reach} {b : Nat} {t e : TypeId} {a : Addr} {n c : Nat} (ht : P.underlying t = some (.slice e)) (hv : Value.okWide P w r b t (.slice (some a) n c)) : a.spot = none := by
  simp only [Value.okWide, ht, Cell.okWide, Cell.ok] at hv
  exact hv.2.2.2.1
theorem wfB {k : IntKind} {n : Int} (h : (Lit.int k n).wf = true) : k.min ≤ n ∧ n ≤ k.max := by simpa [Lit.wf] using h
theorem oc_c64 : Tryd.prog.cellsOf 3 = 1 := by kernel_rfl
set_option maxRecDepth 100000 in
theorem open_intsZ {H : Type} {enc : TypeId × Value → H} {W : World} {base : Nat} {v : Value} {d : DataW H} {p : List MemPlace} (hv : Value.okWide Tryd.prog W .any base 27 v) (h : DataW.Trod enc Tryd.prog W 0 (fun _ => true) true 27 v d p) :
    ∃ l : List Int, RdS W v l ∧ l.length ≤ maxLen := by
  have hv' := hv
  obtain ⟨a0, len0, cap0, rfl⟩ := okWide_slice Tryd.underlying27 hv
  obtain ⟨fuel, hf⟩ := h
  rcases Deep.open_slice1 Tryd.underlying27 oc_c64 hf with ⟨h0, _⟩ | ⟨a, len, cap, m, n, V, D, Pl, hc, _, hle, hcap, hm, _, hx⟩
  · simp [Value.cells] at h0
    obtain ⟨rfl, rfl, rfl⟩ := h0
    exact ⟨[], RdS.nil _, by simp⟩
  · simp [Value.cells] at hc
    obtain ⟨rfl, rfl, rfl⟩ := hc
    have hsp := spot_of Tryd.underlying27 hv'
    obtain ⟨b, o, sp⟩ := a
    simp only at hsp
    subst hsp
    have hlm : len0 ≤ m := by rw [hm]; split <;> omega
    have each : ∀ i, i < len0 → ∃ q : Int, (-9223372036854775808 ≤ q ∧ q < 9223372036854775808) ∧ W.cell? ⟨b, o + i, none⟩ = some (.int .i64 q) := by
      intro i hi
      obtain ⟨h1, h2⟩ := hx i (by omega)
      obtain ⟨z, e0, _, w0⟩ := DataW.trod_int Tryd.underlying3 h2
      simp only [List.cons.injEq, and_true] at e0
      have q0 := wfB w0
      have m5 : IntKind.i64.min = -9223372036854775808 := rfl
      have m6 : IntKind.i64.max = 9223372036854775807 := rfl
      refine ⟨z, by omega, ?_⟩
      rw [add_lit] at h1
      rw [h1, e0]
    obtain ⟨f, hfq⟩ := Deep.choose_lt each
    refine ⟨(List.range len0).map f, ⟨some (b, o), cap0, by simp, by simp; omega, (fun h => by cases h), fun p hp k x hk => ?_⟩, by simp; omega⟩
    obtain rfl : (b, o) = p := by simpa using hp
    have hkl : k < len0 := by
      have := (List.getElem?_eq_some_iff.1 hk).1
      simpa using this
    have hxe : x = f k := by
      rw [List.getElem?_map, List.getElem?_range hkl] at hk
      simpa using hk.symm
    subst hxe
    obtain ⟨h1, h2⟩ := hfq k hkl
    exact h2
end Go.Proofs.YteelccgaemmmpaaDoor
