/- What comes in: numbers of 16 bits. -/
import Derived.Test.YtbnnemiiodhjbaaDoorOb
import Derived.Test.YtbnnemiiodhjbaaDoorFx6
namespace Go.Proofs.YtbnnemiiodhjbaaDoor
open Go.ChangeShapes Go.WideShapes Go.ChangeAt Go.WideMaps Go.WideElems Go.RowKit
set_option linter.unusedVariables false
set_option linter.unusedSimpArgs false

theorem oc_c16 : Tryd.prog.cellsOf 54 = 1 := by kernel_rfl
set_option maxRecDepth 100000 in
theorem open_i16s {H : Type} {enc : TypeId × Value → H} {W : World} {base : Nat} {v : Value} {d : DataW H} {p : List MemPlace} (hv : Value.okWide Tryd.prog W .any base 50 v) (h : DataW.Trod enc Tryd.prog W 0 (fun _ => true) true 50 v d p) :
    ∃ l : List Int, RdS W v l ∧ l.length ≤ maxLen := by
  have hv' := hv
  obtain ⟨a0, len0, cap0, rfl⟩ := okWide_slice Tryd.underlying50 hv
  obtain ⟨fuel, hf⟩ := h
  rcases Deep.open_slice1 Tryd.underlying50 oc_c16 hf with ⟨h0, _⟩ | ⟨a, len, cap, m, n, V, D, Pl, hc, _, hle, hcap, hm, _, hx⟩
  · simp [Value.cells] at h0
    obtain ⟨rfl, rfl, rfl⟩ := h0
    exact ⟨[], ⟨none, 0, rfl, fun k x hk => by simp at hk⟩, by simp⟩
  · simp [Value.cells] at hc
    obtain ⟨rfl, rfl, rfl⟩ := hc
    have hsp := spot_of Tryd.underlying50 hv'
    obtain ⟨b, o, sp⟩ := a
    simp only at hsp
    subst hsp
    have hlm : len0 ≤ m := by rw [hm]; split <;> omega
    have each : ∀ i, i < len0 → ∃ q : Int, (-32768 ≤ q ∧ q < 32768) ∧ W.cell? ⟨b, o + i, none⟩ = some (.int .i16 q) := by
      intro i hi
      obtain ⟨h1, h2⟩ := hx i (by omega)
      obtain ⟨z, e0, _, w0⟩ := DataW.trod_int Tryd.underlying54 h2
      simp only [List.cons.injEq, and_true] at e0
      have q0 := wfB w0
      have m5 : IntKind.i16.min = -32768 := rfl
      have m6 : IntKind.i16.max = 32767 := rfl
      refine ⟨z, by omega, ?_⟩
      rw [add_lit] at h1
      rw [h1, e0]
    obtain ⟨f, hfq⟩ := Deep.choose_lt each
    refine ⟨(List.range len0).map f, ⟨some ⟨b, o, none⟩, cap0, by simp, fun k x hk => ?_⟩, by simp; omega⟩
    have hkl : k < len0 := by
      have := (List.getElem?_eq_some_iff.1 hk).1
      simpa using this
    have hxe : x = f k := by
      rw [List.getElem?_map, List.getElem?_range hkl] at hk
      simpa using hk.symm
    subst hxe
    obtain ⟨h1, h2⟩ := hfq k hkl
    exact ⟨h1, b, o, rfl, h2⟩
end Go.Proofs.YtbnnemiiodhjbaaDoor
