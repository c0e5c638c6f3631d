/- What comes in: bytes. -/
import Derived.Test.YtbnnemiiodhjbaaDoorOe
import Derived.Test.YtbnnemiiodhjbaaDoorWd
namespace Go.Proofs.YtbnnemiiodhjbaaDoor
open Go.ChangeShapes Go.WideShapes Go.ChangeAt Go.WideMaps Go.WideElems Go.RowKit
set_option linter.unusedVariables false
set_option linter.unusedSimpArgs false

theorem ob_c8 : Tryd.prog.cellsOf 5 = 1 := by kernel_rfl
theorem spot_of {P : Program} {w : World} {r : Reach} {b : Nat} {t e : TypeId} {a : Addr} {n c : Nat} (ht : P.underlying t = some (.slice e)) (hv : Value.okWide P w r b t (.slice (some a) n c)) : a.spot = none := by
  simp only [Value.okWide, ht, Cell.okWide, Cell.ok] at hv
  exact hv.2.2.2.1
set_option maxRecDepth 100000 in
theorem open_bytes {H : Type} {enc : TypeId × Value → H} {W : World} {base : Nat} {v : Value} {d : DataW H} {p : List MemPlace} (hv : Value.okWide Tryd.prog W .any base 22 v) (h : DataW.Trod enc Tryd.prog W 0 (fun _ => true) true 22 v d p) :
    ∃ l : List UInt8, RdB W v l ∧ l.length ≤ maxLen := by
  have hv' := hv
  obtain ⟨a0, len0, cap0, rfl⟩ := okWide_slice Tryd.underlying22 hv
  obtain ⟨fuel, hf⟩ := h
  rcases Deep.open_slice1 Tryd.underlying22 ob_c8 hf with ⟨h0, _⟩ | ⟨a, len, cap, m, n, V, D, Pl, hc, _, hle, hcap, hm, _, hx⟩
  · simp [Value.cells] at h0
    obtain ⟨rfl, rfl, rfl⟩ := h0
    exact ⟨[], RdB.nil W, by simp⟩
  · simp [Value.cells] at hc
    obtain ⟨rfl, rfl, rfl⟩ := hc
    have hsp := spot_of Tryd.underlying22 hv'
    obtain ⟨b, o, sp⟩ := a
    simp only at hsp
    subst hsp
    have hlm : len0 ≤ m := by rw [hm]; split <;> omega
    have each : ∀ i, i < len0 → ∃ q : UInt8, W.cell? ⟨b, o + i, none⟩ = some (.int .u8 ((q.toNat : Nat) : Int)) := by
      intro i hi
      obtain ⟨h1, h2⟩ := hx i (by omega)
      obtain ⟨z, e0, _, w0⟩ := DataW.trod_int Tryd.underlying5 h2
      simp only [List.cons.injEq, and_true] at e0
      have q0 := wfB w0
      have m5 : IntKind.u8.min = 0 := rfl
      have m6 : IntKind.u8.max = 255 := rfl
      refine ⟨UInt8.ofNat z.toNat, ?_⟩
      rw [add_lit] at h1
      rw [h1, e0]
      have : ((UInt8.ofNat z.toNat).toNat : Int) = z := by simp; omega
      rw [this]
    obtain ⟨f, hfq⟩ := Deep.choose_lt each
    refine ⟨(List.range len0).map f, ⟨some (b, o), cap0, by simp, by simpa using hle, (fun h => by cases h), fun p hp j u hu => ?_⟩, by simp; omega⟩
    obtain rfl : (b, o) = p := by simpa using hp
    unfold bv at hu
    rw [List.map_map, List.getElem?_map] at hu
    cases hj : (List.range len0)[j]? with
    | none => rw [hj] at hu; simp at hu
    | some k =>
      rw [hj] at hu
      obtain ⟨hjl, hjk⟩ := List.getElem?_eq_some_iff.1 hj
      rw [List.length_range] at hjl
      rw [List.getElem_range] at hjk
      subst hjk
      simp only [Option.map_some, Function.comp, Option.some.injEq] at hu
      subst hu
      exact hfq j hjl
end Go.Proofs.YtbnnemiiodhjbaaDoor
