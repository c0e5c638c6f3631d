/- What comes in: pairs of bytes. -/
import Derived.Test.YtpbfabcihoiiiaaRows
import Derived.Test.YtpbfabcihoiiiaaHlC
import Derived.ProofKit
import Derived.LaidMore
import Derived.OpenShut
import Derived.Stop.Joined
import Derived.SizedLaws
import Derived.Lib.SmallJoins
import Derived.Deep.Slices
namespace Go.Proofs.Ytpbfabcihoiiiaa
open Go.ChangeShapes Go.WideShapes Go.ChangeAt Go.WideMaps Go.WideElems Go.RowKit
set_option linter.unusedVariables false

theorem own : ownKnob Try.prog.godebug = none := by kernel_rfl
theorem laidOut : laidOutB Try.prog = true := by kernel_rfl
theorem z0_add (a : Addr) : a.add 0 = a := by unfold Addr.add; simp
theorem wfB {k : IntKind} {n : Int} (h : (Lit.int k n).wf = true) : k.min ≤ n ∧ n ≤ k.max := by simpa [Lit.wf] using h
theorem c8 : Try.prog.cellsOf 5 = 1 := by kernel_rfl
theorem cU : Try.prog.cellsOf 54 = 2 := by kernel_rfl
theorem open_pairs {H : Type} {enc : TypeId × Value → H} {W : World} {base : Nat} {v : Value} {d : DataW H} {p : List MemPlace} (hv : Value.okWide Try.prog W .any base 22 v) (h : DataW.Trod enc Try.prog W 0 (fun _ => true) true 22 v d p) :
    ∃ l, RdU W v l ∧ l.length ≤ maxLen := by
  obtain ⟨a, len, cap, rfl⟩ := okWide_slice Try.underlying22 hv
  obtain ⟨fuel, hf⟩ := h
  rcases Deep.open_slice Try.underlying22 hf with ⟨h0, _⟩ | ⟨a', len', cap', m, n, D, Pl, hc, _, hle, hcap, hm, _, hx⟩
  · simp [Value.cells] at h0
    obtain ⟨rfl, rfl, rfl⟩ := h0
    exact ⟨[], ⟨none, 0, rfl, Nat.le_refl _, fun k x hk => by simp at hk⟩, by simp⟩
  · simp [Value.cells] at hc
    obtain ⟨rfl, rfl, rfl⟩ := hc
    have hlm : len ≤ m := by rw [hm]; split <;> omega
    have each : ∀ i, i < len → ∃ q : Int × Int, ((0 ≤ q.1 ∧ q.1 < 256) ∧ (0 ≤ q.2 ∧ q.2 < 256)) ∧ W.cell? (a'.add (i * 2)) = some (.int .u8 q.1) ∧ W.cell? ((a'.add (i * 2)).add 1) = some (.int .u8 q.2) := by
      intro i hi
      obtain ⟨cs', h1, h2⟩ := hx i (by omega)
      rw [cU] at h1
      obtain ⟨_, hlen, hcell⟩ := World.cells?_some h1
      obtain ⟨xs, k, _, _, _, hxl, hel⟩ := DataW.trod_array Try.underlying54 h2
      rw [c8] at hel
      match xs, hxl, cs', hlen with
      | [y0, y1], _, [v0, v1], _ =>
        have g0 : DataW.trod enc Try.prog W 0 _ true k 5 [v0] = some y0 := hel 0 (by decide)
        have g1 : DataW.trod enc Try.prog W 0 _ true k 5 [v1] = some y1 := hel 1 (by decide)
        obtain ⟨b0, e0, _, w0⟩ := DataW.trod_int Try.underlying5 g0
        obtain ⟨b1, e1, _, w1⟩ := DataW.trod_int Try.underlying5 g1
        simp only [List.cons.injEq, and_true] at e0 e1
        subst e0 e1
        have q0 := wfB w0
        have q1 := wfB w1
        have m5 : IntKind.u8.min = 0 := rfl
        have m6 : IntKind.u8.max = 255 := rfl
        have z0 := hcell 0 (by omega)
        have z1 := hcell 1 (by omega)
        refine ⟨(b0, b1), ⟨⟨by dsimp only; omega, by dsimp only; omega⟩, ⟨by dsimp only; omega, by dsimp only; omega⟩⟩, ?_, ?_⟩
        · rw [z0_add] at z0
          simpa using z0
        · simpa using z1
    obtain ⟨f, hfq⟩ := Deep.choose_lt each
    refine ⟨(List.range len).map f, ⟨some a', cap, by simp, by simpa using hle, fun k x hk => ?_⟩, by simp; omega⟩
    have hkl : k < len := by
      have := (List.getElem?_eq_some_iff.1 hk).1
      simpa using this
    have hxe : x = f k := by
      rw [List.getElem?_map, List.getElem?_range hkl] at hk
      simpa using hk.symm
    subst hxe
    obtain ⟨hb, hc0, hc1⟩ := hfq k hkl
    have hs : a'.spot = none := by
      have z := World.cell?_spot (hfq 0 (by omega)).2.1
      rwa [Nat.zero_mul, z0_add] at z
    obtain ⟨b, o, sp⟩ := a'
    simp only at hs
    subst hs
    rw [add_lit] at hc0 hc1
    rw [add_lit] at hc1
    exact ⟨hb, b, o, rfl, hc0, hc1⟩
end Go.Proofs.Ytpbfabcihoiiiaa
