/- What comes in: lists of acts. -/
import Derived.Test.YtdaeibbjoefofaaDoorFr
namespace Go.Proofs.YtdaeibbjoefofaaDoor
open Go.ChangeShapes Go.WideShapes Go.ChangeAt Go.WideMaps Go.WideElems Go.RowKit
set_option linter.unusedVariables false

/-- The value v is a slice that reads as these acts. -/
def RdQ (w : World) (v : Value) (l : List (Int × Int)) : Prop :=
  ∃ (a : Option Addr) (c : Nat), v = .slice a l.length c ∧ l.length ≤ c ∧ ∀ (k : Nat) (x : Int × Int), l[k]? = some x → ((0 ≤ x.1 ∧ x.1 < 256) ∧ (-32768 ≤ x.2 ∧ x.2 < 32768)) ∧ ∃ b o, a = some ⟨b, o, none⟩ ∧ w.cell? ⟨b, o + k * 2, none⟩ = some (.int .u8 x.1) ∧ w.cell? ⟨b, o + k * 2 + 1, none⟩ = some (.int .i16 x.2)
theorem cA : Tryd.prog.cellsOf 41 = 2 := by kernel_rfl
theorem cA8 : Tryd.prog.cellsOf 5 = 1 := by kernel_rfl
theorem cA16 : Tryd.prog.cellsOf 39 = 1 := by kernel_rfl
theorem open_acts {H : Type} {enc : TypeId × Value → H} {W : World} {base : Nat} {v : Value} {d : DataW H} {p : List MemPlace} (hv : Value.okWide Tryd.prog W .any base 36 v) (h : DataW.Trod enc Tryd.prog W 0 (fun _ => true) true 36 v d p) :
    ∃ l, RdQ W v l ∧ l.length ≤ maxLen := by
  obtain ⟨a, len, cap, rfl⟩ := okWide_slice Tryd.underlying36 hv
  obtain ⟨fuel, hf⟩ := h
  rcases Deep.open_slice Tryd.underlying36 hf with ⟨h0, _⟩ | ⟨a', len', cap', m, n, D, Pl, hc, _, hle, hcap, hm, _, hx⟩
  · simp [Value.cells] at h0
    obtain ⟨rfl, rfl, rfl⟩ := h0
    exact ⟨[], ⟨none, 0, rfl, Nat.le_refl _, fun k x hk => by simp at hk⟩, by simp⟩
  · simp [Value.cells] at hc
    obtain ⟨rfl, rfl, rfl⟩ := hc
    have hlm : len ≤ m := by rw [hm]; split <;> omega
    have each : ∀ i, i < len → ∃ q : Int × Int, ((0 ≤ q.1 ∧ q.1 < 256) ∧ (-32768 ≤ q.2 ∧ q.2 < 32768)) ∧ W.cell? ((a'.add (i * 2)).add 0) = some (.int .u8 q.1) ∧ W.cell? ((a'.add (i * 2)).add 1) = some (.int .i16 q.2) := by
      intro i hi
      obtain ⟨cs', h1, h2⟩ := hx i (by omega)
      rw [cA] at h1
      obtain ⟨_, hlen, hcell⟩ := World.cells?_some h1
      obtain ⟨xs, k, _, _, _, hxl, hel⟩ := DataW.trod_struct Tryd.underlying41 h2
      match xs, hxl, cs', hlen with
      | [x0, x1], _, [v0, v1], _ =>
        have e0 : DataW.trod enc Tryd.prog W 0 _ true k 5 ((List.drop 0 _).take (Tryd.prog.cellsOf 5)) = some x0 := hel 0 _ rfl
        have e1 : DataW.trod enc Tryd.prog W 0 _ true k 39 ((List.drop 1 _).take (Tryd.prog.cellsOf 39)) = some x1 := hel 1 _ rfl
        simp only [cA8, cA16] at e0 e1
        obtain ⟨b0, g0, _, w0⟩ := DataW.trod_int Tryd.underlying5 (show DataW.trod _ Tryd.prog W 0 _ true k 5 _ = some x0 from e0)
        obtain ⟨b1, g1, _, w1⟩ := DataW.trod_int Tryd.underlying39 (show DataW.trod _ Tryd.prog W 0 _ true k 39 _ = some x1 from e1)
        simp at g0 g1
        subst g0 g1
        have q0 := wfB w0
        have q1 := wfB w1
        have m5 : IntKind.u8.min = 0 := rfl
        have m6 : IntKind.u8.max = 255 := rfl
        have m7 : IntKind.i16.min = -32768 := rfl
        have m8 : IntKind.i16.max = 32767 := rfl
        exact ⟨(b0, b1), ⟨⟨by dsimp only; omega, by dsimp only; omega⟩, ⟨by dsimp only; omega, by dsimp only; omega⟩⟩, hcell 0 (by omega), hcell 1 (by omega)⟩
    obtain ⟨f, hfq⟩ := Deep.choose_lt each
    refine ⟨(List.range len).map f, ⟨some a', cap, by simp, by simpa using hle, fun k x hk => ?_⟩, by simp; omega⟩
    have hkl : k < len := by
      have := (List.getElem?_eq_some_iff.1 hk).1
      simpa using this
    have hxe : x = f k := by
      rw [List.getElem?_map, List.getElem?_range hkl] at hk
      simpa using hk.symm
    subst hxe
    obtain ⟨hb, hc0, hc1⟩ := hfq k hkl
    have hs : a'.spot = none := by
      have z := World.cell?_spot (hfq 0 (by omega)).2.1
      rwa [Nat.zero_mul, z0_add, z0_add] at z
    obtain ⟨b, o, sp⟩ := a'
    simp only at hs
    subst hs
    rw [add_lit, add_lit] at hc0 hc1
    exact ⟨hb, b, o, rfl, hc0, hc1⟩
end Go.Proofs.YtdaeibbjoefofaaDoor
