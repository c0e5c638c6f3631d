/- What comes in: lists of drafts. -/
import Derived.Test.YtinnkaokplmcbaaDoorOp
import Derived.Test.YtinnkaokplmcbaaDoorLs1
namespace Go.Proofs.YtinnkaokplmcbaaDoor
open Go.ChangeShapes Go.WideShapes Go.ChangeAt Go.WideMaps Go.WideElems Go.RowKit
set_option linter.unusedVariables false

instance : Inhabited Dr := ⟨⟨false, false, 0, 0, 0, 0, 0, 0⟩⟩

section
variable {H : Type} {enc : TypeId × Value → H} {W : World} {base : Nat}

theorem open_drafts {v : Value} {d : DataW H} {p : List MemPlace} (hv : Value.okWide Tryd.prog W .any base 45 v) (h : DataW.Trod enc Tryd.prog W 0 (fun _ => true) true 45 v d p) :
    ∃ l, RdD W v l ∧ l.length ≤ maxLen := by
  obtain ⟨a, len, cap, rfl⟩ := okWide_slice Tryd.underlying45 hv
  obtain ⟨fuel, hf⟩ := h
  rcases Deep.open_slice Tryd.underlying45 hf with ⟨h0, _⟩ | ⟨a', len', cap', m, n, D, Pl, hc, _, hle, hcap, hm, _, hx⟩
  · simp [Value.cells] at h0
    obtain ⟨rfl, rfl, rfl⟩ := h0
    exact ⟨[], ⟨none, 0, rfl, Nat.le_refl _, fun k x hk => by simp at hk⟩, by simp⟩
  · simp [Value.cells] at hc
    obtain ⟨rfl, rfl, rfl⟩ := hc
    have hlm : len ≤ m := by rw [hm]; split <;> omega
    have each : ∀ i, i < len → ∃ q : Dr, q.Ok ∧ ∀ (j : Nat) (u : Value), (drC q)[j]? = some u → W.cell? ((a'.add (i * 8)).add j) = some u := by
      intro i hi
      obtain ⟨cs', h1, h2⟩ := hx i (by omega)
      rw [cD] at h1
      obtain ⟨_, hlen, hcell⟩ := World.cells?_some h1
      obtain ⟨xs, k, _, _, _, hxl, hel⟩ := DataW.trod_struct Tryd.underlying29 h2
      match xs, hxl, cs', hlen with
      | [x0, x1, x2, x3, x4, x5, x6, x7], _, [v0, v1, v2, v3, v4, v5, v6, v7], _ =>
        have e0 : DataW.trod enc Tryd.prog W 0 _ true k 4 ((List.drop 0 _).take (Tryd.prog.cellsOf 4)) = some x0 := hel 0 _ rfl
        have e1 : DataW.trod enc Tryd.prog W 0 _ true k 4 ((List.drop 1 _).take (Tryd.prog.cellsOf 4)) = some x1 := hel 1 _ rfl
        have e2 : DataW.trod enc Tryd.prog W 0 _ true k 26 ((List.drop 2 _).take (Tryd.prog.cellsOf 26)) = some x2 := hel 2 _ rfl
        have e3 : DataW.trod enc Tryd.prog W 0 _ true k 5 ((List.drop 3 _).take (Tryd.prog.cellsOf 5)) = some x3 := hel 3 _ rfl
        have e4 : DataW.trod enc Tryd.prog W 0 _ true k 27 ((List.drop 4 _).take (Tryd.prog.cellsOf 27)) = some x4 := hel 4 _ rfl
        have e5 : DataW.trod enc Tryd.prog W 0 _ true k 27 ((List.drop 5 _).take (Tryd.prog.cellsOf 27)) = some x5 := hel 5 _ rfl
        have e6 : DataW.trod enc Tryd.prog W 0 _ true k 23 ((List.drop 6 _).take (Tryd.prog.cellsOf 23)) = some x6 := hel 6 _ rfl
        have e7 : DataW.trod enc Tryd.prog W 0 _ true k 5 ((List.drop 7 _).take (Tryd.prog.cellsOf 5)) = some x7 := hel 7 _ rfl
        simp only [cb, c16, c8, ci8, c64] at e0 e1 e2 e3 e4 e5 e6 e7
        obtain ⟨b0, g0, _⟩ := DataW.trod_bool Tryd.underlying4 (show DataW.trod _ Tryd.prog W 0 _ true k 4 _ = some x0 from e0)
        obtain ⟨b1, g1, _⟩ := DataW.trod_bool Tryd.underlying4 (show DataW.trod _ Tryd.prog W 0 _ true k 4 _ = some x1 from e1)
        obtain ⟨b2, g2, _, w2⟩ := DataW.trod_int Tryd.underlying26 (show DataW.trod _ Tryd.prog W 0 _ true k 26 _ = some x2 from e2)
        obtain ⟨b3, g3, _, w3⟩ := DataW.trod_int Tryd.underlying5 (show DataW.trod _ Tryd.prog W 0 _ true k 5 _ = some x3 from e3)
        obtain ⟨b4, g4, _, w4⟩ := DataW.trod_int Tryd.underlying27 (show DataW.trod _ Tryd.prog W 0 _ true k 27 _ = some x4 from e4)
        obtain ⟨b5, g5, _, w5⟩ := DataW.trod_int Tryd.underlying27 (show DataW.trod _ Tryd.prog W 0 _ true k 27 _ = some x5 from e5)
        obtain ⟨b6, g6, _, w6⟩ := DataW.trod_int Tryd.underlying23 (show DataW.trod _ Tryd.prog W 0 _ true k 23 _ = some x6 from e6)
        obtain ⟨b7, g7, _, w7⟩ := DataW.trod_int Tryd.underlying5 (show DataW.trod _ Tryd.prog W 0 _ true k 5 _ = some x7 from e7)
        simp at g0 g1 g2 g3 g4 g5 g6 g7
        subst g0 g1 g2 g3 g4 g5 g6 g7
        have q2 := wf_bounds w2
        have q3 := wf_bounds w3
        have q4 := wf_bounds w4
        have q5 := wf_bounds w5
        have q6 := wf_bounds w6
        have q7 := wf_bounds w7
        have m1 : IntKind.u16.min = 0 := rfl
        have m2 : IntKind.u16.max = 65535 := rfl
        have m3 : IntKind.u64.min = 0 := rfl
        have m4 : IntKind.u64.max = 18446744073709551615 := rfl
        have m5 : IntKind.u8.min = 0 := rfl
        have m6 : IntKind.u8.max = 255 := rfl
        have m7 : IntKind.i8.min = -128 := rfl
        have m8 : IntKind.i8.max = 127 := rfl
        refine ⟨⟨b0, b1, b2, b3, b4, b5, b6, b7⟩, ⟨by dsimp only; omega, by dsimp only; omega, by dsimp only; omega, by dsimp only; omega, by dsimp only; omega, by dsimp only; omega⟩, fun j u hu => ?_⟩
        have hj : j < 8 := (List.getElem?_eq_some_iff.1 hu).1
        have z := hcell j (by omega)
        exact z.trans hu
    obtain ⟨f, hfq⟩ := Deep.choose_lt each
    refine ⟨(List.range len).map f, ⟨some a', cap, by simp, by simpa using hle, fun k x hk => ?_⟩, by simp; omega⟩
    have hkl : k < len := by
      have := (List.getElem?_eq_some_iff.1 hk).1
      simpa using this
    have hxe : x = f k := by
      rw [List.getElem?_map, List.getElem?_range hkl] at hk
      simpa using hk.symm
    subst hxe
    obtain ⟨hb, hcs⟩ := hfq k hkl
    have hs : a'.spot = none := by
      have z := World.cell?_spot ((hfq 0 (by omega)).2 0 _ rfl)
      rwa [Nat.zero_mul, add_zero', add_zero'] at z
    obtain ⟨b, o, sp⟩ := a'
    simp only at hs
    subst hs
    refine ⟨hb, b, o, rfl, fun j u hu => ?_⟩
    have z := hcs j u hu
    rwa [add_lit, add_lit] at z
end
end Go.Proofs.YtinnkaokplmcbaaDoor
