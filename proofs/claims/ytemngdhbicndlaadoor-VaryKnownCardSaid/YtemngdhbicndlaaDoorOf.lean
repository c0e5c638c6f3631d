/- What comes in: lists of fields. -/
import Derived.Test.YtemngdhbicndlaaDoorOe
import Derived.Test.YtemngdhbicndlaaDoorVb8
namespace Go.Proofs.YtemngdhbicndlaaDoor
open Go.ChangeShapes Go.WideShapes Go.ChangeAt Go.WideMaps Go.WideElems Go.RowKit
set_option linter.unusedVariables false
set_option linter.unusedSimpArgs false

instance : Inhabited Fd := ⟨⟨0, false, 0, ⟨#[]⟩⟩⟩
theorem of_spot {P : Program} {w : World} {r : Reach} {b : Nat} {t e : TypeId} {a : Addr} {n c : Nat} (ht : P.underlying t = some (.slice e)) (hv : Value.okWide P w r b t (.slice (some a) n c)) : a.spot = none := by
  simp only [Value.okWide, ht, Cell.okWide, Cell.ok] at hv
  exact hv.2.2.2.1
theorem of_cb : Tryd.prog.cellsOf 4 = 1 := by kernel_rfl
theorem of_ci : Tryd.prog.cellsOf 3 = 1 := by kernel_rfl
theorem of_cu : Tryd.prog.cellsOf 48 = 1 := by kernel_rfl
theorem of_cs : Tryd.prog.cellsOf 9 = 1 := by kernel_rfl
theorem of_cf : Tryd.prog.cellsOf 50 = 4 := by kernel_rfl
section
variable {H : Type} {enc : TypeId × Value → H} {W : World} {base : Nat}

set_option maxRecDepth 100000 in
theorem open_fields {v : Value} {d : DataW H} {p : List MemPlace} (hv : Value.okWide Tryd.prog W .any base 22 v) (h : DataW.Trod enc Tryd.prog W 0 (fun _ => true) true 22 v d p) :
    ∃ l : List Fd, RdV W v l ∧ l.length ≤ maxLen ∧ ∀ f ∈ l, f.n < 18446744073709551616 := by
  have hv' := hv
  obtain ⟨a, len, cap, rfl⟩ := okWide_slice Tryd.underlying22 hv
  obtain ⟨fuel, hf⟩ := h
  rcases Deep.open_slice Tryd.underlying22 hf with ⟨h0, _⟩ | ⟨a', len', cap', m, n, D, Pl, hc, _, hle, hcap, hm, _, hx⟩
  · simp [Value.cells] at h0
    obtain ⟨rfl, rfl, rfl⟩ := h0
    exact ⟨[], RdV.nil W, by simp, by simp⟩
  · simp [Value.cells] at hc
    obtain ⟨rfl, rfl, rfl⟩ := hc
    have hlm : len ≤ m := by rw [hm]; split <;> omega
    have hsp := of_spot Tryd.underlying22 hv'
    obtain ⟨b, o, sp⟩ := a'
    simp only at hsp
    subst hsp
    have each : ∀ i, i < len → ∃ q : Fd, q.n < 18446744073709551616 ∧ ∀ (j : Nat) (u : Value), (fdC q)[j]? = some u → W.cell? ⟨b, o + i * 4 + j, none⟩ = some u := by
      intro i hi
      obtain ⟨cs', h1, h2⟩ := hx i (by omega)
      rw [of_cf] at h1
      obtain ⟨_, hlen, hcell⟩ := World.cells?_some h1
      obtain ⟨xs, k, _, _, _, hxl, hel⟩ := DataW.trod_struct Tryd.underlying50 h2
      match xs, hxl, cs', hlen with
      | [x0, x1, x2, x3], _, [v0, v1, v2, v3], _ =>
        have e0 : DataW.trod enc Tryd.prog W 0 _ true k 3 ((List.drop 0 _).take (Tryd.prog.cellsOf 3)) = some x0 := hel 0 _ rfl
        have e1 : DataW.trod enc Tryd.prog W 0 _ true k 4 ((List.drop 1 _).take (Tryd.prog.cellsOf 4)) = some x1 := hel 1 _ rfl
        have e2 : DataW.trod enc Tryd.prog W 0 _ true k 48 ((List.drop 2 _).take (Tryd.prog.cellsOf 48)) = some x2 := hel 2 _ rfl
        have e3 : DataW.trod enc Tryd.prog W 0 _ true k 9 ((List.drop 3 _).take (Tryd.prog.cellsOf 9)) = some x3 := hel 3 _ rfl
        simp only [of_cb, of_ci, of_cu, of_cs] at e0 e1 e2 e3
        obtain ⟨b0, g0, _, w0⟩ := DataW.trod_int Tryd.underlying3 (show DataW.trod _ Tryd.prog W 0 _ true k 3 _ = some x0 from e0)
        obtain ⟨b1, g1, _⟩ := DataW.trod_bool Tryd.underlying4 (show DataW.trod _ Tryd.prog W 0 _ true k 4 _ = some x1 from e1)
        obtain ⟨b2, g2, _, w2⟩ := DataW.trod_int Tryd.underlying48 (show DataW.trod _ Tryd.prog W 0 _ true k 48 _ = some x2 from e2)
        obtain ⟨b3, g3, _, w3⟩ := DataW.trod_string Tryd.underlying9 (show DataW.trod _ Tryd.prog W 0 _ true k 9 _ = some x3 from e3)
        simp at g0 g1 g2 g3
        subst g0 g1 g2 g3
        have q2 := wfB w2
        have m3 : IntKind.u64.min = 0 := rfl
        have m4 : IntKind.u64.max = 18446744073709551615 := rfl
        refine ⟨⟨b0, b1, b2.toNat, b3⟩, by show b2.toNat < _; omega, fun j u hu => ?_⟩
        have hj : j < 4 := (List.getElem?_eq_some_iff.1 hu).1
        have z := hcell j (by omega)
        have hb2 : ((b2.toNat : Nat) : Int) = b2 := by omega
        unfold fdC at hu
        simp only [hb2] at hu
        rw [add_lit, add_lit] at z
        exact z.trans hu
    obtain ⟨f, hfq⟩ := Deep.choose_lt each
    refine ⟨(List.range len).map f, ⟨some (b, o), cap, by simp, by simpa using hle, (fun h => by cases h), fun p hp k x hk j u hu => ?_⟩, by simp; omega, fun x hx => ?_⟩
    · obtain rfl : (b, o) = p := by simpa using hp
      have hkl : k < len := by
        have := (List.getElem?_eq_some_iff.1 hk).1
        simpa using this
      have hxe : x = f k := by
        rw [List.getElem?_map, List.getElem?_range hkl] at hk
        simpa using hk.symm
      subst hxe
      exact (hfq k hkl).2 j u hu
    · obtain ⟨k, hk, rfl⟩ := List.mem_map.1 hx
      exact (hfq k (List.mem_range.1 hk)).1
end
end Go.Proofs.YtemngdhbicndlaaDoor
