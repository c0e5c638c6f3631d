/- What comes in: records, drafts, pairs of bytes. -/
import Derived.Test.YtinnkaokplmcbaaDoorRa
import Derived.Test.YtinnkaokplmcbaaDoorLg
import Derived.Deep.Slices
namespace Go.Proofs.YtinnkaokplmcbaaDoor
open Go.ChangeShapes Go.WideShapes Go.ChangeAt Go.WideMaps Go.WideElems Go.RowKit
set_option linter.unusedVariables false

theorem okWide_struct {P : Program} {w : World} {r : Reach} {b : Nat} {t : TypeId} {fs : Array Field} {v : Value} (ht : P.underlying t = some (.struct fs)) (hv : Value.okWide P w r b t v) : ∃ cs, v = .agg cs ∧ cs.size = P.cellsOf t := by
  unfold Value.okWide at hv
  rw [ht] at hv
  obtain ⟨cs, h1, h2, _⟩ := hv
  exact ⟨cs, h1, h2⟩
theorem arr7 {cs : Array Value} (h : cs.size = 7) : ∃ a b c d e f g, cs = #[a, b, c, d, e, f, g] := by
  obtain ⟨l⟩ := cs
  match l, h with
  | [a, b, c, d, e, f, g], _ => exact ⟨a, b, c, d, e, f, g, rfl⟩
theorem arr8 {cs : Array Value} (h : cs.size = 8) : ∃ a b c d e f g i, cs = #[a, b, c, d, e, f, g, i] := by
  obtain ⟨l⟩ := cs
  match l, h with
  | [a, b, c, d, e, f, g, i], _ => exact ⟨a, b, c, d, e, f, g, i, rfl⟩

theorem cb : Tryd.prog.cellsOf 4 = 1 := by kernel_rfl
theorem c8 : Tryd.prog.cellsOf 5 = 1 := by kernel_rfl
theorem c16 : Tryd.prog.cellsOf 26 = 1 := by kernel_rfl
theorem c32 : Tryd.prog.cellsOf 22 = 1 := by kernel_rfl
theorem c64 : Tryd.prog.cellsOf 23 = 1 := by kernel_rfl
theorem ci : Tryd.prog.cellsOf 3 = 1 := by kernel_rfl
theorem ci8 : Tryd.prog.cellsOf 27 = 1 := by kernel_rfl
theorem cstr : Tryd.prog.cellsOf 9 = 1 := by kernel_rfl
theorem cR : Tryd.prog.cellsOf 25 = 7 := by kernel_rfl
theorem cD : Tryd.prog.cellsOf 29 = 8 := by kernel_rfl
theorem cU : Tryd.prog.cellsOf 63 = 2 := by kernel_rfl

section
variable {H : Type} {enc : TypeId × Value → H} {W : World} {base : Nat}
theorem wf_bounds {k : IntKind} {n : Int} (h : (Lit.int k n).wf = true) : k.min ≤ n ∧ n ≤ k.max := by
  simpa [Lit.wf] using h

theorem open_rec {v : Value} {d : DataW H} {p : List MemPlace} (hv : Value.okWide Tryd.prog W .any base 25 v) (h : DataW.Trod enc Tryd.prog W 0 (fun _ => true) true 25 v d p) :
    ∃ r : Rec, v = r.val ∧ 0 ≤ r.id ∧ r.id < 4294967296 ∧ 0 ≤ r.til ∧ r.til < 18446744073709551616 ∧ r.person.size ≤ maxLen := by
  obtain ⟨cs, rfl, hcs⟩ := okWide_struct Tryd.underlying25 hv
  rw [cR] at hcs
  obtain ⟨a0, a1, a2, a3, a4, a5, a6, rfl⟩ := arr7 hcs
  obtain ⟨fuel, hf⟩ := h
  obtain ⟨xs, n, _, _, _, hn, hel⟩ := DataW.trod_struct Tryd.underlying25 hf
  match xs, hn, hel with
  | [x0, x1, x2, x3, x4, x5, x6], _, hel =>
  have e0 : DataW.trod enc Tryd.prog W 0 _ true n 4 ((List.drop 0 _).take (Tryd.prog.cellsOf 4)) = some x0 := hel 0 _ rfl
  have e1 : DataW.trod enc Tryd.prog W 0 _ true n 22 ((List.drop 1 _).take (Tryd.prog.cellsOf 22)) = some x1 := hel 1 _ rfl
  have e2 : DataW.trod enc Tryd.prog W 0 _ true n 9 ((List.drop 2 _).take (Tryd.prog.cellsOf 9)) = some x2 := hel 2 _ rfl
  have e3 : DataW.trod enc Tryd.prog W 0 _ true n 3 ((List.drop 3 _).take (Tryd.prog.cellsOf 3)) = some x3 := hel 3 _ rfl
  have e4 : DataW.trod enc Tryd.prog W 0 _ true n 3 ((List.drop 4 _).take (Tryd.prog.cellsOf 3)) = some x4 := hel 4 _ rfl
  have e5 : DataW.trod enc Tryd.prog W 0 _ true n 3 ((List.drop 5 _).take (Tryd.prog.cellsOf 3)) = some x5 := hel 5 _ rfl
  have e6 : DataW.trod enc Tryd.prog W 0 _ true n 23 ((List.drop 6 _).take (Tryd.prog.cellsOf 23)) = some x6 := hel 6 _ rfl
  simp only [cb, c32, cstr, ci, c64] at e0 e1 e2 e3 e4 e5 e6
  obtain ⟨b0, g0, _⟩ := DataW.trod_bool Tryd.underlying4 (show DataW.trod _ Tryd.prog W 0 _ true n 4 _ = some x0 from e0)
  obtain ⟨b1, g1, _, w1⟩ := DataW.trod_int Tryd.underlying22 (show DataW.trod _ Tryd.prog W 0 _ true n 22 _ = some x1 from e1)
  obtain ⟨b2, g2, _, w2⟩ := DataW.trod_string Tryd.underlying9 (show DataW.trod _ Tryd.prog W 0 _ true n 9 _ = some x2 from e2)
  obtain ⟨b3, g3, _, w3⟩ := DataW.trod_int Tryd.underlying3 (show DataW.trod _ Tryd.prog W 0 _ true n 3 _ = some x3 from e3)
  obtain ⟨b4, g4, _, w4⟩ := DataW.trod_int Tryd.underlying3 (show DataW.trod _ Tryd.prog W 0 _ true n 3 _ = some x4 from e4)
  obtain ⟨b5, g5, _, w5⟩ := DataW.trod_int Tryd.underlying3 (show DataW.trod _ Tryd.prog W 0 _ true n 3 _ = some x5 from e5)
  obtain ⟨b6, g6, _, w6⟩ := DataW.trod_int Tryd.underlying23 (show DataW.trod _ Tryd.prog W 0 _ true n 23 _ = some x6 from e6)
  simp [Value.cells] at g0 g1 g2 g3 g4 g5 g6
  subst g0 g1 g2 g3 g4 g5 g6
  obtain ⟨u1, u2⟩ := wf_bounds w1
  obtain ⟨u3, u4⟩ := wf_bounds w6
  have m1 : IntKind.u32.min = 0 := rfl
  have m2 : IntKind.u32.max = 4294967295 := rfl
  have m3 : IntKind.u64.min = 0 := rfl
  have m4 : IntKind.u64.max = 18446744073709551615 := rfl
  exact ⟨⟨b0, b1, b2, b3, b4, b5, b6⟩, rfl, by dsimp only; omega, by dsimp only; omega, by dsimp only; omega, by dsimp only; omega, w2⟩

theorem open_draft {v : Value} {d : DataW H} {p : List MemPlace} (hv : Value.okWide Tryd.prog W .any base 29 v) (h : DataW.Trod enc Tryd.prog W 0 (fun _ => true) true 29 v d p) :
    ∃ (hold second : Bool) (id cls seat was til odd : Int), v = .agg #[.bool hold, .bool second, .int .u16 id, .int .u8 cls, .int .i8 seat, .int .i8 was, .int .u64 til, .int .u8 odd] ∧ (0 ≤ id ∧ id < 65536) ∧ (0 ≤ cls ∧ cls < 256) ∧ (-128 ≤ seat ∧ seat < 128) ∧ (-128 ≤ was ∧ was < 128) ∧ (0 ≤ til ∧ til < 18446744073709551616) ∧ (0 ≤ odd ∧ odd < 256) := by
  obtain ⟨cs, rfl, hcs⟩ := okWide_struct Tryd.underlying29 hv
  rw [cD] at hcs
  obtain ⟨a0, a1, a2, a3, a4, a5, a6, a7, rfl⟩ := arr8 hcs
  obtain ⟨fuel, hf⟩ := h
  obtain ⟨xs, n, _, _, _, hn, hel⟩ := DataW.trod_struct Tryd.underlying29 hf
  match xs, hn, hel with
  | [x0, x1, x2, x3, x4, x5, x6, x7], _, hel =>
  have e0 : DataW.trod enc Tryd.prog W 0 _ true n 4 ((List.drop 0 _).take (Tryd.prog.cellsOf 4)) = some x0 := hel 0 _ rfl
  have e1 : DataW.trod enc Tryd.prog W 0 _ true n 4 ((List.drop 1 _).take (Tryd.prog.cellsOf 4)) = some x1 := hel 1 _ rfl
  have e2 : DataW.trod enc Tryd.prog W 0 _ true n 26 ((List.drop 2 _).take (Tryd.prog.cellsOf 26)) = some x2 := hel 2 _ rfl
  have e3 : DataW.trod enc Tryd.prog W 0 _ true n 5 ((List.drop 3 _).take (Tryd.prog.cellsOf 5)) = some x3 := hel 3 _ rfl
  have e4 : DataW.trod enc Tryd.prog W 0 _ true n 27 ((List.drop 4 _).take (Tryd.prog.cellsOf 27)) = some x4 := hel 4 _ rfl
  have e5 : DataW.trod enc Tryd.prog W 0 _ true n 27 ((List.drop 5 _).take (Tryd.prog.cellsOf 27)) = some x5 := hel 5 _ rfl
  have e6 : DataW.trod enc Tryd.prog W 0 _ true n 23 ((List.drop 6 _).take (Tryd.prog.cellsOf 23)) = some x6 := hel 6 _ rfl
  have e7 : DataW.trod enc Tryd.prog W 0 _ true n 5 ((List.drop 7 _).take (Tryd.prog.cellsOf 5)) = some x7 := hel 7 _ rfl
  simp only [cb, c16, c8, ci8, c64] at e0 e1 e2 e3 e4 e5 e6 e7
  obtain ⟨b0, g0, _⟩ := DataW.trod_bool Tryd.underlying4 (show DataW.trod _ Tryd.prog W 0 _ true n 4 _ = some x0 from e0)
  obtain ⟨b1, g1, _⟩ := DataW.trod_bool Tryd.underlying4 (show DataW.trod _ Tryd.prog W 0 _ true n 4 _ = some x1 from e1)
  obtain ⟨b2, g2, _, w2⟩ := DataW.trod_int Tryd.underlying26 (show DataW.trod _ Tryd.prog W 0 _ true n 26 _ = some x2 from e2)
  obtain ⟨b3, g3, _, w3⟩ := DataW.trod_int Tryd.underlying5 (show DataW.trod _ Tryd.prog W 0 _ true n 5 _ = some x3 from e3)
  obtain ⟨b4, g4, _, w4⟩ := DataW.trod_int Tryd.underlying27 (show DataW.trod _ Tryd.prog W 0 _ true n 27 _ = some x4 from e4)
  obtain ⟨b5, g5, _, w5⟩ := DataW.trod_int Tryd.underlying27 (show DataW.trod _ Tryd.prog W 0 _ true n 27 _ = some x5 from e5)
  obtain ⟨b6, g6, _, w6⟩ := DataW.trod_int Tryd.underlying23 (show DataW.trod _ Tryd.prog W 0 _ true n 23 _ = some x6 from e6)
  obtain ⟨b7, g7, _, w7⟩ := DataW.trod_int Tryd.underlying5 (show DataW.trod _ Tryd.prog W 0 _ true n 5 _ = some x7 from e7)
  simp [Value.cells] at g0 g1 g2 g3 g4 g5 g6 g7
  subst g0 g1 g2 g3 g4 g5 g6 g7
  have q2 := wf_bounds w2
  have q3 := wf_bounds w3
  have q4 := wf_bounds w4
  have q5 := wf_bounds w5
  have q6 := wf_bounds w6
  have q7 := wf_bounds w7
  have m1 : IntKind.u16.min = 0 := rfl
  have m2 : IntKind.u16.max = 65535 := rfl
  have m3 : IntKind.u64.min = 0 := rfl
  have m4 : IntKind.u64.max = 18446744073709551615 := rfl
  have m5 : IntKind.u8.min = 0 := rfl
  have m6 : IntKind.u8.max = 255 := rfl
  have m7 : IntKind.i8.min = -128 := rfl
  have m8 : IntKind.i8.max = 127 := rfl
  exact ⟨b0, b1, b2, b3, b4, b5, b6, b7, rfl, by omega, by omega, by omega, by omega, by omega, by omega⟩

theorem add_zero' (a : Addr) : a.add 0 = a := by unfold Addr.add; simp

theorem open_pairs {v : Value} {d : DataW H} {p : List MemPlace} (hv : Value.okWide Tryd.prog W .any base 30 v) (h : DataW.Trod enc Tryd.prog W 0 (fun _ => true) true 30 v d p) :
    ∃ l, RdU W v l ∧ l.length ≤ maxLen := by
  obtain ⟨a, len, cap, rfl⟩ := okWide_slice Tryd.underlying30 hv
  obtain ⟨fuel, hf⟩ := h
  rcases Deep.open_slice Tryd.underlying30 hf with ⟨h0, _⟩ | ⟨a', len', cap', m, n, D, Pl, hc, _, hle, hcap, hm, _, hx⟩
  · simp [Value.cells] at h0
    obtain ⟨rfl, rfl, rfl⟩ := h0
    exact ⟨[], ⟨none, 0, rfl, Nat.le_refl _, fun k x hk => by simp at hk⟩, by simp⟩
  · simp [Value.cells] at hc
    obtain ⟨rfl, rfl, rfl⟩ := hc
    have hlm : len ≤ m := by rw [hm]; split <;> omega
    have each : ∀ i, i < len → ∃ q : Int × Int, (0 ≤ q.1 ∧ q.1 < 256 ∧ 0 ≤ q.2 ∧ q.2 < 256) ∧ W.cell? (a'.add (i * 2)) = some (.int .u8 q.1) ∧ W.cell? ((a'.add (i * 2)).add 1) = some (.int .u8 q.2) := by
      intro i hi
      obtain ⟨cs', h1, h2⟩ := hx i (by omega)
      rw [cU] at h1
      obtain ⟨_, hlen, hcell⟩ := World.cells?_some h1
      obtain ⟨xs, k, _, _, _, hxl, hel⟩ := DataW.trod_array Tryd.underlying63 h2
      rw [c8] at hel
      match xs, hxl, cs', hlen with
      | [y0, y1], _, [v0, v1], _ =>
        have g0 : DataW.trod enc Tryd.prog W 0 _ true k 5 [v0] = some y0 := hel 0 (by decide)
        have g1 : DataW.trod enc Tryd.prog W 0 _ true k 5 [v1] = some y1 := hel 1 (by decide)
        obtain ⟨b0, e0, _, w0⟩ := DataW.trod_int Tryd.underlying5 g0
        obtain ⟨b1, e1, _, w1⟩ := DataW.trod_int Tryd.underlying5 g1
        simp only [List.cons.injEq, and_true] at e0 e1
        subst e0 e1
        have q0 := wf_bounds w0
        have q1 := wf_bounds w1
        have m5 : IntKind.u8.min = 0 := rfl
        have m6 : IntKind.u8.max = 255 := rfl
        have z0 := hcell 0 (by omega)
        have z1 := hcell 1 (by omega)
        refine ⟨(b0, b1), by dsimp only; omega, ?_, ?_⟩
        · rw [add_zero'] at z0
          simpa using z0
        · simpa using z1
    obtain ⟨f, hfq⟩ := Deep.choose_lt each
    refine ⟨(List.range len).map f, ⟨some a', cap, by simp, by simpa using hle, fun k x hk => ?_⟩, by simp; omega⟩
    have hkl : k < len := by
      have := (List.getElem?_eq_some_iff.1 hk).1
      simpa using this
    have hxe : x = f k := by
      rw [List.getElem?_map, List.getElem?_range hkl] at hk
      simpa using hk.symm
    subst hxe
    obtain ⟨hb, hc0, hc1⟩ := hfq k hkl
    have hs : a'.spot = none := by
      have z := World.cell?_spot (hfq 0 (by omega)).2.1
      rwa [Nat.zero_mul, add_zero'] at z
    obtain ⟨b, o, sp⟩ := a'
    simp only at hs
    subst hs
    rw [add_lit] at hc0 hc1
    rw [add_lit] at hc1
    exact ⟨hb, b, o, rfl, hc0, hc1⟩
end
end Go.Proofs.YtinnkaokplmcbaaDoor
