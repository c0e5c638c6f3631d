/- What comes in: structs by value. -/
import Derived.Test.YtemngdhbicndlaaDoorOf
namespace Go.Proofs.YtemngdhbicndlaaDoor
open Go.ChangeShapes Go.WideShapes Go.ChangeAt Go.WideMaps Go.WideElems Go.RowKit
set_option linter.unusedVariables false


theorem arr_turn {cs : Array Value} (h : cs.size = 3) : ∃ a0 a1 a2, cs = #[a0, a1, a2] := by
  obtain ⟨l⟩ := cs
  match l, h with
  | [a0, a1, a2], _ => exact ⟨a0, a1, a2, rfl⟩
theorem c_turn_0 : Tryd.prog.cellsOf 23 = 1 := by kernel_rfl
theorem c_turn_1 : Tryd.prog.cellsOf 5 = 1 := by kernel_rfl
theorem c_turn_2 : Tryd.prog.cellsOf 24 = 1 := by kernel_rfl
theorem c_turn : Tryd.prog.cellsOf 26 = 3 := by kernel_rfl
set_option maxRecDepth 100000 in
theorem open_turn {H : Type} {enc : TypeId × Value → H} {W : World} {base : Nat} {v : Value} {d : DataW H} {p : List MemPlace} (hv : Value.okWide Tryd.prog W .any base 26 v) (h : DataW.Trod enc Tryd.prog W 0 (fun _ => true) true 26 v d p) (hw : (d.weights Tryd.prog 26).all (· ≤ reachBytes) = true) :
    ∃ (a : Int) (b : Int) (c : Int), v = .agg #[.int .u16 a, .int .u8 b, .int .i16 c] ∧ (0 ≤ a ∧ a < 65536) ∧ (0 ≤ b ∧ b < 256) ∧ (-32768 ≤ c ∧ c < 32768) := by
  obtain ⟨cs, rfl, hcs⟩ := okWide_st Tryd.underlying26 hv
  rw [c_turn] at hcs
  obtain ⟨a0, a1, a2, rfl⟩ := arr_turn hcs
  obtain ⟨fuel, hf⟩ := h
  obtain ⟨xs, n, _, hd, _, hn, hel⟩ := DataW.trod_struct Tryd.underlying26 hf
  match xs, hn, hd, hel with
  | [x0, x1, x2], _, hd, hel =>
  have e0 : DataW.trod enc Tryd.prog W 0 _ true n 23 ((List.drop 0 _).take (Tryd.prog.cellsOf 23)) = some x0 := hel 0 _ rfl
  have e1 : DataW.trod enc Tryd.prog W 0 _ true n 5 ((List.drop 1 _).take (Tryd.prog.cellsOf 5)) = some x1 := hel 1 _ rfl
  have e2 : DataW.trod enc Tryd.prog W 0 _ true n 24 ((List.drop 2 _).take (Tryd.prog.cellsOf 24)) = some x2 := hel 2 _ rfl
  simp only [c_turn_0, c_turn_1, c_turn_2] at e0 e1 e2
  obtain ⟨b0, g0, z0, w0⟩ := DataW.trod_int Tryd.underlying23 (show DataW.trod _ Tryd.prog W 0 _ true n 23 _ = some x0 from e0)
  obtain ⟨b1, g1, z1, w1⟩ := DataW.trod_int Tryd.underlying5 (show DataW.trod _ Tryd.prog W 0 _ true n 5 _ = some x1 from e1)
  obtain ⟨b2, g2, z2, w2⟩ := DataW.trod_int Tryd.underlying24 (show DataW.trod _ Tryd.prog W 0 _ true n 24 _ = some x2 from e2)
  simp [Value.cells] at g0 g1 g2
  subst g0 g1 g2
  have q0 := wfB w0
  have q1 := wfB w1
  have q2 := wfB w2
  have m1_u16 : IntKind.u16.min = 0 := rfl
  have m2_u16 : IntKind.u16.max = 65535 := rfl
  have m1_u8 : IntKind.u8.min = 0 := rfl
  have m2_u8 : IntKind.u8.max = 255 := rfl
  have m1_i16 : IntKind.i16.min = -32768 := rfl
  have m2_i16 : IntKind.i16.max = 32767 := rfl
  exact ⟨b0, b1, b2, rfl, by omega, by omega, by omega⟩

end Go.Proofs.YtemngdhbicndlaaDoor
