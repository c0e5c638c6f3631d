/- What comes in: structs by value. -/
import Derived.Test.YtdnnbnohemkfkaaDoorRa
namespace Go.Proofs.YtdnnbnohemkfkaaDoor
open Go.ChangeShapes Go.WideShapes Go.ChangeAt Go.WideMaps Go.WideElems Go.RowKit
set_option linter.unusedVariables false

theorem okWide_st {P : Program} {w : World} {r : Reach} {b : Nat} {t : TypeId} {fs : Array Field} {v : Value} (ht : P.underlying t = some (.struct fs)) (hv : Value.okWide P w r b t v) : ∃ cs, v = .agg cs ∧ cs.size = P.cellsOf t := by
  unfold Value.okWide at hv
  rw [ht] at hv
  obtain ⟨cs, h1, h2, _⟩ := hv
  exact ⟨cs, h1, h2⟩
theorem wfB {k : IntKind} {n : Int} (h : (Lit.int k n).wf = true) : k.min ≤ n ∧ n ≤ k.max := by simpa [Lit.wf] using h
theorem weighed {H : Type} {P : Program} {ts : List TypeId} {ds : List (DataW H)} (h : (DataW.weightsEach P ts ds).all (· ≤ reachBytes) = true) {j : Nat} {t : TypeId} {d : DataW H} (ht : ts[j]? = some t) (hd : ds[j]? = some d) : (d.weights P t).all (· ≤ reachBytes) = true :=
  List.all_eq_true.2 fun n hn => List.all_eq_true.1 h n (DataW.weights_mem_each ht hd n hn)

theorem arr_key {cs : Array Value} (h : cs.size = 6) : ∃ a0 a1 a2 a3 a4 a5, cs = #[a0, a1, a2, a3, a4, a5] := by
  obtain ⟨l⟩ := cs
  match l, h with
  | [a0, a1, a2, a3, a4, a5], _ => exact ⟨a0, a1, a2, a3, a4, a5, rfl⟩
theorem c_key_0 : Tryd.prog.cellsOf 5 = 1 := by kernel_rfl
theorem c_key_1 : Tryd.prog.cellsOf 9 = 1 := by kernel_rfl
theorem c_key_2 : Tryd.prog.cellsOf 23 = 1 := by kernel_rfl
theorem c_key : Tryd.prog.cellsOf 38 = 6 := by kernel_rfl
set_option maxRecDepth 100000 in
theorem open_key {H : Type} {enc : TypeId × Value → H} {W : World} {base : Nat} {v : Value} {d : DataW H} {p : List MemPlace} (hv : Value.okWide Tryd.prog W .any base 38 v) (h : DataW.Trod enc Tryd.prog W 0 (fun _ => true) true 38 v d p) (hw : (d.weights Tryd.prog 38).all (· ≤ reachBytes) = true) :
    ∃ (e : Int) (m : Int) (t : Int) (y : Int) (p : ByteArray) (id : Int), v = .agg #[.int .u8 e, .int .u8 m, .int .u8 t, .int .u8 y, .string p, .int .u32 id] ∧ (0 ≤ e ∧ e < 256) ∧ (0 ≤ m ∧ m < 256) ∧ (0 ≤ t ∧ t < 256) ∧ (0 ≤ y ∧ y < 256) ∧ p.size ≤ 140737488351232 ∧ (0 ≤ id ∧ id < 4294967296) := by
  obtain ⟨cs, rfl, hcs⟩ := okWide_st Tryd.underlying38 hv
  rw [c_key] at hcs
  obtain ⟨a0, a1, a2, a3, a4, a5, rfl⟩ := arr_key hcs
  obtain ⟨fuel, hf⟩ := h
  obtain ⟨xs, n, _, hd, _, hn, hel⟩ := DataW.trod_struct Tryd.underlying38 hf
  match xs, hn, hd, hel with
  | [x0, x1, x2, x3, x4, x5], _, hd, hel =>
  have e0 : DataW.trod enc Tryd.prog W 0 _ true n 5 ((List.drop 0 _).take (Tryd.prog.cellsOf 5)) = some x0 := hel 0 _ rfl
  have e1 : DataW.trod enc Tryd.prog W 0 _ true n 5 ((List.drop 1 _).take (Tryd.prog.cellsOf 5)) = some x1 := hel 1 _ rfl
  have e2 : DataW.trod enc Tryd.prog W 0 _ true n 5 ((List.drop 2 _).take (Tryd.prog.cellsOf 5)) = some x2 := hel 2 _ rfl
  have e3 : DataW.trod enc Tryd.prog W 0 _ true n 5 ((List.drop 3 _).take (Tryd.prog.cellsOf 5)) = some x3 := hel 3 _ rfl
  have e4 : DataW.trod enc Tryd.prog W 0 _ true n 9 ((List.drop 4 _).take (Tryd.prog.cellsOf 9)) = some x4 := hel 4 _ rfl
  have e5 : DataW.trod enc Tryd.prog W 0 _ true n 23 ((List.drop 5 _).take (Tryd.prog.cellsOf 23)) = some x5 := hel 5 _ rfl
  simp only [c_key_0, c_key_1, c_key_2] at e0 e1 e2 e3 e4 e5
  obtain ⟨b0, g0, z0, w0⟩ := DataW.trod_int Tryd.underlying5 (show DataW.trod _ Tryd.prog W 0 _ true n 5 _ = some x0 from e0)
  obtain ⟨b1, g1, z1, w1⟩ := DataW.trod_int Tryd.underlying5 (show DataW.trod _ Tryd.prog W 0 _ true n 5 _ = some x1 from e1)
  obtain ⟨b2, g2, z2, w2⟩ := DataW.trod_int Tryd.underlying5 (show DataW.trod _ Tryd.prog W 0 _ true n 5 _ = some x2 from e2)
  obtain ⟨b3, g3, z3, w3⟩ := DataW.trod_int Tryd.underlying5 (show DataW.trod _ Tryd.prog W 0 _ true n 5 _ = some x3 from e3)
  obtain ⟨b4, g4, z4, w4⟩ := DataW.trod_string Tryd.underlying9 (show DataW.trod _ Tryd.prog W 0 _ true n 9 _ = some x4 from e4)
  obtain ⟨b5, g5, z5, w5⟩ := DataW.trod_int Tryd.underlying23 (show DataW.trod _ Tryd.prog W 0 _ true n 23 _ = some x5 from e5)
  simp [Value.cells] at g0 g1 g2 g3 g4 g5
  subst g0 g1 g2 g3 g4 g5
  simp only [Prod.mk.injEq] at hd
  obtain ⟨hd, _⟩ := hd
  subst hd
  simp only [DataW.weights, Tryd.underlying38] at hw
  have q0 := wfB w0
  have q1 := wfB w1
  have q2 := wfB w2
  have q3 := wfB w3
  have q4 : b4.size ≤ 140737488351232 := by
    have z := sized_string hw (j := 4) (t := 9) rfl (by simp only [List.map_cons, List.getElem?_cons_zero, List.getElem?_cons_succ, z4]; rfl)
    rw [Array.length_toList] at z
    exact z
  have q5 := wfB w5
  have m1_u8 : IntKind.u8.min = 0 := rfl
  have m2_u8 : IntKind.u8.max = 255 := rfl
  have m1_u32 : IntKind.u32.min = 0 := rfl
  have m2_u32 : IntKind.u32.max = 4294967295 := rfl
  exact ⟨b0, b1, b2, b3, b4, b5, rfl, by omega, by omega, by omega, by omega, q4, by omega⟩

end Go.Proofs.YtdnnbnohemkfkaaDoor
