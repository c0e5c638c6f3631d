/- What comes in: a hall; an array of two bytes; and what the laid table gives. -/
import Derived.Test.YtpbfabcihoiiiaaDoorRows
import Derived.Test.YtpbfabcihoiiiaaDoorTie
import Derived.Test.YtpbfabcihoiiiaaDoorCards
import Derived.Test.YtpbfabcihoiiiaaDoorHl2
import Derived.Test.YtpbfabcihoiiiaaDoorTo1
import Derived.ProofKit
import Derived.LaidMore
import Derived.LaidHandle
import Derived.LaidLaws
import Derived.JoinedOf
import Derived.OpenShut
import Derived.Stop.Joined
import Derived.SizedLaws
import Derived.Lib.SmallJoins
import Derived.Deep.Slices
import Derived.ChangeSame
import Derived.SevenTiedAt
namespace Go.Proofs.YtpbfabcihoiiiaaDoor
open Go.ChangeShapes Go.WideShapes Go.ChangeAt Go.WideMaps Go.WideElems Go.RowKit
set_option linter.unusedVariables false

theorem own : ownKnob Tryd.prog.godebug = none := by kernel_rfl
theorem laidOut : laidOutB Tryd.prog = true := by kernel_rfl
theorem gET : Tryd.prog.globalNamed "errors.errorType" = some 0 := by kernel_rfl
theorem rtT : (Tryd.prog.cutTypes.find? (·.1 == "internal/reflectlite.rtype")).map (·.2) = some 99 := by kernel_rfl
theorem oneRowE : ((List.range Tryd.prog.types.size).filter fun t => Tryd.prog.rowNamed t [101, 114, 114, 111, 114]) = [33] := by kernel_rfl
def laidP {H : Type} : List (String × DataW H) := [("errors.errorType", Rows.laid_errors_errorType)]
theorem et_of_laid {W : World} (h : laidMetH Tryd.prog laidP W) : EtP W := by
  have h' : laidMet Tryd.prog [] W ∧ handlesMet Tryd.prog laidP W := h
  obtain ⟨name, u, ty, e1, e2, e3, e4, e5⟩ := h'.2 _ (List.mem_singleton.2 rfl)
  have en : name = [101, 114, 114, 111, 114] := (Option.some.inj e1).symm
  subst en
  obtain rfl := Option.some.inj (rtT.symm.trans e2)
  have hm : ty ∈ (List.range Tryd.prog.types.size).filter fun t => Tryd.prog.rowNamed t [101, 114, 114, 111, 114] := List.mem_filter.2 ⟨List.mem_range.2 e3, e4⟩
  rw [oneRowE] at hm
  obtain rfl := List.mem_singleton.1 hm
  have hh : typeHandle Tryd.prog 33 = .pointer (some ⟨2, 33, none⟩) := by kernel_rfl
  rw [hh] at e5
  have z := World.var?_cell gET e5 0
  exact z.trans rfl
/-- A world that meets the condition: the settled one, the variable's cell laid. -/
noncomputable def laidWorld (os : Os) : World :=
  let w0 := World.holding Tryd.prog os ⟨#[], #[], []⟩
  { w0 with heap := w0.heap.modify 0 fun
      | .cells _ t frozen => .cells #[.iface 99 (.agg #[.pointer (some ⟨2, 33, none⟩)])] t frozen
      | o => o }
theorem laidWorld_met (os : Os) (args : Array Value) : laidMetH Tryd.prog laidP ((laidWorld os).forCall (fun _ _ => 0) ⟨#[], args, []⟩).memory :=
  laidMetH_of_parts (laidMet_nil _ _) (by kernel_rfl)

theorem z0_add (a : Addr) : a.add 0 = a := by unfold Addr.add; simp
theorem wfB {k : IntKind} {n : Int} (h : (Lit.int k n).wf = true) : k.min ≤ n ∧ n ≤ k.max := by simpa [Lit.wf] using h
theorem cRow : Tryd.prog.cellsOf 47 = 2 := by kernel_rfl
theorem cInt : Tryd.prog.cellsOf 3 = 1 := by kernel_rfl
theorem c8 : Tryd.prog.cellsOf 5 = 1 := by kernel_rfl
theorem cHall : Tryd.prog.cellsOf 24 = 1 := by kernel_rfl
theorem cRows : Tryd.prog.cellsOf 22 = 1 := by kernel_rfl
theorem cTwo : Tryd.prog.cellsOf 25 = 2 := by kernel_rfl
theorem arr_one {cs : Array Value} (h : cs.size = 1) : ∃ a, cs = #[a] := by
  obtain ⟨l⟩ := cs
  match l, h with
  | [a], _ => exact ⟨a, rfl⟩
theorem arr_two {cs : Array Value} (h : cs.size = 2) : ∃ a b, cs = #[a, b] := by
  obtain ⟨l⟩ := cs
  match l, h with
  | [a, b], _ => exact ⟨a, b, rfl⟩
theorem okWide_ar {P : Program} {w : World} {r : Reach} {b : Nat} {t e : TypeId} {n : Nat} {v : Value} (ht : P.underlying t = some (.array n e)) (hv : Value.okWide P w r b t v) : ∃ cs, v = .agg cs ∧ cs.size = P.cellsOf t := by
  unfold Value.okWide at hv
  rw [ht] at hv
  obtain ⟨cs, h1, h2, _⟩ := hv
  exact ⟨cs, h1, h2⟩
set_option maxRecDepth 100000 in
theorem open_hall {H : Type} {enc : TypeId × Value → H} {W : World} {base : Nat} {v : Value} {d : DataW H} {p : List MemPlace} (hv : Value.okWide Tryd.prog W .any base 24 v) (h : DataW.Trod enc Tryd.prog W 0 (fun _ => true) true 24 v d p) :
    ∃ u l, v = .agg #[u] ∧ RdH W u l ∧ l.length ≤ maxLen := by
  obtain ⟨cs, rfl, hcs⟩ := okWide_struct Tryd.underlying24 hv
  rw [cHall] at hcs
  obtain ⟨u, rfl⟩ := arr_one hcs
  obtain ⟨fuel, hf⟩ := h
  obtain ⟨y0, n0, _, _, hf0⟩ := trod_struct1 Tryd.underlying24 hf
  have hf1 : DataW.trod enc Tryd.prog W 0 _ true n0 22 ((List.drop 0 _).take (Tryd.prog.cellsOf 22)) = some y0 := hf0
  rw [cRows] at hf1
  refine ⟨u, ?_⟩
  rcases Deep.open_slice Tryd.underlying22 hf1 with ⟨h0, _⟩ | ⟨a', len', cap', m, n, D, Pl, hc, _, hle, hcap, hm, _, hx⟩
  · simp [Value.cells] at h0
    subst h0
    exact ⟨[], rfl, ⟨none, 0, rfl, Nat.le_refl _, fun k x hk => by simp at hk⟩, by simp⟩
  · simp [Value.cells] at hc
    subst hc
    have hlm : len' ≤ m := by rw [hm]; split <;> omega
    have each : ∀ i, i < len' → ∃ q : HRow, rwB q ∧ W.cell? ((a'.add (i * 2)).add 0) = some (.int .i64 q.1) ∧ W.cell? ((a'.add (i * 2)).add 1) = some (.int .u8 (q.2 : Nat)) := by
      intro i hi
      obtain ⟨cs', h1, h2⟩ := hx i (by omega)
      rw [cRow] at h1
      obtain ⟨_, hlen, hcell⟩ := World.cells?_some h1
      obtain ⟨xs, k, _, _, _, hxl, hel⟩ := DataW.trod_struct Tryd.underlying47 h2
      match xs, hxl, cs', hlen with
      | [x0, x1], _, [v0, v1], _ =>
        have e0 : DataW.trod enc Tryd.prog W 0 _ true k 3 ((List.drop 0 _).take (Tryd.prog.cellsOf 3)) = some x0 := hel 0 _ rfl
        have e1 : DataW.trod enc Tryd.prog W 0 _ true k 5 ((List.drop 1 _).take (Tryd.prog.cellsOf 5)) = some x1 := hel 1 _ rfl
        simp only [cInt, c8] at e0 e1
        obtain ⟨b0, g0, _, w0⟩ := DataW.trod_int Tryd.underlying3 (show DataW.trod _ Tryd.prog W 0 _ true k 3 _ = some x0 from e0)
        obtain ⟨b1, g1, _, w1⟩ := DataW.trod_int Tryd.underlying5 (show DataW.trod _ Tryd.prog W 0 _ true k 5 _ = some x1 from e1)
        simp at g0 g1
        subst g0 g1
        have q0 := wfB w0
        have q1 := wfB w1
        have m5 : IntKind.u8.min = 0 := rfl
        have m6 : IntKind.u8.max = 255 := rfl
        have m7 : IntKind.i64.min = -9223372036854775808 := rfl
        have m8 : IntKind.i64.max = 9223372036854775807 := rfl
        have hb1 : ((b1.toNat : Nat) : Int) = b1 := by omega
        refine ⟨(b0, b1.toNat), ⟨by dsimp only; omega, by dsimp only; omega, by dsimp only; omega⟩, hcell 0 (by omega), ?_⟩
        dsimp only
        rw [hb1]
        exact hcell 1 (by omega)
    obtain ⟨f, hfq⟩ := Deep.choose_lt each
    refine ⟨(List.range len').map f, by simp, ⟨some a', cap', by simp, by simpa using hle, fun k x hk => ?_⟩, by simp; omega⟩
    have hkl : k < len' := by
      have := (List.getElem?_eq_some_iff.1 hk).1
      simpa using this
    have hxe : x = f k := by
      rw [List.getElem?_map, List.getElem?_range hkl] at hk
      simpa using hk.symm
    subst hxe
    obtain ⟨hb, hc0, hc1⟩ := hfq k hkl
    have hs : a'.spot = none := by
      have z := World.cell?_spot (hfq 0 (by omega)).2.1
      rwa [Nat.zero_mul, z0_add, z0_add] at z
    obtain ⟨b, o, sp⟩ := a'
    simp only at hs
    subst hs
    rw [add_lit, add_lit] at hc0 hc1
    exact ⟨hb, b, o, rfl, hc0, hc1⟩
set_option maxRecDepth 100000 in
theorem open_two {H : Type} {enc : TypeId × Value → H} {W : World} {base : Nat} {v : Value} {d : DataW H} {p : List MemPlace} (hv : Value.okWide Tryd.prog W .any base 25 v) (h : DataW.Trod enc Tryd.prog W 0 (fun _ => true) true 25 v d p) :
    ∃ x y : Int, v = .agg #[.int .u8 x, .int .u8 y] ∧ (0 ≤ x ∧ x < 256) ∧ (0 ≤ y ∧ y < 256) := by
  obtain ⟨cs, rfl, hcs⟩ := okWide_ar Tryd.underlying25 hv
  rw [cTwo] at hcs
  obtain ⟨u0, u1, rfl⟩ := arr_two hcs
  obtain ⟨fuel, hf⟩ := h
  obtain ⟨xs, k, _, _, _, hxl, hel⟩ := DataW.trod_array Tryd.underlying25 hf
  rw [c8] at hel
  match xs, hxl with
  | [y0, y1], _ =>
    have g0 : DataW.trod enc Tryd.prog W 0 _ true k 5 [u0] = some y0 := hel 0 (by decide)
    have g1 : DataW.trod enc Tryd.prog W 0 _ true k 5 [u1] = some y1 := hel 1 (by decide)
    obtain ⟨b0, e0, _, w0⟩ := DataW.trod_int Tryd.underlying5 g0
    obtain ⟨b1, e1, _, w1⟩ := DataW.trod_int Tryd.underlying5 g1
    simp only [List.cons.injEq, and_true] at e0 e1
    subst e0 e1
    have q0 := wfB w0
    have q1 := wfB w1
    have m5 : IntKind.u8.min = 0 := rfl
    have m6 : IntKind.u8.max = 255 := rfl
    exact ⟨b0, b1, rfl, by omega, by omega⟩
end Go.Proofs.YtpbfabcihoiiiaaDoor
