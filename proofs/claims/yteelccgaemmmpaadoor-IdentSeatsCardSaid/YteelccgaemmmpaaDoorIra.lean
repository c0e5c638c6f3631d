/- What the laid tables give, a world that meets them, and the wrap that keeps the world's shape. -/
import Derived.Test.YteelccgaemmmpaaDoorRows
import Derived.Test.YteelccgaemmmpaaDoorTie
import Derived.Test.YteelccgaemmmpaaDoorCards
import Derived.Test.YteelccgaemmmpaaDoorId8
import Derived.ProofKit
import Derived.LaidMore
import Derived.OpenShut
import Derived.Stop.Joined
import Derived.SizedLaws
import Derived.Lib.SmallJoins
import Derived.SevenTiedAt
import Derived.Shelf.Vars
import Derived.Lay
namespace Go.Proofs.YteelccgaemmmpaaDoor
open Go.ChangeShapes Go.WideShapes Go.ChangeAt Go.WideMaps Go.WideElems Go.RowKit
set_option linter.unusedVariables false

theorem own : ownKnob Tryd.prog.godebug = none := by kernel_rfl
theorem laidOut : laidOutB Tryd.prog = true := by kernel_rfl
theorem gP : Tryd.prog.globalNamed "foyer/ident.inPersons" = some 1 := by kernel_rfl
theorem tP : (Tryd.prog.globals[1]?).map (·.type) = some 48 := by kernel_rfl
theorem gE : Tryd.prog.globalNamed "foyer/ident.inEvents" = some 0 := by kernel_rfl
theorem tE : (Tryd.prog.globals[0]?).map (·.type) = some 45 := by kernel_rfl

/-- What is laid in the program's variables, of every row. -/
def laidP : List (String × DataW Unit) := [("unicode/utf8.acceptRanges", Rows.laid_unicode_utf8_acceptRanges), ("foyer/ident.inEvents", Rows.laid_foyer_ident_inEvents), ("foyer/ident.inPersons", Rows.laid_foyer_ident_inPersons), ("unicode/utf8.first", Rows.laid_unicode_utf8_first)]

theorem laid_met (os : Os) (args : Array Value) : laidMetH Tryd.prog laidP ((World.laidAll Tryd.prog os laidP).forCall (fun _ _ => 0) ⟨#[], args, []⟩).memory := by
  rw [MakeChecks.laidMetH_plain _ _ _ (by kernel_rfl)]
  exact laidMet_laidAll _ (by kernel_rfl) (by kernel_rfl)

set_option maxRecDepth 100000 in
theorem gw_of_laid {W : World} (h : laidMetH Tryd.prog laidP W) : GE W ∧ GP W := by
  rw [MakeChecks.laidMetH_plain _ _ _ (by kernel_rfl)] at h
  obtain ⟨ps, ⟨_, _, _, _, _, q0, _, _, _, _, ⟨g1, t1, cs1, f1, p1, q1, hg1, ht1, hv1, hd1, ⟨g2, t2, cs2, f2, p2, q2, hg2, ht2, hv2, hd2, _, _⟩, _⟩, _⟩, _, _⟩ := h
  have c1 : Tryd.prog.cellsOf 44 = 2 := by kernel_rfl
  have c5 : Tryd.prog.cellsOf 5 = 1 := by kernel_rfl
  have c72 : Tryd.prog.cellsOf 48 = 2 := by kernel_rfl
  have c73 : Tryd.prog.cellsOf 45 = 6 := by kernel_rfl
  constructor
  · obtain rfl := Option.some.inj (gE.symm.trans hg1)
    obtain rfl := Option.some.inj (tE.symm.trans ht1)
    obtain ⟨xs, m1, rfl, hx1, hlen, hn3, hel⟩ := DataW.trod_array Tryd.underlying45 hd1
    have h0 := hel 0 (by decide)
    have h1 := hel 1 (by decide)
    have h2 := hel 2 (by decide)
    rw [c1] at h0 h1 h2
    rw [c73] at hlen
    match xs, hn3, hx1, h0, h1, h2 with
    | [x0, x1, x2], _, hx1, h0, h1, h2 =>
      simp only [Nat.zero_mul, Nat.one_mul, List.drop_zero, List.getElem?_cons_zero, List.getElem?_cons_succ] at h0 h1 h2
      obtain ⟨y0, y1, n, hx, hl, r0, r1⟩ := trod_struct2 Tryd.underlying44 h0
      obtain ⟨y0', y1', n', hx', hl', r0', r1'⟩ := trod_struct2 Tryd.underlying44 h1
      obtain ⟨y0'', y1'', n'', hx'', hl'', r0'', r1''⟩ := trod_struct2 Tryd.underlying44 h2
      rw [c5] at r0 r1 r0' r1' r0'' r1''
      obtain ⟨k0, e0, e0', _⟩ := DataW.trod_int Tryd.underlying5 r0
      obtain ⟨k1, e1, e1', _⟩ := DataW.trod_int Tryd.underlying5 r1
      obtain ⟨k2, e2, e2', _⟩ := DataW.trod_int Tryd.underlying5 r0'
      obtain ⟨k3, e3, e3', _⟩ := DataW.trod_int Tryd.underlying5 r1'
      obtain ⟨k4, e4, e4', _⟩ := DataW.trod_int Tryd.underlying5 r0''
      obtain ⟨k5, e5, e5', _⟩ := DataW.trod_int Tryd.underlying5 r1''
      subst hx hx' hx''
      simp only [Prod.mk.injEq, List.map_cons, List.map_nil, e0', e1', e2', e3', e4', e5', Rows.laid_foyer_ident_inEvents] at hx1
      obtain ⟨⟨q0, q1⟩, ⟨q2, q3⟩, q4, q5⟩ : (k0 = 97 ∧ k1 = 122) ∧ (k2 = 48 ∧ k3 = 57) ∧ k4 = 45 ∧ k5 = 45 := by simpa using hx1.1.symm
      subst q0 q1 q2 q3 q4 q5
      obtain ⟨l1⟩ := cs1
      match l1, hlen, e0, e1, e2, e3, e4, e5, hv1 with
      | [a, b, c, d, e, f], _, e0, e1, e2, e3, e4, e5, hv1 =>
        simp at e0 e1 e2 e3 e4 e5
        subst e0 e1 e2 e3 e4 e5
        exact ⟨⟨by simpa using World.var?_cell gE hv1 0, by simpa using World.var?_cell gE hv1 1⟩, ⟨by simpa using World.var?_cell gE hv1 2, by simpa using World.var?_cell gE hv1 3⟩, by simpa using World.var?_cell gE hv1 4, by simpa using World.var?_cell gE hv1 5⟩
  · obtain rfl := Option.some.inj (gP.symm.trans hg2)
    obtain rfl := Option.some.inj (tP.symm.trans ht2)
    obtain ⟨xs, m1, rfl, hx1, hlen, hn3, hel⟩ := DataW.trod_array Tryd.underlying48 hd2
    have h0 := hel 0 (by decide)
    rw [c1] at h0
    rw [c72] at hlen
    match xs, hn3, hx1, h0 with
    | [x0], _, hx1, h0 =>
      simp only [Nat.zero_mul, List.drop_zero, List.getElem?_cons_zero] at h0
      obtain ⟨y0, y1, n, hx, hl, r0, r1⟩ := trod_struct2 Tryd.underlying44 h0
      rw [c5] at r0 r1
      obtain ⟨k0, e0, e0', _⟩ := DataW.trod_int Tryd.underlying5 r0
      obtain ⟨k1, e1, e1', _⟩ := DataW.trod_int Tryd.underlying5 r1
      subst hx
      simp only [Prod.mk.injEq, List.map_cons, List.map_nil, e0', e1', Rows.laid_foyer_ident_inPersons] at hx1
      obtain ⟨q0, q1⟩ : k0 = 33 ∧ k1 = 126 := by simpa using hx1.1.symm
      subst q0 q1
      obtain ⟨l1⟩ := cs2
      match l1, hlen, e0, e1, hv2 with
      | [a, b], _, e0, e1, hv2 =>
        simp at e0 e1
        subst e0 e1
        exact ⟨by simpa using World.var?_cell gP hv2 0, by simpa using World.var?_cell gP hv2 1⟩

theorem gm_of_shape {W : World} (h : W.ShapedOpen Tryd.prog) : GM W :=
  cell_of_shapedOpen_int h (g := 2) (t := 3) (zero := #[.int .i64 0]) (by decide +kernel) (by kernel_rfl) rfl (by kernel_rfl) (by kernel_rfl) Tryd.underlying3
theorem gw_of {W : World} (h : laidMetH Tryd.prog laidP W) (hs : W.ShapedOpen Tryd.prog) : GW W := ⟨(gw_of_laid h).1, (gw_of_laid h).2, gm_of_shape hs⟩

/-- A contract for every world in which something lies, and that is of the program's shape, is the row's claim. -/
theorem returns_shaped {H : Type} {enc : TypeId × Value → H} {a : Assume} {C : Checked} {os : Os} {f : FuncId} {fn : Func} {s : ChangeSpec} {conds : List PathCond} {apart fresh handsOn again : Bool} {X : World → Array Value → Prop}
    (hX : ∀ (w w' : World) (args : Array Value), w.heap = w'.heap → X w args → X w' args)
    (own : ownKnob C.prog.godebug = none) (started : os.Started) (noInit : C.prog.inits.idxOf? f = none) (hfn : C.prog.funcs[f]? = some fn)
    (witness : ∃ (w : World) (tape : Tape) (i : Input), w.os = os ∧ (w.forCall tape i).Shaped C.prog ∧ i.vars = [] ∧ Input.okWide C.prog (w.forCall tape i) .any w.heap.size f i ∧
      ((s.pre enc C.prog fn conds apart (w.forCall tape i).memory i.args ∧ X (w.forCall tape i).memory i.args) ∧ sizedMet enc C.prog fn (OpenSpec.ofChange s) apart (w.forCall tape i).memory i.args) ∧ a.holds C.prog (lone (Frame.enter C.prog f i.args .normal) [] (w.forCall tape i)))
    (contract : ∀ (W : World) (base : Nat) (args : Array Value) (ds gs : List (DataW H)) (before : List MemPlace),
      (∀ (j : Nat) t v, fn.params[j]? = some t → args[j]? = some v → Value.okWide C.prog W .any base t v) →
      DataW.Whole enc C.prog fn.params.toList s.vars apart W args.toList ds gs before →
      conds.all (PathCond.test C.prog ⟨fn.params.toList, ds, s.plain.varTypes C.prog, gs⟩) = true →
      (DataW.weightsEach C.prog (fn.params.toList ++ s.plain.varTypes C.prog) (ds ++ gs)).all (· ≤ reachBytes) = true → X W args → W.ShapedOpen C.prog →
      Calls C.prog f args W fun e W' => ∃ v, e = .returned v ∧ s.post enc C.prog fn apart fresh handsOn again W args v W') :
    ReturnsInHanded a C os f .any (fun w args => (s.pre enc C.prog fn conds apart w args ∧ X w args) ∧ sizedMet enc C.prog fn (OpenSpec.ofChange s) apart w args) (s.post enc C.prog fn apart fresh handsOn again) := by
  refine returnsInHanded_of_calls own started noInit witness ?_
  intro w tape i _ hsh _ hok hpre hholds
  obtain ⟨_, _, _, fn', hfn', _, _, _, _, hval⟩ := hok
  have e : fn' = fn := Option.some.inj (hfn'.symm.trans hfn)
  subst e
  obtain ⟨⟨⟨ds, gs, before, hw, hc⟩, hx⟩, hz⟩ := hpre
  have hw' := DataW.Whole.of_heap (w' := w.forCall tape i) (by rfl) hw
  refine (contract (w.forCall tape i) w.heap.size i.args ds gs before hval hw' hc (hz.weights hw) (hX _ _ _ (by rfl) hx) hsh).mono fun e W' ⟨v, he, hp⟩ => ?_
  subst he
  exact ChangeSpec.post_blind hp
end Go.Proofs.YteelccgaemmmpaaDoor
