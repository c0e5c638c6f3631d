/- The seats of a hall, one behind the other: the iterator. -/
import Derived.Test.YtpbfabcihoiiiaaHl2
import Derived.RangeFuncBox
import Derived.RangeFuncNested
import Derived.RangeFuncLeaves
import Derived.Shelf.Abstract
import Derived.OwnWalkIn
import Derived.TacticsInMore
import Derived.LoopNIn
import Derived.LoopIn
import Derived.Maps.AppendAt
namespace Go.Proofs.Ytpbfabcihoiiiaa
open Go.RowKit Go.Shelf
attribute [local go_sem] Oper.semAt_some
set_option linter.unusedVariables false
set_option linter.unusedSimpArgs false

/-- The seat at a place, if there is one, and its class. -/
def stA (l : List HRow) (q : Nat) : List (Int × Int) :=
  match l[q / 8]? with
  | some r => if r.2.testBit (q % 8) = true then [((q : Int), r.1)] else []
  | none => []
def stN (l : List HRow) : Nat → List (Int × Int)
  | 0 => []
  | q + 1 => stN l q ++ stA l q
/-- All seats. -/
def sts (l : List HRow) : List (Int × Int) := stN l (8 * min l.length 8)
/-- A seat that may be, and a class. -/
abbrev SeatX := { x : Int × Int // 0 ≤ x.1 ∧ x.1 < 64 }
def vals (l : List SeatX) : List (Int × Int) := l.map (fun x => x.1)
theorem vals_snoc (l : List SeatX) (x : SeatX) : vals (l ++ [x]) = vals l ++ [x.1] := by simp [vals]
def stX (x : SeatX) : Array Value := #[.int .i64 x.1.1, .int .i64 x.1.2]
theorem stN_mono (l : List HRow) (q : Nat) : ∀ d, stN l q <+: stN l (q + d)
  | 0 => List.prefix_refl _
  | d + 1 => (stN_mono l q d).trans (by show _ <+: stN l (q + d) ++ _; exact List.prefix_append _ _)
theorem stN_pre {l : List HRow} {q n : Nat} (h : q ≤ n) : stN l q <+: stN l n := by
  have := stN_mono l q (n - q)
  rwa [show q + (n - q) = n by omega] at this
theorem stN_yes {l : List HRow} {k q : Nat} {r : HRow} (hr : l[k]? = some r) (hq : q < 8) (hb : r.2.testBit q = true) : stN l (8 * k + q + 1) = stN l (8 * k + q) ++ [(8 * (k : Int) + (q : Int), r.1)] := by
  show stN l (8 * k + q) ++ stA l (8 * k + q) = _
  unfold stA
  rw [show (8 * k + q) / 8 = k by omega, hr, show (8 * k + q) % 8 = q by omega]
  simp [hb]
theorem stN_no {l : List HRow} {k q : Nat} {r : HRow} (hr : l[k]? = some r) (hq : q < 8) (hb : r.2.testBit q = false) : stN l (8 * k + q + 1) = stN l (8 * k + q) := by
  show stN l (8 * k + q) ++ stA l (8 * k + q) = _
  unfold stA
  rw [show (8 * k + q) / 8 = k by omega, hr, show (8 * k + q) % 8 = q by omega]
  simp [hb]
/-- What a round that goes on keeps. -/
def KpS (n₀ : Nat) (A B : World) : Prop := Below n₀ A B ∧ ∀ T, T = 26 ∨ T = 29 → ∀ (b : Nat) (cs : Array Value), A.heap[b]? = some (Obj.cells cs T (0, 0)) → B.heap[b]? = some (Obj.cells cs T (0, 0))
theorem KpS.t {n₀ : Nat} {A B C : World} (h : KpS n₀ A B) (k : KpS n₀ B C) : KpS n₀ A C := ⟨h.1.trans k.1, fun T hT b cs hb => k.2 T hT b cs (h.2 T hT b cs hb)⟩
theorem KpS.refl (n₀ : Nat) (A : World) : KpS n₀ A A := ⟨Below.refl _ _, fun _ _ _ _ h => h⟩
theorem KpS.b {n₀ : Nat} {w : World} (hn : n₀ ≤ w.heap.size) (W : World) (l : Nat) (o o' : Obj) (hl : w.heap.size ≤ l) (h : W.heap[l]? = some o) (hc : o.isCells = false) (hw : o.isWalk = false) : KpS n₀ W (W.putObj l o') :=
  ⟨belowK_b hn W l o o' hl h hc hw, fun T hT b cs hb => by
    rw [World.putObj_heap_other (fun e => by
      subst e
      rw [hb] at h
      cases h
      cases hc)]
    exact hb⟩
theorem KpS.of_below {n₀ : Nat} {A B : World} (hn : n₀ ≤ A.heap.size) (h : Below A.heap.size A B) : KpS n₀ A B :=
  ⟨h.mono hn, fun T hT b cs hb => (h.block b (Array.getElem?_eq_some_iff.1 hb).1).trans hb⟩

set_option maxRecDepth 100000 in
set_option maxHeartbeats 2000000 in
theorem seats1_in (l Bn n₀ : Nat) (L : List HRow) (v : Value) (J Jx : List SeatX → World → Prop) (W : World) (hJ : AbidesFrom W.heap.size J) (hn : n₀ ≤ W.heap.size)
    (hY : ∀ pre x W, J pre W → pre.length < (sts L).length → YieldAt Fence.wide (2 - 1) Try.prog l (stX x) W fun e W' =>
      (e = .returned (.bool true) ∧ J (pre ++ [x]) W' ∧ KpS n₀ W W') ∨ (e = .returned (.bool false) ∧ Jx (pre ++ [x]) W'))
    (hBn : W.heap[Bn]? = some (.cells #[v] 26 (0, 0))) (hM : ∀ W', Below n₀ W W' → RdH W' v L) (hL : L.length ≤ 140737488355328) (h0 : J [] W) :
    CallsIn Fence.wide 2 Try.prog 28 #[.func (.yield l) #[] #[], .pointer (some ⟨Bn, 0, none⟩)] W fun e W' => (∃ v, e = .returned v) ∧
      ((∃ ys, vals ys = sts L ∧ J ys W') ∨ (∃ pre, vals pre <+: sts L ∧ Jx pre W')) := by
  obtain ⟨a, c, rfl, hc, hr⟩ := hM W (Below.refl _ _)
  have HM := Lib.hid hM
  clear hM hr
  have hbx : Boxed W Bn 26 (.slice a L.length c) := hBn
  have hcb := hbx.cell
  refine callsIn_of_wp Try.func28 rfl trivial ?_ rfl
  simp only [Try.ntmps28, List.size_toArray, List.length_cons, List.length_nil, Nat.reduceAdd, Nat.reduceSub, Array.replicate_succ, Array.replicate_zero, List.push_toArray, List.append_toArray, List.nil_append, List.cons_append]
  gi_wp2
  case' inl =>
    have hN8 : 8 ≤ L.length := by omega
    obtain ⟨N, hN⟩ : ∃ N : Nat, 8 = N := ⟨_, rfl⟩
    have HN : Hid (sts L = stN L (8 * N)) := by show sts L = stN L (8 * N); unfold sts; rw [Nat.min_eq_right hN8, hN]
    have hNL : N ≤ L.length := by omega
    have hNs : N ≤ 8 := by omega
    rw [show (max (8 : Int) 0) = (N : Int) by omega, show Value.slice a 8 c = Value.slice a N c by rw [hN]]
    clear hN hN8
  case' inr =>
    have hN8 : L.length ≤ 8 := by omega
    obtain ⟨N, hN⟩ : ∃ N : Nat, L.length = N := ⟨_, rfl⟩
    have HN : Hid (sts L = stN L (8 * N)) := by show sts L = stN L (8 * N); unfold sts; rw [Nat.min_eq_left hN8, hN]
    have hNL : N ≤ L.length := by omega
    have hNs : N ≤ 8 := by omega
    rw [hN]
    clear hN hN8
  all_goals
    clear hbx hcb hc hBn
    gi_loopw [14] (fun i wr => ∃ k : Nat, k ≤ N ∧ i = .int .i64 k ∧ (∃ pre, vals pre = stN L (8 * k) ∧ J pre wr) ∧ Hid (KpS n₀ W wr)) (fun i _ => N - (intOf i).toNat)
    case atStart => exact ⟨0, by omega, rfl, ⟨[], rfl, h0⟩, KpS.refl _ _⟩
    case round =>
      clear h0
      obtain ⟨k, hk, rfl, ⟨pre, hpre, HJ⟩, HP⟩ := hrel
      have HPR := Lib.hid hpre
      clear hpre
      by_cases hkn : k < N
      · obtain ⟨a2, c2, h2, hc2, hr2⟩ := HM.out wr HP.out.1
        obtain ⟨⟨cl, m⟩, hx⟩ : ∃ x, L[k]? = some x := ⟨_, List.getElem?_eq_getElem (by omega)⟩
        obtain ⟨⟨hb0, hb1, hb2⟩, ba, o, rfl, hc0, hc1⟩ := hr2 k _ hx
        obtain ⟨rfl, _, rfl⟩ : a = some ⟨ba, o, none⟩ ∧ True ∧ c = c2 := by cases h2; exact ⟨rfl, trivial, rfl⟩
        have HX := Lib.hid hx
        clear hr2 hx h2 hc2
        dsimp only at hb0 hb1 hb2 hc0 hc1
        have HJ2 : J pre (wr.alloc (.cells #[.int .i64 cl, .int .u8 (m : Nat)] 29)) := hJ _ _ _ none HJ (World.grownBy_alloc wr _ none) (fun r e => by cases e)
        gi_wp2
        have hrb := heap_alloc_new wr (.cells #[.int .i64 cl, .int .u8 (m : Nat)] 29)
        have HPo : Hid (KpS n₀ W (wr.alloc (.cells #[.int .i64 cl, .int .u8 (m : Nat)] 29))) := HP.out.t (KpS.of_below (Nat.le_trans hn HP.out.1.size) ((Below.refl _ _).alloc (Nat.le_refl _) _))
        obtain ⟨wo, hwo⟩ : ∃ wo, wo = wr.alloc (.cells #[.int .i64 cl, .int .u8 (m : Nat)] 29) := ⟨_, rfl⟩
        obtain ⟨br, hbr⟩ : ∃ br, br = wr.heap.size := ⟨_, rfl⟩
        rw [← hwo, ← hbr] at hrb
        rw [← hwo] at HPo HJ2
        rw [← hwo, ← hbr]
        have HRB := Lib.hid hrb
        clear hwo hbr hrb HJ hc0 hc1
        gi_loopw [19] (fun p wi => ∃ q : Nat, q ≤ 8 ∧ p = .int .i64 q ∧ (∃ pre, vals pre = stN L (8 * k + q) ∧ J pre wi) ∧ Hid (KpS n₀ wo wi)) (fun p _ => 8 - (intOf p).toNat)
        case atStart => exact ⟨0, by omega, rfl, ⟨pre, HPR.out, HJ2⟩, KpS.refl _ _⟩
        case round =>
          clear HJ2 HPR
          obtain ⟨q, hq, rfl, ⟨pre, hpre, HJ⟩, HQ⟩ := hrel
          have HPR := Lib.hid hpre
          clear hpre
          have hrq := HQ.out.2 _ (.inr rfl) _ _ HRB.out
          have c0 : wr.cell? ⟨br, 0, none⟩ = some (.int .i64 cl) := (cell_of_row _ _ 0 _ _ _ hrq).trans rfl
          have c1 : wr.cell? ⟨br, 1, none⟩ = some (.int .u8 (m : Nat)) := (cell_of_row _ _ 1 _ _ _ hrq).trans rfl
          clear hrq
          by_cases hq8 : q < 8
          · obtain ⟨v, hv⟩ : ∃ v, m.testBit q = v := ⟨_, rfl⟩
            have hbit := bit8 m q hb2
            rw [hv] at hbit
            cases v with
            | false =>
              have HS : Hid (stN L (8 * k + q + 1) = stN L (8 * k + q)) := stN_no HX.out hq8 hv
              clear hv
              gi_wp2
              refine ⟨fun _ h => (by cases h), ?_⟩
              gi_wp2
              go_roundw
              case rel => exact ⟨q + 1, by omega, by go_num, ⟨pre, by rw [← Nat.add_assoc, HS.out]; exact HPR.out, HJ⟩, HQ⟩
              case measure => simp [intOf]; omega
            | true =>
              have HS : Hid (stN L (8 * k + q + 1) = stN L (8 * k + q) ++ [(8 * (k : Int) + (q : Int), cl)]) := stN_yes HX.out hq8 hv
              have hpf : stN L (8 * k + q + 1) <+: sts L := by rw [HN.out]; exact stN_pre (by omega)
              have hln : (stN L (8 * k + q)).length < (sts L).length := by
                have := hpf.length_le
                rw [HS.out, List.length_append] at this
                simp at this
                omega
              have HPF := Lib.hid hpf
              obtain ⟨fn, tmps, assign, body, hy, hR⟩ := hY pre ⟨(8 * (k : Int) + (q : Int), cl), by dsimp only; omega, by dsimp only; omega⟩ wr HJ (by rw [show pre.length = (vals pre).length by simp [vals], HPR.out]; exact hln)
              dsimp only [stX] at hy
              clear hv hpf hln
              gi_wp2
              refine hR.mono ?_
              rintro e W3 (⟨rfl, hJ3, hk3⟩ | ⟨rfl, hJx3⟩)
              · gi_wp2
                go_roundw
                case rel => exact ⟨q + 1, by omega, by go_num, ⟨_, by rw [vals_snoc, HPR.out, ← Nat.add_assoc, HS.out], hJ3⟩, HQ.out.t hk3⟩
                case measure => simp [intOf]; omega
              · gi_wp2
                refine bodyPost_ret (results_none rfl _ _ _) rfl ?_
                exact ⟨⟨_, rfl⟩, .inr ⟨_, by rw [vals_snoc, HPR.out, ← HS.out]; exact HPF.out, hJx3⟩⟩
          · obtain rfl : q = 8 := by omega
            gi_wp2
            go_roundw
            case rel => exact ⟨k + 1, by omega, by go_num, ⟨pre, HPR.out, HJ⟩, HPo.out.t HQ.out⟩
            case measure => simp [intOf]; omega
      · obtain rfl : k = N := by omega
        gi_wp2
        go_end0
        exact ⟨⟨_, rfl⟩, .inl ⟨_, HPR.out.trans HN.out.symm, HJ⟩⟩

set_option maxHeartbeats 1000000 in
theorem seats_in (v : Value) (w : World) : CallsIn Fence.wide 2 Try.prog 24 #[.agg #[v]] w fun e w' => e = .returned (.func (.func 28) #[] #[.pointer (some ⟨w.heap.size, 0, none⟩)]) ∧ w' = w.alloc (.cells #[v] 26) := by
  refine callsIn_of_wp Try.func24 rfl trivial ?_ rfl
  simp only [Try.ntmps24, List.size_toArray, List.length_cons, List.length_nil, Nat.reduceAdd, Nat.reduceSub, Array.replicate_succ, Array.replicate_zero, List.push_toArray, List.append_toArray, List.nil_append, List.cons_append]
  gi_wp2
  go_ret
  exact ⟨rfl, rfl⟩
end Go.Proofs.Ytpbfabcihoiiiaa
