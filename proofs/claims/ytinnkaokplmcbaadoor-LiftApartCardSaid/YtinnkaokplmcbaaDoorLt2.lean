/- LiftApart: arrays of flags. -/
import Derived.Test.YtinnkaokplmcbaaDoorLt0
import Derived.Test.YtinnkaokplmcbaaDoorLt1
import Derived.Test.YtinnkaokplmcbaaDoorLi
import Derived.Test.YtinnkaokplmcbaaDoorLt4
import Derived.Test.YtinnkaokplmcbaaDoorLs5
namespace Go.Proofs.YtinnkaokplmcbaaDoor
open Go.RowKit
set_option linter.unusedVariables false
set_option linter.unusedSimpArgs false

theorem RdD.below' {w w1 : World} {v : Value} {l : List Dr} (h : RdD w v l) (hb : Below w.heap.size w w1) : RdD w1 v l := by
  obtain ⟨a, c, e, h1, h2⟩ := h
  refine ⟨a, c, e, h1, fun k x hx => ?_⟩
  obtain ⟨q, b, o, ha, hc⟩ := h2 k x hx
  exact ⟨q, b, o, ha, fun j u hu => keep_cell hb (hc j u hu)⟩
theorem heap_old2 (W : World) (o : Obj) {n : Nat} {r : Obj} (h : W.heap[n]? = some r) : (W.alloc o).heap[n]? = some r :=
  (Below.heap_alloc _ _ _ (Array.getElem?_eq_some_iff.1 h).1).trans h
/-- Block b holds 64 flags. -/
def FlagsAt (W : World) (b : Nat) (T : Nat → Bool) : Prop := ∀ j : Nat, j < 64 → W.cell? ⟨b, j, none⟩ = some (.bool (T j)) ∧ W.frozen? ⟨b, j, none⟩ = false
theorem FlagsAt.new {W : World} {b : Nat} {t : TypeId} (h : W.heap[b]? = some (.cells (Array.replicate 64 (.bool false)) t (0, 0))) : FlagsAt W b (fun _ => false) := fun j hj => by
  refine ⟨?_, frz h j⟩
  rw [cell_of_row _ _ j _ _ _ h]
  simp [hj]
theorem FlagsAt.lt {W : World} {b : Nat} {T : Nat → Bool} (h : FlagsAt W b T) : b < W.heap.size := World.block_lt_of_cell? _ _ (h 0 (by omega)).1
theorem FlagsAt.block {W W' : World} {b : Nat} {T : Nat → Bool} (h : FlagsAt W b T) (e : W'.heap[b]? = W.heap[b]?) : FlagsAt W' b T := fun j hj =>
  ⟨(World.cell?_of_block e).trans (h j hj).1, (World.frozen?_of_block e).trans (h j hj).2⟩
theorem FlagsAt.below {W W' : World} {b : Nat} {T : Nat → Bool} (h : FlagsAt W b T) (hb : Below W.heap.size W W') : FlagsAt W' b T := h.block (hb.block b h.lt)
theorem FlagsAt.alloc {W : World} {b : Nat} {T : Nat → Bool} (h : FlagsAt W b T) (o : Obj) : FlagsAt (W.alloc o) b T := h.block (Below.heap_alloc _ _ _ h.lt)
theorem FlagsAt.set {W : World} {b : Nat} {T : Nat → Bool} (h : FlagsAt W b T) {j : Nat} (hj : j < 64) : FlagsAt (W.setCell ⟨b, j, none⟩ (.bool true)) b (fun x => x == j || T x) := fun k hk => by
  refine ⟨?_, by rw [World.frozen?_setCell]; exact (h k hk).2⟩
  by_cases e : k = j
  · subst e
    rw [World.cell?_setCell_same (h := (h k hk).1)]
    show some (Value.bool true) = some (Value.bool (k == k || T k))
    rw [beq_self_eq_true, Bool.true_or]
  · rw [World.cell?_setCell_other (h := by simp <;> omega), (h k hk).1]
    show some (Value.bool (T k)) = some (Value.bool (k == j || T k))
    rw [beq_eq_false_iff_ne.2 e, Bool.false_or]
theorem FlagsAt.other {W : World} {b : Nat} {T : Nat → Bool} (h : FlagsAt W b T) {a : Addr} (ha : a.block ≠ b) (u : Value) : FlagsAt (W.setCell a u) b T := fun k hk =>
  ⟨by rw [World.cell?_setCell_far _ _ _ _ ha]; exact (h k hk).1, by rw [World.frozen?_setCell]; exact (h k hk).2⟩
section
variable {P : Program} {ops : Array Oper} {rest : List Oper} {o : Oper} {a : Act} {Q : Exit → Act → World → Prop}
/-- As own_append_box2, the box's block by its own name. -/
theorem own_append_box3 {w0 W : World} (B : Nat) (hBe : W.heap.size = B) (base : Nat) (hgd : o.guard = none) (s x : Operand) (t e : TypeId)
    (ho : o.op = .call { callee := .builtin .append, args := #[s, x], argTypes := #[t, t] })
    (ht : P.underlying t = some (.slice e)) {z : Value} {size bytes : Nat} (hinfo : (P.info? e).map (fun i => (i.zero, i.size, i.bytes)) = some (some z, size, bytes)) (hzs : z.cells.size = size) (hsz : 0 < size)
    (v : Value) (n : Nat) (xs : List Value) (ns : Array Value) (hns : ns.size = size) (h1 : ∀ u ∈ ns.toList, u.oneCell' = true) (hs : a.eval s = v) (hx : a.eval x = .slice (some ⟨B, 0, none⟩) 1 1)
    (HO : W.ownsRow base e size v n xs) (HB : Below base w0 W) (hbase : base ≤ W.heap.size) (hl : (n + 1) * bytes ≤ 140737488355328) (hn : n + 1 ≤ 140737488355328)
    (h : ∀ v1 w1, w1.ownsRow base e size v1 (n + 1) (xs ++ ns.toList) → Below base w0 w1 → W.heap.size ≤ w1.heap.size → (W.alloc (.cells ns e)).grownBy w1 v.ownBlock → wpList P ops Q rest (a.put o.dst v1) w1) :
    wpList P ops Q (o :: rest) a (W.alloc (.cells ns e)) := by
  subst hBe
  exact own_append_box2 base hgd s x t e ho ht hinfo hzs hsz v n xs ns hns h1 hs hx HO HB hbase hl hn h
end
theorem own_set {W : World} {base : Nat} {e : TypeId} {size : Nat} {v : Value} {n : Nat} {xs : List Value} (h : W.ownsRow base e size v n xs) {a : Addr} (ha : a.block < base) (u : Value) : (W.setCell a u).ownsRow base e size v n xs :=
  h.kept (grown_set W a u) (by
    cases e : v.ownBlock with
    | none => exact .inl rfl
    | some g =>
      have := (h.lt g e).1
      refine .inr ?_
      simp only [ne_eq, Option.some.injEq]
      omega)
theorem not_p {p : ByteArray} (h : ¬ p = ⟨#[112]⟩) : ¬ p.toList = [112] := by
  rw [ByteArray.toList_eq]
  intro e
  exact h (ByteArray.ext (Array.toList_inj.1 e))
theorem person_p {p : ByteArray} (h : p = ⟨#[112]⟩) : personB p.data.toList = true := by subst h; decide
theorem may_of {r : Rec} (h1 : 0 < r.id) (h2 : r.person = ⟨#[112]⟩) (h3 : 0 ≤ r.cls) (h4 : r.cls ≤ 2) (h5 : 0 ≤ r.seat) (h6 : r.seat ≤ 63) (h7 : r.was = -1) (h8 : r.hold = true ∨ r.til = 0) : mayR r = true := by
  unfold mayR
  rw [person_p h2]
  simp only [h1, h3, h4, h5, h6, h7, decide_true, Bool.and_true, Bool.true_and, Bool.or_eq_true, beq_iff_eq]
  exact h8
/-- What holds at the head of the first loop. -/
def HeadA (w : World) (b0 N : Nat) (w3 : World) (q : List Rec) (T : Nat → Bool) (oo : Value) (wr : World) : Prop :=
  FlagsAt wr b0 T ∧ wr.ownsRow N 25 7 oo q.length (q.flatMap recC) ∧ Below w.heap.size w wr ∧ N ≤ wr.heap.size ∧ ∀ b, b < N → b ≠ b0 → wr.heap[b]? = w3.heap[b]?
theorem HeadA.alloc {w : World} {b0 N : Nat} {w3 : World} {q : List Rec} {T : Nat → Bool} {oo : Value} {wr : World} (h : HeadA w b0 N w3 q T oo wr) (o : Obj) : HeadA w b0 N w3 q T oo (wr.alloc o) :=
  ⟨h.1.alloc o, h.2.1.alloc o, h.2.2.1.alloc h.2.2.1.size _, by rw [World.size_alloc]; have := h.2.2.2.1; omega, fun b hb hn => (Below.heap_alloc wr o b (Nat.lt_of_lt_of_le hb h.2.2.2.1)).trans (h.2.2.2.2 b hb hn)⟩
theorem HeadA.set {w : World} {b0 N : Nat} {w3 : World} {q : List Rec} {T : Nat → Bool} {oo : Value} {wr : World} (h : HeadA w b0 N w3 q T oo wr) (h1 : w.heap.size ≤ b0) (h2 : b0 < N) {j : Nat} (hj : j < 64) : HeadA w b0 N w3 q (fun x => x == j || T x) oo (wr.setCell ⟨b0, j, none⟩ (.bool true)) :=
  ⟨h.1.set hj, own_set h.2.1 h2 _, h.2.2.1.setCell h1 _, by rw [World.size_setCell]; exact h.2.2.2.1, fun b hb hn => (Below.heap_setCell wr ⟨b0, j, none⟩ _ b (fun e => hn e)).trans (h.2.2.2.2 b hb hn)⟩
theorem HeadA.app {w : World} {b0 N : Nat} {w3 : World} {q : List Rec} {T : Nat → Bool} {oo : Value} {W : World} (h : HeadA w b0 N w3 q T oo W) (h1 : w.heap.size ≤ N) (h2 : b0 < N) {r : Rec} {v1 : Value} {w2 : World} (hown : w2.ownsRow N 25 7 v1 (q.length + 1) (q.flatMap recC ++ recC r)) (hB : Below N W w2) : HeadA w b0 N w3 (q ++ [r]) T v1 w2 :=
  ⟨h.1.block (hB.block b0 h2), by rw [List.flatMap_append, List.flatMap_singleton, List.length_append]; exact hown, h.2.2.1.trans (hB.mono h1), Nat.le_trans h.2.2.2.1 hB.size, fun b hb hn => (hB.block b hb).trans (h.2.2.2.2 b hb hn)⟩
/-- What holds at the head of the second loop. -/
def HeadM (w : World) (b1 b2 N : Nat) (w5 : World) (g : List (Int × Int)) (F U : Nat → Bool) (oo : Value) (wr : World) : Prop :=
  FlagsAt wr b1 F ∧ FlagsAt wr b2 U ∧ wr.ownsRow N 56 2 oo g.length (g.flatMap mvC) ∧ Below w.heap.size w wr ∧ N ≤ wr.heap.size ∧ ∀ b, b < N → b ≠ b1 → b ≠ b2 → wr.heap[b]? = w5.heap[b]?
theorem HeadM.alloc {w : World} {b1 b2 N : Nat} {w5 : World} {g : List (Int × Int)} {F U : Nat → Bool} {oo : Value} {wr : World} (h : HeadM w b1 b2 N w5 g F U oo wr) (o : Obj) : HeadM w b1 b2 N w5 g F U oo (wr.alloc o) := by
  obtain ⟨h1, h2, h3, h4, h5, h6⟩ := h
  exact ⟨h1.alloc o, h2.alloc o, h3.alloc o, h4.alloc h4.size _, by rw [World.size_alloc]; omega, fun b hb hn hm => (Below.heap_alloc wr o b (Nat.lt_of_lt_of_le hb h5)).trans (h6 b hb hn hm)⟩
theorem HeadM.set {w : World} {b1 b2 N : Nat} {w5 : World} {g : List (Int × Int)} {F U : Nat → Bool} {oo : Value} {wr : World} (h : HeadM w b1 b2 N w5 g F U oo wr) (k1 : w.heap.size ≤ b1) (k2 : b1 < b2) (k3 : b2 < N) {i j : Nat} (hi : i < 64) (hj : j < 64) : HeadM w b1 b2 N w5 g (fun x => x == i || F x) (fun x => x == j || U x) oo ((wr.setCell ⟨b1, i, none⟩ (.bool true)).setCell ⟨b2, j, none⟩ (.bool true)) := by
  obtain ⟨h1, h2, h3, h4, h5, h6⟩ := h
  refine ⟨(h1.set hi).other (by show b2 ≠ b1; omega) _, (h2.other (by show b1 ≠ b2; omega) _).set hj, own_set (own_set h3 (show b1 < N by omega) _) k3 _, (h4.setCell k1 _).setCell (show w.heap.size ≤ b2 by omega) _, by rw [World.size_setCell, World.size_setCell]; exact h5, fun b hb hn hm => ?_⟩
  exact ((Below.heap_setCell _ ⟨b2, j, none⟩ _ b (fun e => hm e)).trans (Below.heap_setCell wr ⟨b1, i, none⟩ _ b (fun e => hn e))).trans (h6 b hb hn hm)
theorem HeadM.app {w : World} {b1 b2 N : Nat} {w5 : World} {g : List (Int × Int)} {F U : Nat → Bool} {oo : Value} {W : World} (h : HeadM w b1 b2 N w5 g F U oo W) (k0 : w.heap.size ≤ N) (k1 : b1 < N) (k2 : b2 < N) {x : Int × Int} {v1 : Value} {w2 : World} (hown : w2.ownsRow N 56 2 v1 (g.length + 1) (g.flatMap mvC ++ mvC x)) (hB : Below N W w2) : HeadM w b1 b2 N w5 (g ++ [x]) F U v1 w2 := by
  obtain ⟨h1, h2, h3, h4, h5, h6⟩ := h
  exact ⟨h1.block (hB.block b1 k1), h2.block (hB.block b2 k2), by rw [List.flatMap_append, List.flatMap_singleton, List.length_append]; exact hown, h4.trans (hB.mono k0), Nat.le_trans h5 hB.size, fun b hb hn hm => (hB.block b hb).trans (h6 b hb hn hm)⟩
theorem RdL.far {w w1 : World} {base : Nat} {e : TypeId} {v : Value} {l : List Rec} (h : w.ownsRow base e 7 v l.length (l.flatMap recC)) (hb : ∀ b, base ≤ b → b < w.heap.size → w1.heap[b]? = w.heap[b]?) : RdL w1 v l := by
  rcases own_cells h with ⟨h1, h2⟩ | ⟨g, c, h1, h2, h4, h3⟩
  · obtain rfl := List.eq_nil_of_length_eq_zero h2
    subst h1
    exact RdL.nil w1
  · refine ⟨some (g, 0), c, h1, h2, (fun h => by cases h), fun p hp k r hr j u hu => ?_⟩
    obtain rfl : (g, 0) = p := by simpa using hp
    have hj : j < 7 := (List.getElem?_eq_some_iff.1 hu).1
    have f := flat_at recC 7 (fun _ => rfl) j hj l k r hr
    have hc := h3 _ _ (f.trans hu)
    show w1.cell? ⟨g, 0 + k * 7 + j, none⟩ = some u
    rw [Nat.zero_add]
    exact (World.cell?_of_block (hb g h4 (World.block_lt_of_cell? _ _ hc))).trans hc
theorem RdL.opnN {w : World} {v : Value} {l : List Rec} (h : RdL w v l) {n : Nat} (hn : l.length = n) : ∃ (a : Option Addr) (c : Nat), v = .slice a n c ∧ n ≤ c ∧ ∀ (k : Nat) (r : Rec), l[k]? = some r → ∃ b o, a = some ⟨b, o, none⟩ ∧ ∀ (j : Nat) (u : Value), (recC r)[j]? = some u → w.cell? ⟨b, o + k * 7 + j, none⟩ = some u := by
  subst hn
  exact h.opn
theorem kept_all {q : List Rec} {T : Nat → Bool} (h : Kept q T) : q.all mayR = true := List.all_eq_true.2 fun r hr => (h.ok r hr).2
theorem kept_clash {q : List Rec} {T : Nat → Bool} (h : Kept q T) : NoC (seats q) (seats q).length := by
  rw [show (seats q).length = q.length from List.length_map _]
  exact h.no
end Go.Proofs.YtinnkaokplmcbaaDoor
