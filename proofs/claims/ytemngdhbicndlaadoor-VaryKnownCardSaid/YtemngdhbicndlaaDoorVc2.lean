/- What takes bytes: vary.Read's inner function. -/
import Derived.Test.YtemngdhbicndlaaDoorVc1
namespace Go.Proofs.YtemngdhbicndlaaDoor
open Go.RowKit
set_option linter.unusedVariables false
set_option linter.unusedSimpArgs false

/-- The value v is a slice of a block below p, if of any. -/
def LowV (p : Nat) (v : Value) : Prop := ∀ a n c, v = .slice (some a) n c → a.block < p
/-- Block p holds a slice, of a block below, that reads as these bytes. -/
def RestAt (w : World) (p : Nat) (l : List UInt8) : Prop := ∃ v, w.heap[p]? = some (.cells #[v] 60 (0, 0)) ∧ RdB w v l ∧ LowV p v
theorem RestAt.below {w w' : World} {p : Nat} {l : List UInt8} (h : RestAt w p l) (hb : Below w.heap.size w w') : RestAt w' p l := by
  obtain ⟨v, h1, h2, h3⟩ := h
  exact ⟨v, below_box hb h1, h2.below hb, h3⟩
theorem RestAt.lt {w : World} {p : Nat} {l : List UInt8} (h : RestAt w p l) : p < w.heap.size := by
  obtain ⟨v, h1, _⟩ := h
  rcases Nat.lt_or_ge p w.heap.size with h' | h'
  · exact h'
  · rw [Array.getElem?_eq_none h'] at h1
    cases h1
theorem RdB.other {w w' : World} {v : Value} {l : List UInt8} {p : Nat} (h : RdB w v l) (hg : w.grownBy w' (some p)) (hp : ∀ j y, w.cell? ⟨p, j, none⟩ ≠ some (.int .u8 y)) : RdB w' v l := by
  obtain ⟨A, c, e, h1, h2, h3⟩ := h
  refine ⟨A, c, e, h1, h2, fun q hq j u hu => ?_⟩
  have hc := h3 q hq j u hu
  have hne : q.1 ≠ p := by
    intro e1
    rw [e1] at hc
    simp only [bv, List.getElem?_map, Option.map_eq_some_iff] at hu
    obtain ⟨b, _, rfl⟩ := hu
    exact hp _ _ hc
  exact (World.cell?_of_block (hg.block q.1 (World.block_lt_of_cell? w _ hc) (fun e => hne (by injection e)))).trans hc
theorem rest_no_byte {w : World} {p : Nat} {A : Option Addr} {n c : Nat} (h : w.heap[p]? = some (.cells #[.slice A n c] 60 (0, 0))) : ∀ j y, w.cell? ⟨p, j, none⟩ ≠ some (.int .u8 y) := by
  intro j y e
  rw [cell_of_row _ _ j _ _ _ h] at e
  match j, e with
  | 0, e => simp at e
  | j + 1, e => simp at e
/-- v[n:]. -/
theorem slice_from {P : Program} (t e : TypeId) (ht : P.underlying t = some (.slice e)) (hinfo : (P.info? e).map (fun i => (i.zero, i.size, i.bytes)) = some (some (.int .u8 0), 1, 1)) (w0 : World) (v : Value) (l : List UInt8) (n : Nat) (hv : RdB w0 v l) (hn : n ≤ l.length) :
    ∃ v', RdB w0 v' (l.drop n) ∧ (∀ p, LowV p v → LowV p v') ∧ ∀ W, (Instr.slice t v (some (.int .i64 (n : Int))) none none).run P W = .ok v' W := by
  obtain ⟨i0, hi, hz0, hz1, hz2⟩ := info_parts hinfo
  have ht' : P.underlying t = some (.slice (P.elem t)) := by simp [Program.elem, ht]
  have he : P.elem t = e := by simp [Program.elem, ht]
  obtain ⟨A, c, rfl, h1, h2, h3⟩ := hv
  have hrun : ∀ W, (Instr.slice t (.slice (A.map fun p => (⟨p.1, p.2, none⟩ : Addr)) l.length c) (some (.int .i64 (n : Int))) none none).run P W = .ok (sliced (A.map fun p => (⟨p.1, p.2, none⟩ : Addr)) n l.length c 1) W := fun W => by
    rw [run_slice_l W t _ l.length c ht' .i64 (n : Int) (by omega) (by omega), he]
    have hz : (Go.sizeOf e).run P W = .ok 1 W := by simp [Go.sizeOf, typeInfo, hi, hz1]
    rw [hz]
    rfl
  refine ⟨_, ?_, fun p hp a' n' c' e => ?_, hrun⟩
  rotate_left
  · unfold sliced at e
    cases A with
    | none => split at e <;> simp at e
    | some q =>
      have h0 := hp _ _ _ rfl
      split at e
      · simp only [Option.map_some, Value.slice.injEq, Option.some.injEq] at e
        rw [← e.1]
        exact h0
      · simp only [Option.map_some, Value.slice.injEq, Option.some.injEq, add_lit] at e
        rw [← e.1]
        exact h0
  unfold sliced
  by_cases hc : c = n
  · subst hc
    rw [if_pos rfl]
    have hd : l.drop c = [] := List.drop_eq_nil_of_le h1
    rw [hd]
    refine ⟨A, 0, ?_, Nat.le_refl _, fun _ => rfl, fun p hp j u hu => by simp [bv] at hu⟩
    simp
    omega
  · rw [if_neg hc]
    refine ⟨A.map fun q => (q.1, q.2 + n), c - n, ?_, by rw [List.length_drop]; omega, fun h => ?_, fun p hp j u hu => ?_⟩
    · rw [List.length_drop]
      cases A with
      | none => rfl
      | some q => simp [add_lit]
    · cases A with
      | none => have := h2 rfl; omega
      | some q => cases h
    · cases A with
      | none => cases hp
      | some q =>
        simp only [Option.map_some, Option.some.injEq] at hp
        subst hp
        have e : q.2 + n + j = q.2 + (n + j) := by omega
        show w0.cell? ⟨q.1, q.2 + n + j, none⟩ = some u
        rw [e]
        refine h3 q rfl (n + j) u ?_
        simp only [bv] at hu ⊢
        rw [List.map_drop] at hu
        rw [List.getElem?_drop] at hu
        exact hu
theorem RdB.full {w0 : World} {A : Option (Nat × Nat)} {l : List UInt8} {c n : Nat} (hv : RdB w0 (.slice (A.map fun p => (⟨p.1, p.2, none⟩ : Addr)) l.length c) l) (hA : A = none → c = 0) (h1 : l.length ≤ c) (h3 : ∀ p, A = some p → ∀ j u, (bv l)[j]? = some u → w0.cell? ⟨p.1, p.2 + j, none⟩ = some u) (hn : n ≤ l.length) : RdB w0 (.slice (A.map fun p => (⟨p.1, p.2, none⟩ : Addr)) n n) (l.take n) := by
  have hl : (l.take n).length = n := by rw [List.length_take]; omega
  refine ⟨A, n, by rw [hl], by omega, fun h => by have := hA h; omega, fun p hp j u hu => h3 p hp j u ?_⟩
  have hj : j < n := by
    have := (List.getElem?_eq_some_iff.1 hu).1
    rw [bv_length, hl] at this
    exact this
  simp only [bv] at hu ⊢
  rw [← hu, List.map_take, List.getElem?_take, if_pos hj]
/-- The function that takes bytes off block p. -/
def takeV (p : Nat) : Value := .func (.func 24) #[] #[.pointer (some ⟨p, 0, none⟩)]
set_option maxRecDepth 100000 in
set_option maxHeartbeats 4000000 in
theorem take_no (p : Nat) (n : Int) (l : List UInt8) (w : World) (h : RestAt w p l) (hn : (l.length : Int) < n) :
    Calls Tryd.prog 24 #[.int .i64 n, .pointer (some ⟨p, 0, none⟩)] w fun e w' => e = .returned (.tuple #[.slice none 0 0, .bool false]) ∧ w' = w := by
  obtain ⟨v, hx, hr, _⟩ := h
  obtain ⟨A, c, rfl, h1, h2, h3⟩ := hr
  have c0 := cell_of_row _ _ 0 _ _ _ hx
  have c0 : w.cell? ⟨p, 0, none⟩ = some (.slice (A.map fun q => (⟨q.1, q.2, none⟩ : Addr)) l.length c) := c0
  clear h3
  generalize (A.map fun q => (⟨q.1, q.2, none⟩ : Addr)) = B at c0 hx
  go_enter Tryd.func24, Tryd.ntmps24
  go_wp2_with fail
  go_ret2
  exact ⟨rfl, rfl⟩
set_option maxRecDepth 100000 in
set_option maxHeartbeats 4000000 in
theorem take_yes (p n : Nat) (l : List UInt8) (w : World) (h : RestAt w p l) (hn : n ≤ l.length) :
    Calls Tryd.prog 24 #[.int .i64 n, .pointer (some ⟨p, 0, none⟩)] w fun e w' => ∃ v1, e = .returned (.tuple #[v1, .bool true]) ∧ RdB w' v1 (l.take n) ∧ RestAt w' p (l.drop n) ∧ w.grownBy w' (some p) := by
  obtain ⟨v, hx, hr, hlo⟩ := h
  obtain ⟨v', hr', hlo', hrun'⟩ := slice_from 60 5 Tryd.underlying60 info_u8 w v l n hr hn
  obtain ⟨B2, m2, k2, rfl⟩ : ∃ B2 m2 k2, v' = .slice B2 m2 k2 := by
    obtain ⟨A', c', e, _⟩ := hr'
    exact ⟨_, _, _, e⟩
  have HLO := Lib.hid (hlo' p hlo)
  clear hlo hlo'
  have hr0 := hr
  obtain ⟨A, c, rfl, h1, h2, h3⟩ := hr
  have c0 : w.cell? ⟨p, 0, none⟩ = some (.slice (A.map fun q => (⟨q.1, q.2, none⟩ : Addr)) l.length c) := cell_of_row _ _ 0 _ _ _ hx
  have hfr := box_fr hx 0
  have hfull := hr0.full h2 h1 h3 hn
  have hsl := fun W => slice_full 60 5 Tryd.underlying60 info_u8 (A.map fun p => (⟨p.1, p.2, none⟩ : Addr)) l.length n c (by omega) W
  have hnb := rest_no_byte hx
  have HG := Lib.hid (grown_set w ⟨p, 0, none⟩ (.slice B2 m2 k2))
  have HX := Lib.hid (set_heap hx 0 (.slice B2 m2 k2) (by simp))
  have HR1 := Lib.hid (hfull.other HG.out hnb)
  have HR2 := Lib.hid (hr'.other HG.out hnb)
  clear h3 hr0 hfull hr' hnb
  generalize (A.map fun q => (⟨q.1, q.2, none⟩ : Addr)) = B at c0 hx hsl hrun' HR1
  go_enter Tryd.func24, Tryd.ntmps24
  go_wp2_with fail
  go_ret2
  exact ⟨_, rfl, HR1.out, ⟨_, HX.out, HR2.out, HLO.out⟩, HG.out⟩
end Go.Proofs.YtemngdhbicndlaaDoor
