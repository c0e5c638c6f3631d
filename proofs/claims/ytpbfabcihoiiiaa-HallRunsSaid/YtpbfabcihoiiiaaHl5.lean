/- hall.Read. -/
import Derived.Test.YtpbfabcihoiiiaaHl4
namespace Go.Proofs.Ytpbfabcihoiiiaa
open Go.RowKit
set_option linter.unusedVariables false
set_option linter.unusedSimpArgs false

def preR (rows : List HRow) : List HRow ⊕ (Int × Nat) → List HRow ⊕ (Int × Nat)
  | .inl r => .inl (rows ++ r)
  | .inr e => .inr e
theorem readT_bad {f a : Nat} {l : List UInt8} {i : Nat} (h : badI 0 (l.take 9) = some i) : readT (f + 1) a l = .inr (5, a + i) := by
  rw [readT, h]
theorem readT_short {f a : Nat} {l : List UInt8} (h : badI 0 (l.take 9) = none) (h1 : l.length < 9) : readT (f + 1) a l = .inr (5, a + l.length) := by
  rw [readT, h]
  simp only
  rw [if_pos h1]
theorem readT_sep {f a : Nat} {l : List UInt8} (h : badI 0 (l.take 9) = none) (h1 : 9 < l.length) (h2 : (l.drop 9).getD 0 0 ≠ 47) : readT (f + 1) a l = .inr (5, a + 9) := by
  rw [readT, h]
  simp only
  rw [if_neg (by omega), if_pos ⟨by omega, h2⟩]
theorem readT_zero {f a : Nat} {l : List UInt8} (h : badI 0 (l.take 9) = none) (h1 : 9 ≤ l.length) (h2 : l.length = 9 ∨ (l.drop 9).getD 0 0 = 47) (h3 : mkM ((l.take 9).drop 1) = 0) : readT (f + 1) a l = .inr (23, a) := by
  rw [readT, h]
  simp only
  rw [if_neg (by omega), if_neg (by rintro ⟨q1, q2⟩; rcases h2 with h2 | h2 <;> contradiction), if_pos h3]
theorem readT_last {f a : Nat} {l : List UInt8} (h : badI 0 (l.take 9) = none) (h1 : l.length = 9) (h3 : mkM ((l.take 9).drop 1) ≠ 0) : readT (f + 1) a l = .inl [rowOf (l.take 9)] := by
  rw [readT, h]
  simp only
  rw [if_neg (by omega), if_neg (by rintro ⟨q1, q2⟩; contradiction), if_neg h3, if_pos h1]
theorem readT_next {f a : Nat} {l : List UInt8} (h : badI 0 (l.take 9) = none) (h1 : 9 < l.length) (h2 : (l.drop 9).getD 0 0 = 47) (h3 : mkM ((l.take 9).drop 1) ≠ 0) : readT (f + 1) a l = preR [rowOf (l.take 9)] (readT f (a + 10) (l.drop 10)) := by
  rw [readT, h]
  simp only
  rw [if_neg (by omega), if_neg (by rintro ⟨q1, q2⟩; contradiction), if_neg h3, if_neg (by omega)]
  cases readT f (a + 10) (l.drop 10) <;> rfl
theorem preR_pre (r q : List HRow) (x : List HRow ⊕ (Int × Nat)) : preR r (preR q x) = preR (r ++ q) x := by
  cases x <;> simp [preR]
/-- What is known at the head of a round: k rows have come, a bytes are behind. -/
structure RdI (S : List UInt8) (rows : List HRow) (k a : Nat) : Prop where
  ak : a = 10 * k
  len : rows.length = k
  hi : readT 8 0 S = preR rows (readT (8 - k) a (S.drop a))
  ok : ∀ r ∈ rows, rwB r
theorem RdI.start (S : List UInt8) : RdI S [] 0 0 := ⟨rfl, rfl, by
  show readT 8 0 S = preR [] (readT 8 0 S)
  cases readT 8 0 S <;> rfl, fun r h => by simp at h⟩
theorem RdI.full {S : List UInt8} {rows : List HRow} {a : Nat} (h : RdI S rows 8 a) : readT 8 0 S = .inr (2, a) := h.hi
theorem RdI.fail {S : List UInt8} {rows : List HRow} {k a : Nat} {e : Int × Nat} (h : RdI S rows k a) (hk : k < 8) (he : ∀ f, readT (f + 1) a (S.drop a) = .inr e) : readT 8 0 S = .inr e := by
  rw [h.hi, show 8 - k = (7 - k) + 1 by omega, he]
  rfl
theorem rowOf_rw {t : List UInt8} (h : badI 0 t = none) (hl : t.length = 9) : rwB (rowOf t) := by
  obtain ⟨_, h1, h2, h3⟩ := row_rowOf t h hl
  exact ⟨by omega, by omega, h3⟩
theorem RdI.last {S : List UInt8} {rows : List HRow} {k a : Nat} (h : RdI S rows k a) (hk : k < 8) (hb : badI 0 ((S.drop a).take 9) = none) (h1 : (S.drop a).length = 9) (h3 : mkM (((S.drop a).take 9).drop 1) ≠ 0) :
    readT 8 0 S = .inl (rows ++ [rowOf ((S.drop a).take 9)]) ∧ ∀ r ∈ rows ++ [rowOf ((S.drop a).take 9)], rwB r := by
  refine ⟨?_, fun r hr => ?_⟩
  · rw [h.hi, show 8 - k = (7 - k) + 1 by omega, readT_last hb h1 h3]
    rfl
  · rcases List.mem_append.1 hr with hr | hr
    · exact h.ok r hr
    · rw [List.mem_singleton] at hr
      rw [hr]
      exact rowOf_rw hb (by rw [List.length_take]; omega)
theorem RdI.next {S : List UInt8} {rows : List HRow} {k a : Nat} (h : RdI S rows k a) (hk : k < 8) (hb : badI 0 ((S.drop a).take 9) = none) (h1 : 9 < (S.drop a).length) (h2 : ((S.drop a).drop 9).getD 0 0 = 47) (h3 : mkM (((S.drop a).take 9).drop 1) ≠ 0) :
    RdI S (rows ++ [rowOf ((S.drop a).take 9)]) (k + 1) (a + 10) := by
  refine ⟨by have := h.ak; omega, by rw [List.length_append, h.len]; rfl, ?_, fun r hr => ?_⟩
  · rw [h.hi, show 8 - k = (7 - k) + 1 by omega, readT_next hb h1 h2 h3, preR_pre, show 7 - k = 8 - (k + 1) by omega, List.drop_drop]
  · rcases List.mem_append.1 hr with hr | hr
    · exact h.ok r hr
    · rw [List.mem_singleton] at hr
      rw [hr]
      exact rowOf_rw hb (by rw [List.length_take]; omega)
theorem own_opn {w : World} {base : Nat} {e : TypeId} {size : Nat} {v : Value} {n : Nat} {xs : List Value} (h : w.ownsRow base e size v n xs) : ∃ A c, v = .slice A n c := by
  rcases own_cells h with ⟨rfl, rfl⟩ | ⟨g, c, rfl, _⟩
  · exact ⟨_, _, rfl⟩
  · exact ⟨_, _, rfl⟩
/-- What Read gives. -/
def ReadP (S : List UInt8) (w : World) (e : Ending) (w' : World) : Prop :=
  ((∃ (c : Int) (t a : Nat), readT 8 0 S = .inr (c, t) ∧ e = .returned (.tuple #[.agg #[.slice none 0 0], FV a]) ∧ FaultAt w' a c t) ∨
   (∃ (rows : List HRow) (v : Value), readT 8 0 S = .inl rows ∧ e = .returned (.tuple #[.agg #[v], .nilIface]) ∧ RdH w' v rows)) ∧ Below w.heap.size w w'
theorem cut_list (s : ByteArray) (a b : Nat) (h : b = min (a + 9) s.size) (ha : a ≤ s.size) : (s.extract a b).data.toList = (s.data.toList.drop a).take 9 := by
  have hsz : s.data.toList.length = s.size := by rw [Array.length_toList]; rfl
  rw [Lib.extract_data]
  subst h
  by_cases hh : a + 9 ≤ s.size
  · rw [Nat.min_eq_left hh]
    congr 1
    omega
  · rw [Nat.min_eq_right (by omega), List.take_of_length_le (by rw [List.length_drop]; omega), List.take_of_length_le (by rw [List.length_drop]; omega)]

/-- What is known of memory at the head of a round. -/
structure HdR (w wr : World) (rows : List HRow) (k : Nat) (v : Value) : Prop where
  cell : wr.cell? ⟨w.heap.size, 0, none⟩ = some v
  fz : wr.frozen? ⟨w.heap.size, 0, none⟩ = false
  own : wr.ownsRow (w.heap.size + 1) 29 2 v k (rows.flatMap rowC)
  bel : Below w.heap.size w wr
  lt : w.heap.size < wr.heap.size
theorem HdR.below {w w1 w2 : World} {rows : List HRow} {k : Nat} {v : Value} (h : HdR w w1 rows k v) (hB : Below w1.heap.size w1 w2) : HdR w w2 rows k v :=
  ⟨keepC hB h.cell, (hB.frozen (p := ⟨w.heap.size, 0, none⟩) h.lt).trans h.fz, own_kept h.own hB, h.bel.trans (hB.mono h.bel.size), Nat.lt_of_lt_of_le h.lt hB.size⟩
def clsJ (T : List UInt8) (j : Nat) : Int := if j = 0 then 0 else clsC T
/-- What is known within a row: j bytes of u are behind. -/
structure InR (wo wr : World) (u : ByteArray) (j : Nat) : Prop where
  it : wr.heap[wo.heap.size + 1]? = some (.stringIter u j)
  c0 : wr.cell? ⟨wo.heap.size, 0, none⟩ = some (.int .i64 (clsJ u.data.toList j))
  c1 : wr.cell? ⟨wo.heap.size, 1, none⟩ = some (.int .u8 (mkM ((u.data.toList.take j).drop 1) : Nat))
  f0 : wr.frozen? ⟨wo.heap.size, 0, none⟩ = false
  f1 : wr.frozen? ⟨wo.heap.size, 1, none⟩ = false
  bel : Below wo.heap.size wo wr
  bad : badI 0 (u.data.toList.take j) = none
theorem InR.drew {wo wr : World} {u : ByteArray} {j : Nat} (h : InR wo wr u j) : InR wo wr.drew u j := ⟨h.it, h.c0, h.c1, h.f0, h.f1, ⟨h.bel.os, h.bel.tape, h.bel.output, h.bel.size, h.bel.block⟩, h.bad⟩
theorem at_list {u : ByteArray} {j : Nat} (h : j < u.size) : u.data.toList[j]? = some u[j] := by
  rw [Array.getElem?_toList]
  exact Array.getElem?_eq_getElem h
theorem take_one {T : List UInt8} {j : Nat} {b : UInt8} (h : T[j]? = some b) : T.take (j + 1) = T.take j ++ [b] := by
  rw [List.take_add_one, h]
  rfl
theorem bad_yes {T : List UInt8} {j : Nat} {b : UInt8} (h : T[j]? = some b) (hb : badI 0 (T.take j) = none) (ho : okC j b = false) : badI 0 T = some j := by
  have hl : (T.take j).length = j := by rw [List.length_take]; have := (List.getElem?_eq_some_iff.1 h).1; omega
  have h1 : badI 0 (T.take (j + 1)) = some j := by
    rw [take_one h, badI_snoc _ _ _ hb, hl, Nat.zero_add, if_neg (by rw [ho]; decide)]
  have h2 := badI_app (T.drop (j + 1)) _ _ _ h1
  rwa [List.take_append_drop] at h2
theorem bad_no {T : List UInt8} {j : Nat} {b : UInt8} (h : T[j]? = some b) (hb : badI 0 (T.take j) = none) (ho : okC j b = true) : badI 0 (T.take (j + 1)) = none := by
  have hl : (T.take j).length = j := by rw [List.length_take]; have := (List.getElem?_eq_some_iff.1 h).1; omega
  rw [take_one h, badI_snoc _ _ _ hb, hl, Nat.zero_add, if_pos ho]
theorem mk_step {T : List UInt8} {j : Nat} {b : UInt8} (h : T[j + 1]? = some b) : mkM ((T.take (j + 1 + 1)).drop 1) = mkM ((T.take (j + 1)).drop 1) + (if b = 35 then 2 ^ j else 0) := by
  have hlt := (List.getElem?_eq_some_iff.1 h).1
  have hl : ((T.take (j + 1)).drop 1).length = j := by rw [List.length_drop, List.length_take]; omega
  rw [take_one h, List.drop_append_of_le_length (by rw [List.length_take]; omega), mkM_snoc, hl]
theorem mk_lt {T : List UInt8} {j : Nat} : mkM ((T.take (j + 1)).drop 1) < 2 ^ j := by
  have h := mkM_lt ((T.take (j + 1)).drop 1)
  have hl : ((T.take (j + 1)).drop 1).length ≤ j := by rw [List.length_drop, List.length_take]; omega
  exact Nat.lt_of_lt_of_le h (Nat.pow_le_pow_right (by omega) hl)
theorem HdR.push {w wc w3 : World} {rows : List HRow} {k c c1 : Nat} {A A1 : Option Addr} {r : HRow} (h : HdR w wc rows k (.slice A k c)) (hown : w3.ownsRow (w.heap.size + 1) 29 2 (.slice A1 (k + 1) c1) (k + 1) (rows.flatMap rowC ++ rowC r)) (hB : Below (w.heap.size + 1) wc w3) :
    HdR w (w3.setCell ⟨w.heap.size, 0, none⟩ (.slice A1 (k + 1) c1)) (rows ++ [r]) (k + 1) (.slice A1 (k + 1) c1) := by
  have hc := (hB.cell (p := ⟨w.heap.size, 0, none⟩) (by simp)).trans h.cell
  refine ⟨World.cell?_setCell_same _ _ _ hc, ?_, ?_, ?_, ?_⟩
  · rw [World.frozen?_setCell]
    exact (hB.frozen (p := ⟨w.heap.size, 0, none⟩) (by simp)).trans h.fz
  · have e : (rows ++ [r]).flatMap rowC = rows.flatMap rowC ++ rowC r := by simp
    rw [e]
    refine hown.kept (grown_set _ _ _) ?_
    rcases own_cells hown with ⟨q1, _⟩ | ⟨g, c', q1, _, hg, _⟩
    · exact .inl (by rw [q1]; rfl)
    · right
      rw [q1]
      intro e'
      simp [Value.ownBlock] at e'
      omega
  · exact (h.bel.trans (hB.mono (by omega))).setCell (p := ⟨w.heap.size, 0, none⟩) (Nat.le_refl _) _
  · have := hB.size
    have := h.lt
    rw [show (w3.setCell ⟨w.heap.size, 0, none⟩ (.slice A1 (k + 1) c1)).heap.size = w3.heap.size by simp [World.setCell]]
    omega
theorem HdR.again {w wc : World} {rows : List HRow} {k : Nat} {v : Value} (h : HdR w wc rows k v) : HdR w (wc.setCell ⟨w.heap.size, 0, none⟩ v) rows k v := by
  refine ⟨World.cell?_setCell_same _ _ _ h.cell, ?_, ?_, ?_, ?_⟩
  · rw [World.frozen?_setCell]
    exact h.fz
  · refine h.own.kept (grown_set _ _ _) ?_
    rcases own_cells h.own with ⟨q1, _⟩ | ⟨g, c', q1, _, hg, _⟩
    · exact .inl (by rw [q1]; rfl)
    · right
      rw [q1]
      intro e'
      simp [Value.ownBlock] at e'
      omega
  · exact h.bel.setCell (p := ⟨w.heap.size, 0, none⟩) (Nat.le_refl _) _
  · have := h.lt
    simpa [World.setCell] using this
theorem read_ok {S : List UInt8} {w wc : World} {rows : List HRow} {k : Nat} {v : Value} (h : HdR w wc rows k v) (hk : k = rows.length) (hr : readT 8 0 S = .inl rows) (hb : ∀ r ∈ rows, rwB r) :
    ReadP S w (.returned (.tuple #[.agg #[v], .nilIface])) wc := by
  subst hk
  exact ⟨.inr ⟨rows, v, hr, rfl, RdH.own h.own hb⟩, h.bel⟩
theorem idx_str {P : Program} (t : TypeId) (ht : P.underlying t = some .string) (s : ByteArray) (i : Nat) (h : i < s.size) (W : World) : (Instr.index t (.string s) (.int .i64 (i : Int))).run P W = .ok (.int .u8 ((s.data.toList.getD i 0).toNat : Int)) W := by
  rw [run_index_string (P := P) W t s .i64 i ht, dif_pos (by omega)]
  have hg : s.data.toList.getD i 0 = s.data[i]'h := by
    rw [List.getD_eq_getElem?_getD, Array.getElem?_toList, Array.getElem?_eq_getElem h]
    rfl
  rw [hg]
  rfl
theorem info_row : (Try.prog.info? 29).map (fun i => (i.zero, i.size, i.bytes)) = some (some (.agg #[.int .i64 0, .int .u8 0]), 2, 16) := by kernel_rfl
theorem or8 {m j : Nat} (hm : m < 2 ^ j) (hj : j < 8) : bits .or .u8 ((m : Nat) : Int) ((2 : Int) ^ j % 256) = ((m + 2 ^ j : Nat) : Int) := by
  have h8 : (2 : Nat) ^ j ≤ 2 ^ 7 := Nat.pow_le_pow_right (by omega) (by omega)
  have e2 : (2 : Int) ^ j = ((2 ^ j : Nat) : Int) := by simp
  rw [e2, show ((2 ^ j : Nat) : Int) % 256 = ((2 ^ j : Nat) : Int) by omega, (bits_nat .u8 8 (by decide) wraps_u8 m (2 ^ j) (by omega) (by omega)).2]
  congr 1
  rw [Nat.or_comm]
  have := Nat.two_pow_add_eq_or_of_lt hm 1
  rw [Nat.mul_one] at this
  omega
theorem fault_end {S : List UInt8} {w w1 : World} {b : Nat} {c : Int} {t : Nat} (hB : Below w.heap.size w w1) (hF : FaultAt w1 b c t) (hb : w.heap.size < b) (hr : readT 8 0 S = .inr (c, t)) :
    ReadP S w (.returned (.tuple #[.agg #[.slice none 0 0], FV b])) (w1.setCell ⟨w.heap.size, 0, none⟩ (.slice none 0 0)) := by
  refine ⟨.inl ⟨c, t, b, hr, rfl, ?_, ?_⟩, hB.setCell (p := ⟨w.heap.size, 0, none⟩) (Nat.le_refl _) _⟩
  · rw [World.cell?_setCell_other (h := by simp <;> omega)]
    exact hF.1
  · rw [World.cell?_setCell_other (h := by simp <;> omega)]
    exact hF.2
theorem frozen_new {w : World} {b : Nat} {cs : Array Value} {t : TypeId} (h : w.heap[b]? = some (.cells cs t (0, 0))) (j : Nat) : w.frozen? ⟨b, j, none⟩ = false := by simp [World.frozen?, h]
theorem InR.start (wo : World) (u : ByteArray) (T : TypeId) : InR wo ((wo.alloc (.cells #[.int .i64 0, .int .u8 0] T)).iter u 0) u 0 := by
  have hs : (wo.alloc (.cells #[.int .i64 0, .int .u8 0] T)).heap.size = wo.heap.size + 1 := by simp
  have hB : Below (wo.heap.size + 1) (wo.alloc (.cells #[.int .i64 0, .int .u8 0] T)) ((wo.alloc (.cells #[.int .i64 0, .int .u8 0] T)).iter u 0) := by
    show Below _ _ ((wo.alloc _).alloc _)
    exact (Below.refl _ _).alloc (by simp) _
  have hh := heap_alloc_new wo (.cells #[.int .i64 0, .int .u8 0] T)
  refine ⟨?_, ?_, ?_, ?_, ?_, ?_, rfl⟩
  · have := World.iter_heap (wo.alloc (.cells #[.int .i64 0, .int .u8 0] T)) u 0
    rwa [hs] at this
  · rw [hB.cell (p := ⟨wo.heap.size, 0, none⟩) (by simp), cell_of_row _ _ 0 _ _ _ hh]
    rfl
  · rw [hB.cell (p := ⟨wo.heap.size, 1, none⟩) (by simp), cell_of_row _ _ 1 _ _ _ hh]
    rfl
  · rw [hB.frozen (p := ⟨wo.heap.size, 0, none⟩) (by simp)]
    exact frozen_new hh _
  · rw [hB.frozen (p := ⟨wo.heap.size, 1, none⟩) (by simp)]
    exact frozen_new hh _
  · exact ((Below.refl _ _).alloc (Nat.le_refl _) _).alloc (by simp) _
/-- The iterator has gone on. -/
theorem InR.step {wo wr : World} {u : ByteArray} {j : Nat} (h : InR wo wr u j) (p : Nat) :
    (setIt wr (wo.heap.size + 1) u p).heap[wo.heap.size + 1]? = some (.stringIter u p) ∧
    (∀ i, (setIt wr (wo.heap.size + 1) u p).cell? ⟨wo.heap.size, i, none⟩ = wr.cell? ⟨wo.heap.size, i, none⟩) ∧
    (∀ i, (setIt wr (wo.heap.size + 1) u p).frozen? ⟨wo.heap.size, i, none⟩ = wr.frozen? ⟨wo.heap.size, i, none⟩) ∧
    Below wo.heap.size wo (setIt wr (wo.heap.size + 1) u p) :=
  ⟨setIt_at (Array.getElem?_eq_some_iff.1 h.it).1, fun i => setIt_cell (by omega), fun i => setIt_frozen (by omega), h.bel.trans (setIt_below (by omega))⟩
theorem okC_zero {b : UInt8} (h : okC 0 b = true) : 48 ≤ b.toNat ∧ b.toNat ≤ 50 := by
  unfold okC at h
  rw [if_pos rfl] at h
  simpa using h
theorem okC_more {j : Nat} {b : UInt8} (h : okC (j + 1) b = true) : b = 35 ∨ b = 46 := by
  unfold okC at h
  rw [if_neg (by omega)] at h
  simpa using h
theorem okC_no0 {b : UInt8} (h : okC 0 b = false) : ¬ (48 ≤ b.toNat ∧ b.toNat ≤ 50) := by
  unfold okC at h
  rw [if_pos rfl] at h
  intro hc
  simp [hc.1, hc.2] at h
theorem okC_no {j : Nat} {b : UInt8} (h : okC (j + 1) b = false) : b ≠ 35 ∧ b ≠ 46 := by
  unfold okC at h
  rw [if_neg (by omega)] at h
  simpa using h
theorem iterPos_of {W : World} {b p : Nat} {s : ByteArray} (h : W.heap[b]? = some (.stringIter s p)) : W.iterPos b = p := by simp [World.iterPos, h]
theorem getD_at {T : List UInt8} {b : UInt8} (h : T[0]? = some b) : T.getD 0 0 = b := by
  rw [List.getD_eq_getElem?_getD, h]
  rfl
set_option maxRecDepth 100000 in
set_option maxHeartbeats 8000000 in
theorem read_any (s : ByteArray) (w : World) (hs : s.size ≤ 140737488351232) : Calls Try.prog 9 #[.string s] w (ReadP s.data.toList w) := by
  have hsz : s.data.toList.length = s.size := by rw [Array.length_toList]; rfl
  go_enter Try.func9, Try.ntmps9
  go_wp2_with fail
  have HH0 : Hid (HdR w (w.alloc (.cells #[.slice none 0 0] 26)) [] 0 (.slice none 0 0)) := ⟨by go_cell, by simp, World.ownsRow_nil _ _ _ _, by go_grown, by simp⟩
  have HI0 := Lib.hid (RdI.start s.data.toList)
  obtain ⟨S, hS⟩ : ∃ S, S = s.data.toList := ⟨_, rfl⟩
  rw [← hS] at hsz HI0 ⊢
  have HS := Lib.hid hS
  clear hS
  go_loopw [5] (fun i wr => ∃ (k a : Nat) (rows : List HRow) (v : Value), k ≤ 8 ∧ a ≤ s.size ∧ a ≤ 80 ∧ i = .int .i64 a ∧ Hid (RdI S rows k a) ∧ Hid (HdR w wr rows k v)) (fun i _ => 100 - (intOf i).toNat)
  case atStart => exact ⟨0, 0, [], _, by omega, by omega, by omega, rfl, HI0, HH0⟩
  case round =>
    clear HI0 HH0
    obtain ⟨k, a, rows, v, hk, ha, ha8, rfl, HI, HH⟩ := hrel
    obtain ⟨A, c, rfl⟩ := own_opn HH.out.own
    have ch := HH.out.cell
    have fh := HH.out.fz
    have hlt := HH.out.lt
    by_cases hk8 : k = 8
    · subst hk8
      go_wp2_with fail
      refine (fault_any 2 a wr).mono ?_
      rintro e w1 ⟨b, rfl, hF, hbl, hB⟩
      have ch1 := keepC hB ch
      have fh1 := (hB.frozen (p := ⟨w.heap.size, 0, none⟩) hlt).trans fh
      have HB := Lib.hid (HH.out.bel.trans (hB.mono HH.out.bel.size))
      have HF := Lib.hid hF
      clear hB hF ch fh
      unfold FV
      go_wp2_with fail
      refine bodyPost_ret (v := .tuple #[.agg #[.slice none 0 0], FV b]) (by simp [results, Try.results9, go_sem, ch1]; try rfl) rfl ?_
      exact fault_end HB.out HF.out (by omega) HI.out.full
    · have hk7 : k < 8 := by omega
      have hk8' : ((k : Int) == 8) = false := beq_eq_false_iff_ne.2 (by omega)
      clear hk8
      go_wp2_with fail
      have hul := cut_list s a (min ((a : Int) + 9) s.size).toNat (by omega) ha
      rw [← HS.out] at hul
      generalize s.extract a (min ((a : Int) + 9) s.size).toNat = u at hul ⊢
      have HUL := Lib.hid hul
      clear hul
      generalize min ((a : Int) + 9) (s.size : Int) = m
      have hus : u.size ≤ 9 := by
        have : u.data.toList.length = u.size := by rw [Array.length_toList]; rfl
        rw [← this, HUL.out, List.length_take]
        omega
      obtain ⟨wo, rfl⟩ : ∃ wo : World, wo = wr := ⟨_, rfl⟩
      have HN0 := Lib.hid (InR.start wo u 29)
      go_loopw [8] (fun x wr => ∃ j : Nat, j ≤ u.size ∧ Hid (InR wo wr u j)) (fun _ wr => 9 - wr.iterPos (wo.heap.size + 1))
      case atStart => exact ⟨0, by omega, HN0⟩
      case round =>
        clear HN0
        obtain ⟨j, hj, HN⟩ := hrel
        have HHi := Lib.hid (HH.out.below HN.out.bel)
        have fhi := HHi.out.fz
        have chi := HHi.out.cell
        by_cases hju : j < u.size
        · have hb := at_list hju
          have hnx := fun ty => run_next_at (P := Try.prog) wr (wo.heap.size + 1) u j ty HN.out.it hju
          cases ho : okC j u[j] with
          | true =>
            have hasc : (u[j]).toNat < 128 := by
              cases j with
              | zero => have := okC_zero ho; omega
              | succ j => rcases okC_more ho with e | e <;> rw [e] <;> decide
            rw [decode_ascii u j hju hasc] at hnx
            obtain ⟨i2, x2, y2, b2⟩ := HN.out.step (j + 1)
            have hbad := bad_no hb HN.out.bad ho
            have g0 := (x2 0).trans HN.out.c0
            have g1 := (x2 1).trans HN.out.c1
            have k0 := (y2 0).trans HN.out.f0
            have k1 := (y2 1).trans HN.out.f1
            clear x2 y2
            generalize setIt wr (wo.heap.size + 1) u (j + 1) = W2 at hnx i2 g0 g1 k0 k1 b2
            generalize hbe : u[j] = bb at hb hnx ho hasc
            clear hbe chi fhi
            have HI2 := Lib.hid i2
            have HB2 := Lib.hid b2
            have HBA := Lib.hid hbad
            have HTB := Lib.hid hb
            clear i2 b2 hbad hb
            cases j with
            | zero =>
              obtain ⟨o1, o2⟩ := okC_zero ho
              have hc1 : (48 : Int) ≤ (bb.toNat : Int) := by omega
              have hc2 : (bb.toNat : Int) ≤ 50 := by omega
              clear ho
              go_wp2_with fail
              go_roundw
              case rel => exact ⟨1, by omega, ⟨by rw [Below.heap_setCell _ _ _ _ (by simp)]; exact HI2.out, by
                  rw [World.cell?_setCell_same (h := g0)]
                  show some (Value.int .i64 ((bb.toNat : Int) - 48)) = some (.int .i64 (clsC u.data.toList))
                  unfold clsC
                  rw [getD_at HTB.out], by
                  rw [World.cell?_setCell_other (h := by simp), g1]
                  have e : (u.data.toList.take 1).drop 1 = [] := List.drop_of_length_le (by rw [List.length_take]; omega)
                  simp [e], by rw [World.frozen?_setCell]; exact k0, by rw [World.frozen?_setCell]; exact k1, HB2.out.setCell (by simp) _, HBA.out⟩⟩
              case measure =>
                rw [iterPos_of HN.out.it, iterPos_of (W := W2.setCell _ _) (s := u) (p := 1) (by rw [Below.heap_setCell _ _ _ _ (by simp)]; exact HI2.out)]
                omega
            | succ j =>
              have hj8 : j < 8 := by omega
              have hwj : IntKind.i64.wrap (j : Int) = (j : Int) := by simp only [IntKind.wrap_i64]; omega
              rcases okC_more ho with e | e
              · subst e
                have hor := or8 (mk_lt (T := u.data.toList) (j := j)) hj8
                have HMK := Lib.hid (mk_step (T := u.data.toList) (j := j) HTB.out)
                generalize hmq : mkM ((u.data.toList.take (j + 1)).drop 1) = mq at g1 hor HMK
                clear ho hasc
                go_wp2_with fail
                go_region
                go_wp2
                go_roundw
                case rel => exact ⟨j + 1 + 1, by omega, InR.drew ⟨by rw [Below.heap_setCell _ _ _ _ (by simp)]; exact HI2.out, by rw [World.cell?_setCell_other (h := by simp), g0]; rfl, by
                    rw [World.cell?_setCell_same (h := g1), HMK.out]
                    simp, by rw [World.frozen?_setCell]; exact k0, by rw [World.frozen?_setCell]; exact k1, HB2.out.setCell (by simp) _, HBA.out⟩⟩
                case measure =>
                  rw [iterPos_of HN.out.it, iterPos_of (W := World.drew _) (s := u) (p := j + 1 + 1) (by show (World.setCell _ _ _).heap[_]? = _; rw [Below.heap_setCell _ _ _ _ (by simp)]; exact HI2.out)]
                  omega
              · subst e
                have HMK := Lib.hid (mk_step (T := u.data.toList) (j := j) HTB.out)
                clear ho hasc
                go_wp2_with fail
                go_roundw
                case rel => exact ⟨j + 1 + 1, by omega, ⟨HI2.out, by rw [g0]; rfl, by rw [g1, HMK.out]; rfl, k0, k1, HB2.out, HBA.out⟩⟩
                case measure =>
                  rw [iterPos_of HN.out.it, iterPos_of HI2.out]
                  omega
          | false =>
            have hc : (j = 0 → ¬ (48 ≤ (Utf8.decode u j).1 ∧ (Utf8.decode u j).1 ≤ 50)) ∧ (j ≠ 0 → (Utf8.decode u j).1 ≠ 35 ∧ (Utf8.decode u j).1 ≠ 46) := by
              by_cases hasc : (u[j]).toNat < 128
              · rw [decode_ascii u j hju hasc]
                refine ⟨fun e => ?_, fun e => ?_⟩
                · subst e
                  exact okC_no0 ho
                · obtain ⟨j', rfl⟩ : ∃ j', j = j' + 1 := ⟨j - 1, by omega⟩
                  obtain ⟨q1, q2⟩ := okC_no ho
                  exact ⟨fun e => q1 (UInt8.toNat.inj e), fun e => q2 (UInt8.toNat.inj e)⟩
              · have := (decode_high u j hju (by omega)).1
                exact ⟨fun _ => by omega, fun _ => by omega⟩
            obtain ⟨i2, x2, y2, b2⟩ := HN.out.step (j + (Utf8.decode u j).2)
            have hbad := bad_yes hb HN.out.bad ho
            have HR : Hid (readT 8 0 S = .inr (5, a + j)) := HI.out.fail hk7 (fun f => readT_bad (by rw [← HUL.out]; exact hbad))
            generalize setIt wr (wo.heap.size + 1) u (j + (Utf8.decode u j).2) = W2 at hnx i2 x2 y2 b2
            generalize (Utf8.decode u j).1 = cr at hnx hc
            have HH2 := Lib.hid (HH.out.below b2)
            have ch2 := HH2.out.cell
            have fh2 := HH2.out.fz
            clear i2 x2 y2 b2 hbad chi fhi hb ho ch fh
            cases j with
            | zero =>
              have hc0 := hc.1 rfl
              by_cases hlo : (48 : Int) ≤ (cr : Int)
              · have hhi : (50 : Int) < (cr : Int) := by omega
                clear hc hc0
                go_wp2_with fail
                refine (fault_any _ _ _).mono ?_
                rintro e w1 ⟨b, rfl, hF, hbl, hB⟩
                have ch1 := keepC hB ch2
                have fh1 := (hB.frozen (p := ⟨w.heap.size, 0, none⟩) HH2.out.lt).trans fh2
                have HB := Lib.hid (HH2.out.bel.trans (hB.mono HH2.out.bel.size))
                have HF := Lib.hid hF
                have hlt2 := HH2.out.lt
                clear hB hF ch2 fh2
                unfold FV
                go_wp2_with fail
                refine bodyPost_ret (v := .tuple #[.agg #[.slice none 0 0], FV b]) (by simp [results, Try.results9, go_sem, ch1]; try rfl) rfl ?_
                exact fault_end HB.out HF.out (by omega) (by simpa using HR.out)
              · have hhi : (cr : Int) < 48 := by omega
                clear hc hc0 hlo
                go_wp2_with fail
                refine (fault_any _ _ _).mono ?_
                rintro e w1 ⟨b, rfl, hF, hbl, hB⟩
                have ch1 := keepC hB ch2
                have fh1 := (hB.frozen (p := ⟨w.heap.size, 0, none⟩) HH2.out.lt).trans fh2
                have HB := Lib.hid (HH2.out.bel.trans (hB.mono HH2.out.bel.size))
                have HF := Lib.hid hF
                have hlt2 := HH2.out.lt
                clear hB hF ch2 fh2
                unfold FV
                go_wp2_with fail
                refine bodyPost_ret (v := .tuple #[.agg #[.slice none 0 0], FV b]) (by simp [results, Try.results9, go_sem, ch1]; try rfl) rfl ?_
                exact fault_end HB.out HF.out (by omega) (by simpa using HR.out)
            | succ j =>
              obtain ⟨n35, n46⟩ := hc.2 (by omega)
              have h35 : ((cr : Int) == 35) = false := beq_eq_false_iff_ne.2 (by omega)
              have h46 : ((cr : Int) != 46) = true := by rw [bne_iff_ne]; omega
              clear hc n35 n46
              go_wp2_with fail
              refine (fault_any _ _ _).mono ?_
              rintro e w1 ⟨b, rfl, hF, hbl, hB⟩
              have ch1 := keepC hB ch2
              have fh1 := (hB.frozen (p := ⟨w.heap.size, 0, none⟩) HH2.out.lt).trans fh2
              have HB := Lib.hid (HH2.out.bel.trans (hB.mono HH2.out.bel.size))
              have HF := Lib.hid hF
              have hlt2 := HH2.out.lt
              clear hB hF ch2 fh2
              unfold FV
              go_wp2_with fail
              refine bodyPost_ret (v := .tuple #[.agg #[.slice none 0 0], FV b]) (by simp [results, Try.results9, go_sem, ch1]; try rfl) rfl ?_
              exact fault_end HB.out HF.out (by omega) HR.out
        · obtain rfl : j = u.size := by omega
          have hnx := fun ty => run_next_stop (P := Try.prog) wr (wo.heap.size + 1) u u.size ty HN.out.it (by omega)
          have hTl : u.data.toList.length = u.size := by rw [Array.length_toList]; rfl
          have hbad := HN.out.bad
          have g0 := HN.out.c0
          have g1 := HN.out.c1
          have k1 := HN.out.f1
          rw [List.take_of_length_le (by omega), HUL.out] at hbad
          rw [List.take_of_length_le (by omega)] at g1
          have hdl : (S.drop a).length = s.size - a := by rw [List.length_drop, hsz]
          have hu9 : u.size = min 9 (s.size - a) := by rw [← hTl, HUL.out, List.length_take, hdl]
          have HBAD := Lib.hid hbad
          have HDL := Lib.hid hdl
          have HU9 := Lib.hid hu9
          clear hbad ch fh hdl hTl hu9
          by_cases h9 : u.size < 9
          · have HR : Hid (readT 8 0 S = .inr (5, s.size)) := by
              have q := HI.out.fail hk7 (fun f => readT_short HBAD.out (by have := HDL.out; have := HU9.out; omega))
              have := HDL.out
              have := HU9.out
              rwa [show a + (S.drop a).length = s.size by omega] at q
            go_wp2_with fail
            refine (fault_any _ _ _).mono ?_
            rintro e w1 ⟨b, rfl, hF, hbl, hB⟩
            have ch1 := keepC hB chi
            have fh1 := (hB.frozen (p := ⟨w.heap.size, 0, none⟩) HHi.out.lt).trans fhi
            have HB := Lib.hid (HHi.out.bel.trans (hB.mono HHi.out.bel.size))
            have HF := Lib.hid hF
            have hlt2 := HHi.out.lt
            clear hB hF chi fhi
            unfold FV
            go_wp2_with fail
            refine bodyPost_ret (v := .tuple #[.agg #[.slice none 0 0], FV b]) (by simp [results, Try.results9, go_sem, ch1]; try rfl) rfl ?_
            exact fault_end HB.out HF.out (by omega) HR.out
          · have h9' : a + 9 ≤ s.size := by have := HU9.out; omega
            have h9i : (9 : Int) ≤ (u.size : Int) := by omega
            have h90 : u.size ≠ 0 := by omega
            clear h9
            generalize hcj : clsJ u.data.toList u.size = cj at g0
            have HCJ := Lib.hid hcj
            clear hcj
            generalize hM : mkM (u.data.toList.drop 1) = M at g1
            have HMM : Hid (mkM (((S.drop a).take 9).drop 1) = M) := by show mkM (((S.drop a).take 9).drop 1) = M; rw [← HUL.out]; exact hM
            clear hM
            have HRO : Hid (#[Value.int .i64 cj, Value.int .u8 (M : Nat)].toList = rowC (rowOf ((S.drop a).take 9))) := by
              show [Value.int .i64 cj, Value.int .u8 (M : Nat)] = [Value.int .i64 (clsC ((S.drop a).take 9)), Value.int .u8 ((mkM (((S.drop a).take 9).drop 1) : Nat) : Int)]
              rw [HMM.out, ← HUL.out, ← HCJ.out]
              unfold clsJ
              rw [if_neg h90]
            by_cases hend : a + 9 = s.size
            · have hendi : (a : Int) + 9 = (s.size : Int) := by omega
              have hdl9 : (S.drop a).length = 9 := by have := HDL.out; omega
              have HD9 := Lib.hid hdl9
              clear hdl9
              by_cases hM0 : M = 0
              · subst hM0
                have HR : Hid (readT 8 0 S = .inr (23, a)) := HI.out.fail hk7 (fun f => readT_zero HBAD.out (by rw [HD9.out]; omega) (.inl HD9.out) HMM.out)
                go_wp2_with fail
                refine (fault_any _ _ _).mono ?_
                rintro e w1 ⟨b, rfl, hF, hbl, hB⟩
                have ch1 := keepC hB chi
                have fh1 := (hB.frozen (p := ⟨w.heap.size, 0, none⟩) HHi.out.lt).trans fhi
                have HB := Lib.hid (HHi.out.bel.trans (hB.mono HHi.out.bel.size))
                have HF := Lib.hid hF
                have hlt2 := HHi.out.lt
                clear hB hF chi fhi
                unfold FV
                go_wp2_with fail
                refine bodyPost_ret (v := .tuple #[.agg #[.slice none 0 0], FV b]) (by simp [results, Try.results9, go_sem, ch1]; try rfl) rfl ?_
                exact fault_end HB.out HF.out (by omega) HR.out
              · have hM0i : ((M : Int) == 0) = false := beq_eq_false_iff_ne.2 (by omega)
                have HL := Lib.hid (HI.out.last hk7 HBAD.out HD9.out (by rw [HMM.out]; exact hM0))
                go_wp2_with (at_builtin; go_loud (refine own_append_box (w0 := wr) (w.heap.size + 1) rfl (.tmp 122) (.tmp 124) 24 29 rfl Try.underlying24 info_row rfl (by decide) _ _ _ #[.int .i64 cj, .int .u8 (M : Nat)] rfl (by simp [Value.oneCell']) rfl rfl HHi.out.own (Below.refl _ _) (by have := HHi.out.lt; omega) (by omega) (by omega) ?_); intro v1 w3 hown hB3 hs3; obtain ⟨A1, c1, rfl⟩ := own_opn hown; have c3 := (hB3.cell (p := ⟨w.heap.size, 0, none⟩) (by simp)).trans chi; have f3 := (hB3.frozen (p := ⟨w.heap.size, 0, none⟩) (by simp)).trans fhi; have HP := Lib.hid (HHi.out.push (r := rowOf ((S.drop a).take 9)) (HRO.out ▸ hown) hB3); clear hown hB3)
                have hc9 := HP.out.cell
                refine bodyPost_ret (v := .tuple #[.agg #[.slice A1 (k + 1) c1], .nilIface]) (by simp [results, Try.results9, go_sem, hc9]; try rfl) rfl ?_
                have hk1 : k + 1 = (rows ++ [rowOf ((S.drop a).take 9)]).length := by rw [List.length_append, HI.out.len]; rfl
                first | exact read_ok HP.out hk1 HL.out.1 HL.out.2 | exact read_ok HP.out.again hk1 HL.out.1 HL.out.2
            · have hend' : a + 9 < s.size := by omega
              have hix := fun W => idx_str (P := Try.prog) 9 Try.underlying9 s (a + 9) hend' W
              rw [show ((a + 9 : Nat) : Int) = (a : Int) + 9 by omega, ← HS.out] at hix
              have hsp : S.getD (a + 9) 0 = ((S.drop a).drop 9).getD 0 0 := by rw [List.drop_drop, List.getD_eq_getElem?_getD, List.getD_eq_getElem?_getD, List.getElem?_drop, Nat.add_zero]
              have HSP := Lib.hid hsp
              generalize S.getD (a + 9) 0 = d at hix hsp HSP
              clear hsp hend
              have hendi : ((a : Int) + 9 == (s.size : Int)) = false := beq_eq_false_iff_ne.2 (by omega)
              have hdl9 : 9 < (S.drop a).length := by have := HDL.out; omega
              by_cases h47 : d = 47
              · subst h47
                by_cases hM0 : M = 0
                · subst hM0
                  have HR : Hid (readT 8 0 S = .inr (23, a)) := HI.out.fail hk7 (fun f => readT_zero HBAD.out (by omega) (.inr HSP.out.symm) HMM.out)
                  go_wp2_with fail
                  refine (fault_any _ _ _).mono ?_
                  rintro e w1 ⟨b, rfl, hF, hbl, hB⟩
                  have ch1 := keepC hB chi
                  have fh1 := (hB.frozen (p := ⟨w.heap.size, 0, none⟩) HHi.out.lt).trans fhi
                  have HB := Lib.hid (HHi.out.bel.trans (hB.mono HHi.out.bel.size))
                  have HF := Lib.hid hF
                  have hlt2 := HHi.out.lt
                  clear hB hF chi fhi
                  unfold FV
                  go_wp2_with fail
                  refine bodyPost_ret (v := .tuple #[.agg #[.slice none 0 0], FV b]) (by simp [results, Try.results9, go_sem, ch1]; try rfl) rfl ?_
                  exact fault_end HB.out HF.out (by omega) HR.out
                · have hM0i : ((M : Int) == 0) = false := beq_eq_false_iff_ne.2 (by omega)
                  have HL := Lib.hid (HI.out.next hk7 HBAD.out hdl9 HSP.out.symm (by rw [HMM.out]; exact hM0))
                  go_wp2_with (at_builtin; go_loud (refine own_append_box (w0 := wr) (w.heap.size + 1) rfl (.tmp 129) (.tmp 131) 24 29 rfl Try.underlying24 info_row rfl (by decide) _ _ _ #[.int .i64 cj, .int .u8 (M : Nat)] rfl (by simp [Value.oneCell']) rfl rfl HHi.out.own (Below.refl _ _) (by have := HHi.out.lt; omega) (by omega) (by omega) ?_); intro v1 w3 hown hB3 hs3; obtain ⟨A1, c1, rfl⟩ := own_opn hown; have c3 := (hB3.cell (p := ⟨w.heap.size, 0, none⟩) (by simp)).trans chi; have f3 := (hB3.frozen (p := ⟨w.heap.size, 0, none⟩) (by simp)).trans fhi; have HP := Lib.hid (HHi.out.push (r := rowOf ((S.drop a).take 9)) (HRO.out ▸ hown) hB3); clear hown hB3)
                  go_roundw
                  case rel => exact ⟨k + 1, a + 10, _, _, by omega, by omega, by have := HI.out.ak; omega, by go_num, HL, HP⟩
                  case measure => simp [intOf]; omega
              · have h47i : ((d.toNat : Int) != 47) = true := by
                  rw [bne_iff_ne]
                  intro e
                  exact h47 (UInt8.toNat.inj (by simpa using Int.ofNat.inj e))
                have HR : Hid (readT 8 0 S = .inr (5, a + 9)) := HI.out.fail hk7 (fun f => readT_sep HBAD.out (by have := HDL.out; omega) (by rw [← HSP.out]; exact h47))
                go_wp2_with fail
                refine (fault_any _ _ _).mono ?_
                rintro e w1 ⟨b, rfl, hF, hbl, hB⟩
                have ch1 := keepC hB chi
                have fh1 := (hB.frozen (p := ⟨w.heap.size, 0, none⟩) HHi.out.lt).trans fhi
                have HB := Lib.hid (HHi.out.bel.trans (hB.mono HHi.out.bel.size))
                have HF := Lib.hid hF
                have hlt2 := HHi.out.lt
                clear hB hF chi fhi
                unfold FV
                go_wp2_with fail
                refine bodyPost_ret (v := .tuple #[.agg #[.slice none 0 0], FV b]) (by simp [results, Try.results9, go_sem, ch1]; try rfl) rfl ?_
                exact fault_end HB.out HF.out (by omega) HR.out
end Go.Proofs.Ytpbfabcihoiiiaa
