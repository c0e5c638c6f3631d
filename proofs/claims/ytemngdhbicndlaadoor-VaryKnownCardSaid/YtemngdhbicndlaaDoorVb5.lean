/- Bytes are appended, and the blocks of other types stay; a number is laid. -/
import Derived.Test.YtemngdhbicndlaaDoorVb4
import Derived.Deep.RegionHeld3
namespace Go.Proofs.YtemngdhbicndlaaDoor
open Go.RowKit
set_option linter.unusedVariables false
set_option linter.unusedSimpArgs false

theorem own_type {w : World} {base : Nat} {e : TypeId} {size : Nat} {v : Value} {n : Nat} {xs : List Value} (h : w.ownsRow base e size v n xs) {k : Nat} (hk : v.ownBlock = some k) {cs : Array Value} {t : TypeId} {fr : Nat × Nat} (hc : w.heap[k]? = some (.cells cs t fr)) : t = e := by
  rcases h.2 with ⟨rfl, _⟩ | ⟨g, cap, cur, rfl, _, hg, _⟩
  · cases hk
  · obtain rfl : g = k := by simpa [Value.ownBlock] using hk
    rw [hc] at hg
    simp at hg
    exact hg.2.1
theorem KeptT.of_grown {w w1 : World} {base : Nat} {e : TypeId} {size : Nat} {v : Value} {n : Nat} {xs : List Value} (h : w.ownsRow base e size v n xs) (hg : w.grownBy w1 v.ownBlock) : KeptT e w w1 :=
  ⟨hg.os, hg.tape, hg.output, hg.size, fun k cs t fr hk hne => (hg.block k (by
    rcases Nat.lt_or_ge k w.heap.size with h' | h'
    · exact h'
    · rw [Array.getElem?_eq_none h'] at hk
      cases hk) (fun e => hne (own_type h e.symm hk))).trans hk⟩
theorem KeptT.alloc (e : TypeId) (w : World) (o : Obj) : KeptT e w (w.alloc o) := KeptT.of_below ((Below.refl _ _).alloc (Nat.le_refl _) _)
section
variable {P : Program} {ops : Array Oper} {rest : List Oper} {o : Oper} {a : Act} {Q : Exit → Act → World → Prop}
/-- append(v, x) of one byte, v the call's own: behind 'at_builtin'. -/
theorem byte_append {w0 W : World} (base : Nat) (hgd : o.guard = none) (s x : Operand) (t e : TypeId)
    (ho : o.op = .call { callee := .builtin .append, args := #[s, x], argTypes := #[t, t] })
    (ht : P.underlying t = some (.slice e)) (hinfo : (P.info? e).map (fun i => (i.zero, i.size, i.bytes)) = some (some (.int .u8 0), 1, 1))
    (v : Value) (l : List UInt8) (y : Int) (b : UInt8) (hy : y = (b.toNat : Int)) (hs : a.eval s = v) (hx : a.eval x = .slice (some ⟨W.heap.size, 0, none⟩) 1 1)
    (HO : W.ownsRow base e 1 v l.length (bv l)) (HB : Below base w0 W) (hbase : base ≤ W.heap.size) (hl : l.length + 1 ≤ 140737488355328)
    (h : ∀ v1 w1, w1.ownsRow base e 1 v1 (l ++ [b]).length (bv (l ++ [b])) → Below base w0 w1 → KeptT e W w1 → W.heap.size ≤ w1.heap.size → wpList P ops Q rest (a.put o.dst v1) w1) :
    wpList P ops Q (o :: rest) a (W.alloc (.cells #[.int .u8 y] e)) := by
  obtain ⟨i0, hi, hz0, hz1, hz2⟩ := info_parts hinfo
  subst hy
  have hnew := World.news_of_block (cs := #[Value.int .u8 (b.toNat : Int)]) (t := e) (fr := (0, 0)) (heap_alloc_new W _)
  refine wpList_append_own (W.alloc (.cells #[Value.int .u8 (b.toNat : Int)] e)) hgd s x t ho base e i0 (.int .u8 0) 1 1 ht hi hz0 hz1 hz2 rfl (by omega) v l.length (bv l) hs (HO.alloc _) ⟨W.heap.size, 0, none⟩ 1 1 [.int .u8 (b.toNat : Int)] hx rfl
    hnew (by simp [Value.oneCell']) (by simp only [maxLen]; omega) (by omega) (by simp; omega) ?_
  intro v1 w1 hown hg _
  have hsz : W.heap.size ≤ w1.heap.size := by have := hg.size; simp at this; omega
  exact h v1 w1 (by rw [List.length_append, bv_append]; exact hown) ((HB.alloc hbase _).grown hg (by simp; omega) (fun k hk => ((HO.lt) k hk).1)) ((KeptT.alloc e W _).trans (KeptT.of_grown (HO.alloc _) hg)) hsz
/-- The same, as a step of a region that draws. -/
theorem step_byte {w0 w : World} {K : Act → World → Prop} {E : Prop} {B : Nat} (base : Nat) (hgd : o.guard = none) (s x : Operand) (t e : TypeId)
    (ho : o.op = .call { callee := .builtin .append, args := #[s, x], argTypes := #[t, t] })
    (ht : P.underlying t = some (.slice e)) (hinfo : (P.info? e).map (fun i => (i.zero, i.size, i.bytes)) = some (some (.int .u8 0), 1, 1))
    (v : Value) (l : List UInt8) (y : Int) (b : UInt8) (hy : y = (b.toNat : Int)) (hs : a.eval s = v) (hx : a.eval x = .slice (some ⟨B, 0, none⟩) 1 1)
    (hB : w.heap[B]? = some (.cells #[.int .u8 y] e (0, 0))) (HO : w.ownsRow base e 1 v l.length (bv l)) (HB : Below base w0 w) (hbase : base ≤ w.heap.size) (hl : l.length + 1 ≤ 140737488355328)
    (h : ∀ v1 w1, w1.ownsRow base e 1 v1 (l ++ [b]).length (bv (l ++ [b])) → Below base w0 w1 → KeptT e w w1 → w.heap.size ≤ w1.heap.size → K (a.put o.dst v1) w1) :
    if Region.wanted o (yielded ops a.tmps) = true then Oper.wp P o a w K Q else E := by
  have hw : Region.wanted o (yielded ops a.tmps) = true := by simp [Region.wanted, hgd]
  rw [if_pos hw]
  obtain ⟨i0, hi, hz0, hz1, hz2⟩ := info_parts hinfo
  subst hy
  have hnew := World.news_of_block (cs := #[Value.int .u8 (b.toNat : Int)]) (t := e) (fr := (0, 0)) hB
  refine wp_append_own w s x t ho base e i0 (.int .u8 0) 1 1 ht hi hz0 hz1 hz2 rfl (by omega) v l.length (bv l) hs HO ⟨B, 0, none⟩ 1 1 [.int .u8 (b.toNat : Int)] hx rfl
    hnew (by simp [Value.oneCell']) (by simp only [maxLen]; omega) (by omega) hbase ?_
  intro v1 w1 hown hg _
  exact h v1 w1 (by rw [List.length_append, bv_append]; exact hown) (HB.grown hg hbase (fun k hk => ((HO.lt) k hk).1)) (KeptT.of_grown HO hg) hg.size
/-- append(v, x...), v the call's own, x a string, as a step of a region that draws. -/
theorem step_str {w0 w : World} {K : Act → World → Prop} {E : Prop} (base : Nat) (hgd : o.guard = none) (s x : Operand) (t e u : TypeId)
    (ho : o.op = .call { callee := .builtin .append, args := #[s, x], argTypes := #[t, u] })
    (ht : P.underlying t = some (.slice e)) (hu : P.underlying u = some .string) (hinfo : (P.info? e).map (fun i => (i.zero, i.size, i.bytes)) = some (some (.int .u8 0), 1, 1))
    (v : Value) (l : List UInt8) (hs : a.eval s = v) (st : ByteArray) (hx : a.eval x = .string st)
    (HO : w.ownsRow base e 1 v l.length (bv l)) (HB : Below base w0 w) (hbase : base ≤ w.heap.size) (hl : l.length + st.size ≤ 140737488355328)
    (h : ∀ v1 w1, w1.ownsRow base e 1 v1 (l ++ st.data.toList).length (bv (l ++ st.data.toList)) → Below base w0 w1 → KeptT e w w1 → w.heap.size ≤ w1.heap.size → K (a.put o.dst v1) w1) :
    if Region.wanted o (yielded ops a.tmps) = true then Oper.wp P o a w K Q else E := by
  have hw : Region.wanted o (yielded ops a.tmps) = true := by simp [Region.wanted, hgd]
  rw [if_pos hw]
  obtain ⟨i0, hi, hz0, hz1, hz2⟩ := info_parts hinfo
  obtain ⟨v1, w1, hr, hown, hg, _⟩ := Lib.run_append_own_string w base t u o.type e i0 ht hu hi hz0 hz1 hz2 v l.length (bv l) HO st (by simp only [maxLen]; omega) hl hbase
  have hK := h v1 w1 (by
    have e1 : (l ++ st.data.toList).length = l.length + st.size := by rw [List.length_append, Array.length_toList]; rfl
    rw [e1, bv_append]
    exact hown) (HB.grown hg hbase (fun k hk => ((HO.lt) k hk).1)) (KeptT.of_grown HO hg) hg.size
  unfold Oper.wp execOp
  simp only [ho, resolve, invoke, builtin, Sem.run_bind, Sem.run_pure, Result.andThen_ok, List.map_toArray, List.map_cons, List.map_nil, hs, hx, hr]
  exact hK
end
theorem info_u8 : (Tryd.prog.info? 5).map (fun i => (i.zero, i.size, i.bytes)) = some (some (.int .u8 0), 1, 1) := by kernel_rfl
theorem beB_low (k : Nat) : ∀ n, beB k (n % 256 ^ k) = beB k n := by
  induction k with
  | zero => intro n; rfl
  | succ k ih =>
    intro n
    unfold beB
    rw [← ih (n / 256), ← ih (n % 256 ^ (k + 1) / 256)]
    have h1 : n % 256 ^ (k + 1) / 256 % 256 ^ k = n / 256 % 256 ^ k := by
      rw [Nat.pow_succ, Nat.mul_comm, Nat.mod_mul_right_div_self, Nat.mod_mod]
    have h2 : n % 256 ^ (k + 1) % 256 = n % 256 := by
      rw [Nat.pow_succ, Nat.mul_comm, Nat.mod_mul_right_mod]
    rw [h1, h2]
/-- The first bytes of k, and one more. -/
theorem beB_first (j r n : Nat) : beB (j + 1) (n / 256 ^ r) = beB j (n / 256 ^ (r + 1)) ++ [UInt8.ofNat (n / 256 ^ r % 256)] := by
  rw [beB, Nat.div_div_eq_div_mul, show 256 ^ r * 256 = 256 ^ (r + 1) from (Nat.pow_succ _ _).symm]
end Go.Proofs.YtemngdhbicndlaaDoor
