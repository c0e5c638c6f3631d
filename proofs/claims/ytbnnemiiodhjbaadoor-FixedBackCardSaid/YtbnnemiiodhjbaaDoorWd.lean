/- Words: slices of bytes that read as lists, and what appending to them gives. -/
import Derived.Test.YtbnnemiiodhjbaaDoorProg
import Derived.WalkKit
import Derived.Handy
import Derived.Lib.Hide
import Derived.Lib.AppendStr
import Derived.WalkSpells
import Derived.WalkLawsBesides
import Derived.Deep.AppendLies
import Derived.Lib.ConvBytes
import Derived.BigQuiet
import Derived.Deep.QuietTactic
import Derived.Deep.DeepCutAuto
import Derived.ArgAppend
import Derived.Laws.AppendOwnNone
namespace Go.Proofs.YtbnnemiiodhjbaaDoor
open Go.RowKit

/-- A call of a function value enters its function. -/
theorem enters {P : Program} {f : FuncId} {fn : Func} {c : Code} (hf : P.funcs[f]? = some fn) (hname : (fn.name == "runtime.NumGoroutine") = false) (hb : fn.body = some c) (args : Array Value) (w : World) :
    (callFunc f args).run P w = .ok (.enter f args) w := by
  have h1 : fn.name ≠ "runtime.NumGoroutine" := by simpa using hname
  simp [callFunc, hf, h1, hb]

/-- Bytes as cells. -/
def bv (l : List UInt8) : List Value := l.map fun b => Value.int .u8 (b.toNat : Int)
theorem bv_length (l : List UInt8) : (bv l).length = l.length := by simp [bv]
theorem bv_append (a b : List UInt8) : bv (a ++ b) = bv a ++ bv b := by simp [bv]
theorem bv_one (b : UInt8) : bv [b] = [.int .u8 (b.toNat : Int)] := rfl

theorem add_lit (b o j : Nat) : (⟨b, o, none⟩ : Addr).add j = ⟨b, o + j, none⟩ := by unfold Addr.add; split <;> simp_all

theorem own_mono {w : World} {base base' : Nat} {e : TypeId} {size : Nat} {v : Value} {n : Nat} {xs : List Value} (h : w.ownsRow base e size v n xs) (hb : base' ≤ base) : w.ownsRow base' e size v n xs :=
  ⟨h.1, h.2.imp id fun ⟨g, cap, cur, h1, h2, h3⟩ => ⟨g, cap, cur, h1, Nat.le_trans hb h2, h3⟩⟩

theorem below_drewN {B : Nat} {a w : World} (h : Below B a w) (n : Nat) : Below B a (w.drewN n) := ⟨h.os, h.tape, h.output, h.size, h.block⟩
theorem size_drewN (w : World) (n : Nat) : (w.drewN n).heap.size = w.heap.size := rfl

theorem of_drew {B : Nat} {w w1 : World} (h : Below B w.drew w1) : Below B w w1 := ⟨h.os, h.tape, h.output, h.size, h.block⟩
theorem of_drewN {B : Nat} {w w1 : World} {n : Nat} (h : Below B (w.drewN n) w1) : Below B w w1 := ⟨h.os, h.tape, h.output, h.size, h.block⟩

theorem grown_trans {w a b : World} {row : Option Nat} (h : w.grownBy a row) (k : a.grownBy b row) : w.grownBy b row :=
  ⟨k.os.trans h.os, k.tape.trans h.tape, k.output.trans h.output, Nat.le_trans h.size k.size, fun i hi hn => (k.block i (Nat.lt_of_lt_of_le hi h.size) hn).trans (h.block i hi hn)⟩
theorem grown_below {w w' : World} (h : Below w.heap.size w w') (row : Option Nat) : w.grownBy w' row := ⟨h.os, h.tape, h.output, h.size, fun k hk _ => h.block k hk⟩
theorem grown_set (W : World) (a : Addr) (v : Value) : W.grownBy (W.setCell a v) (some a.block) :=
  ⟨rfl, rfl, rfl, by simp [World.setCell], fun k _ hk => Below.heap_setCell _ _ _ k (fun e => hk (by rw [e]))⟩
theorem grown_drew {w a : World} {row : Option Nat} (h : w.grownBy a row) : w.grownBy a.drew row := ⟨h.os, h.tape, h.output, h.size, h.block⟩
theorem below_grown {B p : Nat} {w0 w w' : World} (HB : Below B w0 w) (hg : w.grownBy w' (some p)) (hp : B ≤ p) (hlt : p < w.heap.size) : Below B w0 w' :=
  HB.grown hg (Nat.le_trans hp (Nat.le_of_lt hlt)) (fun k hk => by cases hk; exact hp)

/-- The value v is a slice that reads as the bytes l. -/
def RdB (w : World) (v : Value) (l : List UInt8) : Prop :=
  ∃ (A : Option (Nat × Nat)) (c : Nat), v = .slice (A.map fun p => ⟨p.1, p.2, none⟩) l.length c ∧ l.length ≤ c ∧ (A = none → c = 0) ∧
    ∀ p, A = some p → ∀ j u, (bv l)[j]? = some u → w.cell? ⟨p.1, p.2 + j, none⟩ = some u

theorem RdB.nil (w : World) : RdB w (.slice none 0 0) [] := ⟨none, 0, rfl, Nat.le_refl _, fun _ => rfl, fun _ h => by cases h⟩

theorem RdB.below {w w1 : World} {v : Value} {l : List UInt8} (h : RdB w v l) (hb : Below w.heap.size w w1) : RdB w1 v l := by
  obtain ⟨A, c, e, h1, h2, h3⟩ := h
  exact ⟨A, c, e, h1, h2, fun p hp j u hu => by
    have hc := h3 p hp j u hu
    exact (hb.cell (World.block_lt_of_cell? w _ hc)).trans hc⟩

theorem RdB.drew {w : World} {v : Value} {l : List UInt8} (h : RdB w v l) : RdB w.drew v l := h

/-- What the call owns reads so. -/
theorem RdB.own {w : World} {base : Nat} {e : TypeId} {v : Value} {l : List UInt8} (h : w.ownsRow base e 1 v l.length (bv l)) : RdB w v l := by
  have hh := h
  rcases h.2 with ⟨hv, h0⟩ | ⟨g, cap, cur, rfl, hb, hg, h1, h2, _⟩
  · obtain rfl : l = [] := List.eq_nil_of_length_eq_zero h0
    subst hv
    exact RdB.nil w
  · refine ⟨some (g, 0), cap, rfl, h1, (fun h => by cases h), fun p hp j u hu => ?_⟩
    obtain rfl : (g, 0) = p := by simpa using hp
    have := hh.cells (g := g) rfl j u hu
    rwa [add_lit] at this

/-- string(v). -/
theorem RdB.str {P : Program} {w : World} {v : Value} {l : List UInt8} (h : RdB w v l) (src dst e : TypeId) (hs : P.underlying src = some (.slice e)) (he : P.underlying e = some (.int .u8)) (hd : P.underlying dst = some .string) :
    (convert src dst v).run P w = .ok (.string ⟨l.toArray⟩) w := by
  obtain ⟨A, c, rfl, h1, h2, h3⟩ := h
  cases A with
  | none =>
    have : c = 0 := h2 rfl
    obtain rfl : l = [] := List.eq_nil_of_length_eq_zero (by omega)
    exact run_convert_bytes_nil w src e hs he 0 c dst hd
  | some p =>
    have hk := run_convert_bytes_arg (P := P) w src e hs he p.1 p.2 l.length c (l.map fun b => (b.toNat : Int)) (by simp) (fun i hi => by
      rw [h3 p rfl i (.int .u8 (l[i].toNat : Int)) (by simp [bv, hi])]
      simp [hi]) dst hd
    rw [Option.map_some, hk]
    congr 2
    unfold strOfNums
    apply ByteArray.ext
    simp only [List.map_map]
    congr 1
    conv => rhs; rw [← List.map_id l]
    apply List.map_congr_left
    intro x _
    simp

/-- A slice that the call owns, or one that is full. -/
def Tip (w : World) (base : Nat) (e : TypeId) (v : Value) (l : List UInt8) : Prop :=
  w.ownsRow base e 1 v l.length (bv l) ∨
  ∃ A : Option (Nat × Nat), v = .slice (A.map fun p => ⟨p.1, p.2, none⟩) l.length l.length ∧ (A = none → l = []) ∧ ∀ p, A = some p → ∀ j u, (bv l)[j]? = some u → w.cell? ⟨p.1, p.2 + j, none⟩ = some u

theorem Tip.below {w w1 : World} {base : Nat} {e : TypeId} {v : Value} {l : List UInt8} (h : Tip w base e v l) (hb : Below w.heap.size w w1) : Tip w1 base e v l := by
  rcases h with h | ⟨A, h0, h1, h2⟩
  · exact .inl (h.kept ⟨hb.os, hb.tape, hb.output, hb.size, fun k hk _ => hb.block k hk⟩ (row := none) (by cases v.ownBlock <;> simp))
  · exact .inr ⟨A, h0, h1, fun p hp j u hu => by
      have hc := h2 p hp j u hu
      exact (hb.cell (World.block_lt_of_cell? w _ hc)).trans hc⟩

theorem Tip.owned {w : World} {base : Nat} {e : TypeId} {v : Value} {l : List UInt8} (h : w.ownsRow base e 1 v l.length (bv l)) : Tip w base e v l := .inl h
theorem Tip.rd {w : World} {base : Nat} {e : TypeId} {v : Value} {l : List UInt8} (h : Tip w base e v l) : RdB w v l := by
  rcases h with h | ⟨A, h0, h1, h2⟩
  · exact RdB.own h
  · exact ⟨A, l.length, h0, Nat.le_refl _, fun h => by simp [h1 h], h2⟩

/-- v[:n:n]. -/
theorem slice_full {P : Program} (t e : TypeId) (ht : P.underlying t = some (.slice e)) (hinfo : (P.info? e).map (fun i => (i.zero, i.size, i.bytes)) = some (some (.int .u8 0), 1, 1)) (A : Option Addr) (len n c : Nat) (hn : n ≤ c) (W : World) :
    (Instr.slice t (.slice A len c) none (some (.int .i64 (n : Int))) (some (.int .i64 (n : Int)))).run P W = .ok (.slice A n n) W := by
  obtain ⟨i0, hi, hz0, hz1, hz2⟩ := info_parts hinfo
  have ht' : P.underlying t = some (.slice (P.elem t)) := by simp [Program.elem, ht]
  have he : P.elem t = e := by simp [Program.elem, ht]
  rw [run_slice_hm W t A len c ht' .i64 .i64 (n : Int) (n : Int) (by omega) (by omega) (by omega), he]
  have hz : (Go.sizeOf e).run P W = .ok 1 W := by simp [Go.sizeOf, typeInfo, hi, hz1]
  rw [hz]
  simp only [Result.andThen, sliced]
  congr 2
  · split
    · rfl
    · cases A <;> simp [Addr.add]

section
variable {P : Program} {ops : Array Oper} {rest : List Oper} {o : Oper} {a : Act} {Q : Exit → Act → World → Prop}

/-- append(v, x), v a tip: behind 'at_builtin'; the goal's world bears the variadic's box. -/
theorem tip_append {w0 W : World} (base : Nat) (hgd : o.guard = none) (s x : Operand) (t e : TypeId)
    (ho : o.op = .call { callee := .builtin .append, args := #[s, x], argTypes := #[t, t] })
    (ht : P.underlying t = some (.slice e)) (hinfo : (P.info? e).map (fun i => (i.zero, i.size, i.bytes)) = some (some (.int .u8 0), 1, 1))
    (v : Value) (l : List UInt8) (y : Int) (hy0 : 0 ≤ y) (hy1 : y < 256) (hs : a.eval s = v) (hx : a.eval x = .slice (some ⟨W.heap.size, 0, none⟩) 1 1)
    (HO : Tip W base e v l) (HB : Below base w0 W) (hbase : base ≤ W.heap.size) (hl : l.length + 1 ≤ 140737488355328)
    (h : ∀ v1 w1, w1.ownsRow base e 1 v1 (l ++ [UInt8.ofNat y.toNat]).length (bv (l ++ [UInt8.ofNat y.toNat])) → Below base w0 w1 → W.heap.size ≤ w1.heap.size → wpList P ops Q rest (a.put o.dst v1) w1) :
    wpList P ops Q (o :: rest) a (W.alloc (.cells #[.int .u8 y] e)) := by
  obtain ⟨i0, hi, hz0, hz1, hz2⟩ := info_parts hinfo
  obtain ⟨b, hb⟩ : ∃ b : UInt8, b = UInt8.ofNat y.toNat := ⟨_, rfl⟩
  have hy : y = (b.toNat : Int) := by rw [hb]; simp; omega
  rw [← hb] at h
  clear hb
  subst hy
  have hnew := World.news_of_block (cs := #[Value.int .u8 (b.toNat : Int)]) (t := e) (fr := (0, 0)) (heap_alloc_new W _)
  rcases HO with HO | ⟨A, h0, h1, h2⟩
  · refine wpList_append_own (W.alloc (.cells #[Value.int .u8 (b.toNat : Int)] e)) hgd s x t ho base e i0 (.int .u8 0) 1 1 ht hi hz0 hz1 hz2 rfl (by omega) v l.length (bv l) hs (HO.alloc _) ⟨W.heap.size, 0, none⟩ 1 1 [.int .u8 (b.toNat : Int)] hx rfl
      hnew (by simp [Value.oneCell']) (by simp only [maxLen]; omega) (by omega) (by simp; omega) ?_
    intro v1 w1 hown hg _
    refine h v1 w1 (by rw [List.length_append, bv_append]; exact hown) ((HB.alloc hbase _).grown hg (by simp; omega) (fun k hk => ((HO.lt) k hk).1)) (by have := hg.size; simp at this; omega)
  · refine wpList_append_grows (W.alloc (.cells #[Value.int .u8 (b.toNat : Int)] e)) hgd s x t ho e i0 (.int .u8 0) 1 1 ht hi hz0 hz1 hz2 rfl (by omega) (A.map fun p => ⟨p.1, p.2, none⟩) l.length l.length (bv l) (hs.trans h0)
      (fun hA => by
        cases A with
        | none => simp [h1 rfl]
        | some p => simp at hA) (by simp [bv])
      (fun bb hb j u hu => by
        cases A with
        | none => simp at hb
        | some p =>
          simp only [Option.map_some, Option.some.injEq] at hb
          subst hb
          rw [add_lit]
          have hc := h2 p rfl j u hu
          exact (((Below.refl W.heap.size W).alloc (Nat.le_refl _) _).cell (World.block_lt_of_cell? W _ hc)).trans hc)
      ⟨W.heap.size, 0, none⟩ 1 1 [.int .u8 (b.toNat : Int)] hx rfl hnew (by simp [Value.oneCell']) (by omega) (by simp only [maxLen]; omega) (by omega) ?_
    intro v1 w1 hown hg
    refine h v1 w1 (by rw [List.length_append, bv_append]; exact own_mono hown (by simp; omega)) ((HB.alloc hbase _).grown hg (by simp; omega) (fun k hk => by cases hk)) (by have := hg.size; simp at this; omega)

/-- append(v, x...), v the call's own, x a slice that reads as bytes. -/
theorem own_append_slice {w0 W : World} (base : Nat) (hgd : o.guard = none) (s x : Operand) (t e : TypeId)
    (ho : o.op = .call { callee := .builtin .append, args := #[s, x], argTypes := #[t, t] })
    (ht : P.underlying t = some (.slice e)) (hinfo : (P.info? e).map (fun i => (i.zero, i.size, i.bytes)) = some (some (.int .u8 0), 1, 1))
    (v : Value) (l : List UInt8) (hs : a.eval s = v) (xv : Value) (l2 : List UInt8) (hx : a.eval x = xv)
    (HO : W.ownsRow base e 1 v l.length (bv l)) (HX : RdB W xv l2) (HB : Below base w0 W) (hbase : base ≤ W.heap.size) (hl : l.length + l2.length ≤ 140737488355328)
    (h : ∀ v1 w1, w1.ownsRow base e 1 v1 (l ++ l2).length (bv (l ++ l2)) → Below base w0 w1 → wpList P ops Q rest (a.put o.dst v1) w1) :
    wpList P ops Q (o :: rest) a W := by
  obtain ⟨i0, hi, hz0, hz1, hz2⟩ := info_parts hinfo
  obtain ⟨A, c, rfl, h1, h2, h3⟩ := HX
  cases A with
  | none =>
    have hc0 : c = 0 := h2 rfl
    obtain rfl : l2 = [] := List.eq_nil_of_length_eq_zero (by omega)
    subst hc0
    refine wpList_append_own_none hgd s x t ho base e i0 1 ht hi v l.length (bv l) hs HO hx ?_
    exact h v W (by rw [List.append_nil]; exact HO) HB
  | some p =>
    refine wpList_append_own W hgd s x t ho base e i0 (.int .u8 0) 1 1 ht hi hz0 hz1 hz2 rfl (by omega) v l.length (bv l) hs HO ⟨p.1, p.2, none⟩ l2.length c (bv l2) hx (by simp [bv]) (fun j u hu => by rw [add_lit]; exact h3 p rfl j u hu)
      (by intro u hu; simp only [bv, List.mem_map] at hu; obtain ⟨b, _, rfl⟩ := hu; rfl) (by simp only [maxLen]; omega) (by omega) hbase ?_
    intro v1 w1 hown hg _
    exact h v1 w1 (by rw [List.length_append, bv_append]; exact hown) (HB.grown hg hbase (fun k hk => ((HO.lt) k hk).1))

theorem strCells_bv (s : ByteArray) : Lib.strCells s = bv s.data.toList := rfl

/-- append(v, x...), v the call's own, x a string. -/
theorem own_append_str {w0 W : World} (base : Nat) (hgd : o.guard = none) (s x : Operand) (t e u : TypeId)
    (ho : o.op = .call { callee := .builtin .append, args := #[s, x], argTypes := #[t, u] })
    (ht : P.underlying t = some (.slice e)) (hu : P.underlying u = some .string) (hinfo : (P.info? e).map (fun i => (i.zero, i.size, i.bytes)) = some (some (.int .u8 0), 1, 1))
    (v : Value) (l : List UInt8) (hs : a.eval s = v) (st : ByteArray) (hx : a.eval x = .string st)
    (HO : W.ownsRow base e 1 v l.length (bv l)) (HB : Below base w0 W) (hbase : base ≤ W.heap.size) (hl : l.length + st.size ≤ 140737488355328)
    (h : ∀ v1 w1, w1.ownsRow base e 1 v1 (l ++ st.data.toList).length (bv (l ++ st.data.toList)) → Below base w0 w1 → wpList P ops Q rest (a.put o.dst v1) w1) :
    wpList P ops Q (o :: rest) a W := by
  obtain ⟨i0, hi, hz0, hz1, hz2⟩ := info_parts hinfo
  refine Lib.wpList_append_own_string W hgd s x t u ho base e i0 ht hu hi hz0 hz1 hz2 v l.length (bv l) hs HO st hx (by simp only [maxLen]; omega) hl hbase ?_
  intro v1 w1 hown hg _
  refine h v1 w1 ?_ (HB.grown hg hbase (fun k hk => ((HO.lt) k hk).1))
  have e1 : (l ++ st.data.toList).length = l.length + st.size := by rw [List.length_append, Array.length_toList]; rfl
  rw [e1, bv_append]
  exact hown

end
end Go.Proofs.YtbnnemiiodhjbaaDoor
