/- FixedBack: words of the walk. Printed by gen/fz.py -/
import Derived.Test.YtbnnemiiodhjbaaDoorFy1
import Derived.Test.YtbnnemiiodhjbaaDoorFx5
import Derived.Test.YtbnnemiiodhjbaaDoorBk
import Derived.Test.YtbnnemiiodhjbaaDoorAp
import Derived.StillTailTactics
import Derived.Deep.DeepCutAuto
import Derived.Deep.RegionHeld3
namespace Go.Proofs.YtbnnemiiodhjbaaDoor
open Go.RowKit
set_option linter.unusedVariables false
set_option linter.unusedSimpArgs false

def thC (x : Th) : List Value := [.int .u8 x.wd, .int .u64 x.n, .string x.s]
/-- The value v is a slice that reads as these things. -/
def RdTh (w : World) (v : Value) (l : List Th) : Prop :=
  ∃ (A : Option (Nat × Nat)) (c : Nat), v = .slice (A.map fun p => ⟨p.1, p.2, none⟩) l.length c ∧ l.length ≤ c ∧ (A = none → c = 0) ∧
    ∀ p, A = some p → ∀ (k : Nat) (f : Th), l[k]? = some f → ∀ (j : Nat) (u : Value), (thC f)[j]? = some u → w.cell? ⟨p.1, p.2 + k * 3 + j, none⟩ = some u
theorem info_th : (Tryd.prog.info? 66).map (fun i => (i.zero, i.size, i.bytes)) = some (some (.agg #[.int .u8 0, .int .u64 0, .string ⟨#[]⟩]), 3, 32) := by kernel_rfl
theorem info_int : (Tryd.prog.info? 3).map (fun i => (i.zero, i.size, i.bytes)) = some (some (.int .i64 0), 1, 8) := by kernel_rfl
theorem RdTh.opn {w : World} {v : Value} {l : List Th} (h : RdTh w v l) : ∃ (a : Option Addr) (c : Nat), v = .slice a l.length c ∧ l.length ≤ c ∧ ∀ (k : Nat) (r : Th), l[k]? = some r → ∃ b o, a = some ⟨b, o, none⟩ ∧ w.cell? ⟨b, o + k * 3, none⟩ = some (.int .u8 r.wd) ∧ w.cell? ⟨b, o + k * 3 + 1, none⟩ = some (.int .u64 r.n) ∧ w.cell? ⟨b, o + k * 3 + 2, none⟩ = some (.string r.s) := by
  obtain ⟨A, c, rfl, h1, h2, h3⟩ := h
  refine ⟨_, c, rfl, h1, fun k x hx => ?_⟩
  cases A with
  | none =>
    have := (List.getElem?_eq_some_iff.1 hx).1
    have := h2 rfl
    omega
  | some p => exact ⟨p.1, p.2, rfl, h3 p rfl k x hx 0 _ rfl, h3 p rfl k x hx 1 _ rfl, h3 p rfl k x hx 2 _ rfl⟩
theorem things_to (w0 : World) (v : Value) (l : List Th) (i : Nat) (hv : RdTh w0 v l) (hi : i ≤ l.length) :
    ∃ v', RdTh w0 v' (l.take i) ∧ ∀ W, (Instr.slice 62 v none (some (.int .i64 (i : Int))) none).run Tryd.prog W = .ok v' W := by
  obtain ⟨i0, hi0, hz0, hz1, hz2⟩ := info_parts info_th
  have ht' : Tryd.prog.underlying 62 = some (.slice (Tryd.prog.elem 62)) := by simp [Program.elem, Tryd.underlying62]
  have he : Tryd.prog.elem 62 = 66 := by simp [Program.elem, Tryd.underlying62]
  obtain ⟨A, c, rfl, h1, h2, h3⟩ := hv
  have hrun : ∀ W, (Instr.slice 62 (.slice (A.map fun p => (⟨p.1, p.2, none⟩ : Addr)) l.length c) none (some (.int .i64 (i : Int))) none).run Tryd.prog W = .ok (sliced (A.map fun p => (⟨p.1, p.2, none⟩ : Addr)) 0 i c 3) W := fun W => by
    rw [run_slice_h W 62 _ l.length c ht' .i64 (i : Int) (by omega) (by omega), he]
    have hz : (Go.sizeOf 66).run Tryd.prog W = .ok 3 W := by simp [Go.sizeOf, typeInfo, hi0, hz1]
    rw [hz]
    rfl
  refine ⟨_, ?_, hrun⟩
  have hl : (l.take i).length = i := by rw [List.length_take]; omega
  have hsl : sliced (A.map fun p => (⟨p.1, p.2, none⟩ : Addr)) 0 i c 3 = .slice (A.map fun p => ⟨p.1, p.2, none⟩) (l.take i).length c := by
    rw [hl]
    unfold sliced
    cases A with
    | none => simp
    | some q => simp [add_lit]
  rw [hsl]
  refine ⟨A, c, rfl, by omega, h2, fun p hp k f hf j u hu => h3 p hp k f ?_ j u hu⟩
  rw [List.getElem?_take] at hf
  split at hf
  · exact hf
  · cases hf
/-- b[:d]. -/
theorem bytes_to (w0 : World) (v : Value) (l : List UInt8) (i : Nat) (hv : RdB w0 v l) (hi : i ≤ l.length) :
    ∃ v', RdB w0 v' (l.take i) ∧ ∀ W, (Instr.slice 22 v none (some (.int .i64 (i : Int))) none).run Tryd.prog W = .ok v' W := by
  obtain ⟨i0, hi0, hz0, hz1, hz2⟩ := info_parts info_u8
  have ht' : Tryd.prog.underlying 22 = some (.slice (Tryd.prog.elem 22)) := by simp [Program.elem, Tryd.underlying22]
  have he : Tryd.prog.elem 22 = 5 := by simp [Program.elem, Tryd.underlying22]
  obtain ⟨A, c, rfl, h1, h2, h3⟩ := hv
  have hrun : ∀ W, (Instr.slice 22 (.slice (A.map fun p => (⟨p.1, p.2, none⟩ : Addr)) l.length c) none (some (.int .i64 (i : Int))) none).run Tryd.prog W = .ok (sliced (A.map fun p => (⟨p.1, p.2, none⟩ : Addr)) 0 i c 1) W := fun W => by
    rw [run_slice_h W 22 _ l.length c ht' .i64 (i : Int) (by omega) (by omega), he]
    have hz : (Go.sizeOf 5).run Tryd.prog W = .ok 1 W := by simp [Go.sizeOf, typeInfo, hi0, hz1]
    rw [hz]
    rfl
  refine ⟨_, ?_, hrun⟩
  have hl : (l.take i).length = i := by rw [List.length_take]; omega
  have hsl : sliced (A.map fun p => (⟨p.1, p.2, none⟩ : Addr)) 0 i c 1 = .slice (A.map fun p => ⟨p.1, p.2, none⟩) (l.take i).length c := by
    rw [hl]
    unfold sliced
    cases A with
    | none => simp
    | some q => simp [add_lit]
  rw [hsl]
  refine ⟨A, c, rfl, by omega, h2, fun p hp k u hu => h3 p hp k u ?_⟩
  unfold bv at hu ⊢
  rw [List.getElem?_map] at hu ⊢
  rw [List.getElem?_take] at hu
  split at hu
  · exact hu
  · cases hu
theorem cut_run (s : ByteArray) : ∃ m : Nat, (cutB s).size = m ∧ min (s.size : Int) 255 = (m : Int) ∧ (if (255 : Int) < (s.size : Int) then (255 : Int) else (s.size : Int)) = (m : Int) ∧ m ≤ s.size ∧ ∀ (W : World), (Instr.slice 9 (.string s) none (some (.int .i64 (m : Int))) none).run Tryd.prog W = .ok (.string (cutB s)) W := by
  refine ⟨min s.size 255, ?_, by omega, by split <;> omega, by omega, fun W => ?_⟩
  · unfold cutB; rw [ByteArray.size_extract]; omega
  · rw [run_slice_string_h W 9 s Tryd.underlying9 .i64 ((min s.size 255 : Nat) : Int) (by omega) (by omega)]
    rfl
def placeC (l : List Th) (k : Nat) : List Value := (List.range k).map fun j => Value.int .i64 (offT l j : Int)
theorem placeC_succ (l : List Th) (k : Nat) : placeC l (k + 1) = placeC l k ++ [.int .i64 (offT l k : Int)] := by unfold placeC; rw [List.range_succ, List.map_append]; rfl
theorem placeC_at (l : List Th) (n i : Nat) (h : i < n) : (placeC l n)[i]? = some (.int .i64 (offT l i : Int)) := by unfold placeC; rw [List.getElem?_map, List.getElem?_range h]; rfl
theorem keepC {w w1 : World} {a : Addr} {v : Value} (hb : Below w.heap.size w w1) (h : w.cell? a = some v) : w1.cell? a = some v := (hb.cell (World.block_lt_of_cell? w _ h)).trans h
theorem pp0 {w : World} {g : Nat} {t : TypeId} {a b : Value} (h : w.heap[g]? = some (.cells #[a, b] t (0, 0))) : w.cell? ⟨g, 0, none⟩ = some a := (blk_cell h 0).trans rfl
theorem pp1 {w : World} {g : Nat} {t : TypeId} {a b : Value} (h : w.heap[g]? = some (.cells #[a, b] t (0, 0))) : w.cell? ⟨g, 1, none⟩ = some b := (blk_cell h 1).trans rfl
theorem bel_alloc {w w1 : World} {o : Obj} (h : Below (w.drew.alloc o).heap.size (w.drew.alloc o) w1) : Below w.heap.size w w1 := by
  have h1 : Below w.heap.size w (w.drew.alloc o) := by
    have := (Below.refl w.heap.size w).alloc (Nat.le_refl _) o
    exact ⟨this.os, this.tape, this.output, this.size, this.block⟩
  exact h1.trans (h.mono h1.size)
theorem cv_str' {w : World} {v : Value} {l : List UInt8} (h : RdB w v l) : (convert 22 9 v).run Tryd.prog w = .ok (.string ⟨l.toArray⟩) w := h.str (P := Tryd.prog) 22 9 5 Tryd.underlying22 Tryd.underlying5 Tryd.underlying9
theorem cv_heap {w : World} {v : Value} {l : List UInt8} (h : RdB w v l) : ∀ W : World, w.heap = W.heap → (convert 22 9 v).run Tryd.prog W = .ok (.string ⟨l.toArray⟩) W := fun W hW => by
  refine cv_str' ?_
  obtain ⟨A, c, e, h1, h2, h3⟩ := h
  refine ⟨A, c, e, h1, h2, fun p hp j u hu => ?_⟩
  have := h3 p hp j u hu
  unfold World.cell? at this ⊢
  rw [← hW]
  exact this
theorem cv_alloc {w : World} {v : Value} {l : List UInt8} (h : RdB w v l) (o : Obj) : (convert 22 9 v).run Tryd.prog (w.alloc o) = .ok (.string ⟨l.toArray⟩) (w.alloc o) := cv_str' (h.below ((Below.refl _ _).alloc (Nat.le_refl _) _))
theorem cv_allocd {w : World} {v : Value} {l : List UInt8} (h : RdB w v l) (o : Obj) : (convert 22 9 v).run Tryd.prog (w.alloc o).drew = .ok (.string ⟨l.toArray⟩) (w.alloc o).drew := cv_str' (RdB.drew (h.below ((Below.refl _ _).alloc (Nat.le_refl _) o)))
theorem dropB_drop (Q : ByteArray) (a b : Nat) : dropB (dropB Q a) b = dropB Q (a + b) := by
  apply ByteArray.ext
  rw [← Array.toList_inj, dropB_list, dropB_list, dropB_list, List.drop_drop]
theorem cell_other {w w' : World} {g p o : Nat} {v : Value} (h : w.cell? ⟨g, o, none⟩ = some v) (hg : w.grownBy w' (some p)) (hne : g ≠ p) : w'.cell? ⟨g, o, none⟩ = some v :=
  (World.cell?_of_block (hg.block g (World.block_lt_of_cell? _ _ h) (fun e => hne (by injection e)))).trans h
theorem err_no {w : World} {v : Value} {t : Int} (h : ErrIs w v 0 t) : v = .nilIface := by
  rcases h with ⟨_, _, h⟩ | ⟨h, _⟩
  · exact h
  · exact absurd rfl h
theorem rdr_to {w : World} {p b N : Nat} {Q q : ByteArray} {t : Int} (h : Rdr w p (dropB q b) t) (e : dropB q b = dropB Q N) (et : t = (N : Int)) : Rdr w p (dropB Q N) (N : Int) := by rw [e, et] at h; exact h
def TwoR (wr W : World) (s : Value) (Q1 Q2 : ByteArray) : Prop := ∃ g p0 p1 : Nat, s = .pointer (some ⟨g, 0, none⟩) ∧ W.cell? ⟨g, 0, none⟩ = some (.pointer (some ⟨p0, 0, none⟩)) ∧ W.cell? ⟨g, 1, none⟩ = some (.pointer (some ⟨p1, 0, none⟩)) ∧ p0 ≠ p1 ∧ g ≠ p0 ∧ g ≠ p1 ∧ wr.heap.size ≤ p0 ∧ wr.heap.size ≤ p1 ∧ RdR W p0 Q1 0 ∧ RdR W p1 Q2 0 ∧ Below wr.heap.size wr W
theorem rdr_at {w : World} {p p' : Nat} {q : ByteArray} {t : Int} (h : RdR w p q t) (e : p = p') : RdR w p' q t := e ▸ h
theorem below_al (w : World) (o : Obj) : Below w.heap.size w (w.alloc o) := (Below.refl _ _).alloc (Nat.le_refl _) _
theorem fin_A {wr w1 w2 : World} {Q1 Q2 : ByteArray} {T : TypeId} (hra : RdR w1 wr.heap.size Q1 0) (hBa : Below wr.heap.size wr w1) (hrb : RdR w2 w1.heap.size Q2 0) (hBb : Below w1.heap.size w1 w2) :
    TwoR wr (w2.alloc (.cells #[.pointer (some ⟨wr.heap.size, 0, none⟩), .pointer (some ⟨w1.heap.size, 0, none⟩)] T)) (.pointer (some ⟨w2.heap.size, 0, none⟩)) Q1 Q2 := by
  have h0 := World.block_lt_of_cell? _ _ hra.c0
  have h1 := World.block_lt_of_cell? _ _ hrb.c0
  have e0 : wr.heap.size < w1.heap.size := h0
  have e1 : w1.heap.size < w2.heap.size := h1
  exact ⟨w2.heap.size, wr.heap.size, w1.heap.size, rfl, pp0 (blk_new w2 _), pp1 (blk_new w2 _), by omega, by omega, by omega, Nat.le_refl _, by omega, (hra.keep hBb).keep (below_al _ _), hrb.keep (below_al _ _), trans' (trans' hBa hBb) (below_al _ _)⟩
theorem fin_S {wr W : World} {g p0 p1 : Nat} {a b : Value} {t : TypeId} {Q1 Q2 : ByteArray} (HK : W.heap[g]? = some (.cells #[a, b] t (0, 0))) (h0 : RdR W p0 Q1 0) (h1 : RdR W p1 Q2 0) (hB : Below wr.heap.size wr W) (n0 : p0 ≠ p1) (n1 : g ≠ p0) (n2 : g ≠ p1) (m0 : wr.heap.size ≤ p0) (m1 : wr.heap.size ≤ p1) (m2 : wr.heap.size ≤ g) :
    TwoR wr ((W.setCell ⟨g, 0, none⟩ (.pointer (some ⟨p0, 0, none⟩))).setCell ⟨g, 1, none⟩ (.pointer (some ⟨p1, 0, none⟩))) (.pointer (some ⟨g, 0, none⟩)) Q1 Q2 := by
  have hg := grown_trans (grown_set W ⟨g, 0, none⟩ (.pointer (some ⟨p0, 0, none⟩))) (grown_set (W.setCell ⟨g, 0, none⟩ (.pointer (some ⟨p0, 0, none⟩))) ⟨g, 1, none⟩ (.pointer (some ⟨p1, 0, none⟩)))
  have HK2 := blk_set (blk_set HK 0 (.pointer (some ⟨p0, 0, none⟩))) 1 (.pointer (some ⟨p1, 0, none⟩))
  exact ⟨g, p0, p1, rfl, (blk_cell HK2 0).trans rfl, (blk_cell HK2 1).trans rfl, n0, n1, n2, m0, m1, h0.other hg (Ne.symm n1), h1.other hg (Ne.symm n2), below_grown hB hg m2 (blk_lt HK)⟩
theorem fin_B {wr w1 w2 : World} {a b : Value} {t : TypeId} {Q1 Q2 : ByteArray} {o : Obj} (HK : w2.heap[w1.heap.size]? = some (.cells #[a, b] t (0, 0))) (hra : RdR w1 wr.heap.size Q1 0) (hBa : Below wr.heap.size wr w1) (hrb : RdR w2 (w1.heap.size + 1) Q2 0) (hBb : Below (w1.alloc o).heap.size (w1.alloc o) w2) :
    TwoR wr ((w2.setCell ⟨w1.heap.size, 0, none⟩ (.pointer (some ⟨wr.heap.size, 0, none⟩))).setCell ⟨w1.heap.size, 1, none⟩ (.pointer (some ⟨w1.heap.size + 1, 0, none⟩))) (.pointer (some ⟨w1.heap.size, 0, none⟩)) Q1 Q2 := by
  have h0 := World.block_lt_of_cell? _ _ hra.c0
  have e0 : wr.heap.size < w1.heap.size := h0
  have hB2 := trans' (below_al w1 o) hBb
  exact fin_S HK (hra.keep hB2) hrb (trans' hBa hB2) (by omega) (by omega) (by omega) (Nat.le_refl _) (by omega) (by omega)
theorem fin_C {wr w1 w2 : World} {a b : Value} {t : TypeId} {Q1 Q2 : ByteArray} (HK : w2.heap[wr.heap.size]? = some (.cells #[a, b] t (0, 0))) (hra : RdR w1 (wr.heap.size + 1) Q1 0) (hBa : Below wr.heap.size wr w1) (hrb : RdR w2 w1.heap.size Q2 0) (hBb : Below w1.heap.size w1 w2) :
    TwoR wr ((w2.setCell ⟨wr.heap.size, 0, none⟩ (.pointer (some ⟨wr.heap.size + 1, 0, none⟩))).setCell ⟨wr.heap.size, 1, none⟩ (.pointer (some ⟨w1.heap.size, 0, none⟩))) (.pointer (some ⟨wr.heap.size, 0, none⟩)) Q1 Q2 := by
  have h0 := World.block_lt_of_cell? _ _ hra.c0
  have e0 : wr.heap.size + 1 < w1.heap.size := h0
  exact fin_S HK (hra.keep hBb) hrb (trans' hBa hBb) (by omega) (by omega) (by omega) (by omega) (by omega) (Nat.le_refl _)
theorem of_drewN' {B : Nat} {w w0 w1 : World} (h : Below B w0 w1) (hh : w0.heap = w.heap := by rfl) (ho : w0.os = w.os := by rfl) (ht : w0.tape = w.tape := by rfl) (hp : w0.output = w.output := by rfl) : Below B w w1 := ⟨h.os.trans ho, h.tape.trans ht, h.output.trans hp, by rw [← hh]; exact h.size, fun k hk => (h.block k hk).trans (by rw [hh])⟩
theorem of_drew' {w w1 : World} (h : Below w.drew.heap.size w.drew w1) : Below w.heap.size w w1 := ⟨h.os, h.tape, h.output, h.size, h.block⟩
theorem own_kept' {w w1 : World} {base : Nat} {e : TypeId} {size : Nat} {v : Value} {n : Nat} {xs : List Value} (h : w.ownsRow base e size v n xs) (hb : Below w.heap.size w w1) : w1.ownsRow base e size v n xs :=
  h.kept ⟨hb.os, hb.tape, hb.output, hb.size, fun k hk _ => hb.block k hk⟩ (row := none) (by cases v.ownBlock <;> simp)

/-- The bodies of a function's loops, as they stand. -/
def loopsIn : Code → List Code
  | .loop c => c :: loopsIn c
  | .seq a b => loopsIn a ++ loopsIn b
  | .block _ c => loopsIn c
  | .scope c => loopsIn c
  | .cond _ a b => loopsIn a ++ loopsIn b
  | _ => []
noncomputable def bodyI : Code := ((Tryd.f7.body.map loopsIn).getD []).getD 2 .skip
def frame (u : Nat → Value) : Act := ⟨((List.range 242).map u).toArray, []⟩
set_option maxRecDepth 100000 in
theorem frame_lit (u : Nat → Value) : frame u = ⟨#[u 0, u 1, u 2, u 3, u 4, u 5, u 6, u 7, u 8, u 9, u 10, u 11, u 12, u 13, u 14, u 15, u 16, u 17, u 18, u 19, u 20, u 21, u 22, u 23, u 24, u 25, u 26, u 27, u 28, u 29, u 30, u 31, u 32, u 33, u 34, u 35, u 36, u 37, u 38, u 39, u 40, u 41, u 42, u 43, u 44, u 45, u 46, u 47, u 48, u 49, u 50, u 51, u 52, u 53, u 54, u 55, u 56, u 57, u 58, u 59, u 60, u 61, u 62, u 63, u 64, u 65, u 66, u 67, u 68, u 69, u 70, u 71, u 72, u 73, u 74, u 75, u 76, u 77, u 78, u 79, u 80, u 81, u 82, u 83, u 84, u 85, u 86, u 87, u 88, u 89, u 90, u 91, u 92, u 93, u 94, u 95, u 96, u 97, u 98, u 99, u 100, u 101, u 102, u 103, u 104, u 105, u 106, u 107, u 108, u 109, u 110, u 111, u 112, u 113, u 114, u 115, u 116, u 117, u 118, u 119, u 120, u 121, u 122, u 123, u 124, u 125, u 126, u 127, u 128, u 129, u 130, u 131, u 132, u 133, u 134, u 135, u 136, u 137, u 138, u 139, u 140, u 141, u 142, u 143, u 144, u 145, u 146, u 147, u 148, u 149, u 150, u 151, u 152, u 153, u 154, u 155, u 156, u 157, u 158, u 159, u 160, u 161, u 162, u 163, u 164, u 165, u 166, u 167, u 168, u 169, u 170, u 171, u 172, u 173, u 174, u 175, u 176, u 177, u 178, u 179, u 180, u 181, u 182, u 183, u 184, u 185, u 186, u 187, u 188, u 189, u 190, u 191, u 192, u 193, u 194, u 195, u 196, u 197, u 198, u 199, u 200, u 201, u 202, u 203, u 204, u 205, u 206, u 207, u 208, u 209, u 210, u 211, u 212, u 213, u 214, u 215, u 216, u 217, u 218, u 219, u 220, u 221, u 222, u 223, u 224, u 225, u 226, u 227, u 228, u 229, u 230, u 231, u 232, u 233, u 234, u 235, u 236, u 237, u 238, u 239, u 240, u 241], []⟩ := rfl
theorem frame_ex (t : Array Value) (h : t.size = 242) : (⟨t, []⟩ : Act) = frame (fun i => t.getD i undef) := by
  unfold frame
  congr 1
  apply Array.ext
  · simp [h]
  · intro i h1 h2
    simp [Array.getD, h1]
/-- What does not turn in the inner loop. -/
structure EnvF (w : World) (l : List Th) (a1 : Option Addr) (D : List UInt8) (E : Nat) (Q : ByteArray) : Prop where
  cl : ∀ (k : Nat) (r : Th), l[k]? = some r → ∃ b o, a1 = some ⟨b, o, none⟩ ∧ w.cell? ⟨b, o + k * 3, none⟩ = some (.int .u8 r.wd) ∧ w.cell? ⟨b, o + k * 3 + 1, none⟩ = some (.int .u64 r.n) ∧ w.cell? ⟨b, o + k * 3 + 2, none⟩ = some (.string r.s)
  ok : ∀ x ∈ l, x.Ok
  et : EtP w
  len : l.length ≤ 30
  dd : D = flatT l
  qq : Q.data.toList = (flatT l).take E
  El : E ≤ D.length
/-- What turns in it. -/
structure RelF (w : World) (l : List Th) (vp : Value) (g p0 p1 p : Nat) (Q : ByteArray) (oth : World → Prop) (j : Nat) (wr : World) : Prop where
  z0 : wr.cell? ⟨g, 0, none⟩ = some (.pointer (some ⟨p0, 0, none⟩))
  z1 : wr.cell? ⟨g, 1, none⟩ = some (.pointer (some ⟨p1, 0, none⟩))
  P : wr.ownsRow w.heap.size 3 1 vp l.length (placeC l l.length)
  R : Rdr wr p (dropB Q (offT l j)) (offT l j : Int)
  O : oth wr
  B : Below w.heap.size w wr
/-- The frame at the inner loop's head. -/
structure FrI (u : Nat → Value) (a1 : Option Addr) (n c1 : Nat) (bv vp dv gv kv : Value) (p E j : Nat) : Prop where
  s0 : u 0 = .slice a1 n c1
  s5 : u 5 = bv
  s6 : u 6 = vp
  s8 : u 8 = dv
  s9 : u 9 = gv
  s10 : u 10 = kv
  s11 : u 11 = .pointer (some ⟨p, 0, none⟩)
  s12 : u 12 = .int .i64 (E : Int)
  s13 : u 13 = .int .i64 (j : Int)
def WI (w : World) (l : List Th) (a1 : Option Addr) (c1 : Nat) (bv vp dv gv kv : Value) (g p0 p1 p E : Nat) (Q : ByteArray) (oth : World → Prop) (a : Act) (wr : World) : Prop :=
  ∃ (u : Nat → Value) (j : Nat), a = frame u ∧ FrI u a1 l.length c1 bv vp dv gv kv p E j ∧ j ≤ l.length ∧ offT l j ≤ E ∧ RelF w l vp g p0 p1 p Q oth j wr
def WRet (w : World) (a : Act) (W : World) : Prop := a.tmps.getD 4 undef = .bool true ∧ a.defers = [] ∧ Below w.heap.size w W
def muI (n : Nat) (a : Act) (_ : World) : Nat := n - (intOf (a.tmps.getD 13 undef)).toNat
end Go.Proofs.YtbnnemiiodhjbaaDoor
