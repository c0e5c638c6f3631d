/- A hall of pairs of bytes. -/
import Derived.Test.YtpbfabcihoiiiaaHlA
import Derived.Deep.RegionHeld3
import Derived.Deep.RegionLaw
namespace Go.Proofs.Ytpbfabcihoiiiaa
open Go.RowKit
set_option linter.unusedVariables false
set_option linter.unusedSimpArgs false

/-- The value v is a slice that reads as these pairs of bytes. -/
def RdU (w : World) (v : Value) (l : List (Int × Int)) : Prop :=
  ∃ (a : Option Addr) (c : Nat), v = .slice a l.length c ∧ l.length ≤ c ∧ ∀ (k : Nat) (x : Int × Int), l[k]? = some x → ((0 ≤ x.1 ∧ x.1 < 256) ∧ (0 ≤ x.2 ∧ x.2 < 256)) ∧ ∃ b o, a = some ⟨b, o, none⟩ ∧ w.cell? ⟨b, o + k * 2, none⟩ = some (.int .u8 x.1) ∧ w.cell? ⟨b, o + k * 2 + 1, none⟩ = some (.int .u8 x.2)
theorem RdU.below {w w1 : World} {v : Value} {l : List (Int × Int)} (h : RdU w v l) (hb : Below w.heap.size w w1) : RdU w1 v l := by
  obtain ⟨a, c, e, h1, h2⟩ := h
  exact ⟨a, c, e, h1, fun k x hx => by obtain ⟨hr, b, o, e1, e2, e3⟩ := h2 k x hx; exact ⟨hr, b, o, e1, keepC hb e2, keepC hb e3⟩⟩
def row1 (x : Int × Int) : HRow := (x.1 % 3, x.2.toNat)
/-- The rows that pairs of bytes are. -/
def ofR (l : List (Int × Int)) : List HRow := (l.take 8).map row1
theorem ofR_take {l : List (Int × Int)} {k : Nat} {x : Int × Int} (hx : l[k]? = some x) (h2 : 0 ≤ x.2) : ((l.take (k + 1)).map row1).flatMap rowC = ((l.take k).map row1).flatMap rowC ++ [.int .i64 (x.1 % 3), .int .u8 x.2] := by
  rw [List.take_add_one, hx, List.map_append, List.flatMap_append]
  show _ = _ ++ _
  congr 1
  show [Value.int .i64 (x.1 % 3), Value.int .u8 (x.2.toNat : Nat)] ++ [] = _
  rw [List.append_nil, show ((x.2.toNat : Nat) : Int) = x.2 by omega]
theorem wrap_mod3 (x : Int) (h0 : 0 ≤ x) (h1 : x < 100000) : IntKind.i64.wrap (x.tmod 3) = x % 3 := by
  rw [Int.tmod_eq_emod_of_nonneg h0]
  simp only [IntKind.wrap_i64]
  omega
theorem ofR_rw (l : List (Int × Int)) (h : ∀ (k : Nat) (x : Int × Int), l[k]? = some x → ((0 ≤ x.1 ∧ x.1 < 256) ∧ (0 ≤ x.2 ∧ x.2 < 256))) : ∀ r ∈ ofR l, rwB r := by
  intro r hr
  unfold ofR at hr
  rw [List.mem_map] at hr
  obtain ⟨x, hx, rfl⟩ := hr
  obtain ⟨k, hk⟩ := List.getElem?_of_mem (List.mem_of_mem_take hx)
  have := h k x hk
  unfold rwB row1
  dsimp only
  omega
theorem HdO.own {w : World} {l : List HRow} {n : Nat} {base : Nat} {e : TypeId} {v : Value} (h : w.ownsRow base e 2 v n (l.flatMap rowC)) (hn : n = l.length) (hb : ∀ r ∈ l, rwB r) : RdH w v l := by
  subst hn
  exact RdH.own h hb

/-- A box of a hall is no row of it. -/
theorem RdH.setc {w : World} {v u : Value} {l : List HRow} {B : Nat} {a0 : Option Addr} {n0 c0 : Nat} (h : RdH w v l) (hb : Boxed w B 26 (.slice a0 n0 c0)) : RdH (w.setCell ⟨B, 0, none⟩ u) v l := by
  obtain ⟨a, c, e, h1, h2⟩ := h
  subst e
  have hno : ∀ (b j : Nat) (k : IntKind) (n : Int), w.cell? ⟨b, j, none⟩ = some (.int k n) → b ≠ B := by
    intro b j k n hc e
    subst e
    rw [cell_of_row _ _ _ _ _ _ hb] at hc
    cases j <;> simp at hc
  refine ⟨a, c, rfl, h1, fun k x hx => ?_⟩
  obtain ⟨hr, b, o, e1, e2, e3⟩ := h2 k x hx
  have hn := hno _ _ _ _ e2
  exact ⟨hr, b, o, e1, by rw [World.cell?_setCell_other (h := by simp <;> omega)]; exact e2, by rw [World.cell?_setCell_other (h := by simp <;> omega)]; exact e3⟩
set_option maxRecDepth 100000 in
set_option maxHeartbeats 4000000 in
theorem of_any (l : List (Int × Int)) (v : Value) (w : World) (hv : RdU w v l) (hl : l.length ≤ maxLen) :
    Calls Try.prog 6 #[v] w fun e w' => ∃ v1, e = .returned (.agg #[v1]) ∧ RdH w' v1 (ofR l) ∧ Below w.heap.size w w' := by
  obtain ⟨a, c, rfl, hc, hr⟩ := hv
  have HR := Lib.hid hr
  have HRW := Lib.hid (ofR_rw l (fun k x hx => (hr k x hx).1))
  clear hr
  go_enter Try.func6, Try.ntmps6
  go_wp2_with fail
  obtain ⟨W1, hW1⟩ : ∃ W1, W1 = (w.alloc (.cells #[.slice none 0 0] 26)).alloc (.cells #[.slice none 0 0] 26) := ⟨_, rfl⟩
  have hB1 : Below w.heap.size w W1 := by rw [hW1]; exact ((Below.refl _ _).alloc (Nat.le_refl _) _).alloc (by simp) _
  have h0 : W1.heap[w.heap.size]? = some (.cells #[.slice none 0 0] 26 (0, 0)) := by rw [hW1]; exact heap_alloc2_old w _ _
  have h1 : W1.heap[w.heap.size + 1]? = some (.cells #[.slice none 0 0] 26 (0, 0)) := by rw [hW1]; exact heap_alloc2_new w _ _
  rw [← hW1]
  have HB1 := Lib.hid hB1
  have H0 := Lib.hid h0
  have H1 := Lib.hid h1
  clear hW1 hB1 h0 h1
  go_loopw [4] (fun i wr => ∃ (k c1 : Nat) (A : Option Addr), k ≤ l.length ∧ k ≤ 8 ∧ i = .int .i64 k ∧ Hid (Boxed wr (w.heap.size + 1) 26 (.slice A k c1)) ∧ Hid (Boxed wr w.heap.size 26 (.slice none 0 0)) ∧ Hid (wr.ownsRow (w.heap.size + 2) 29 2 (.slice A k c1) k (((l.take k).map row1).flatMap rowC)) ∧ Hid (Below w.heap.size w wr)) (fun i _ => l.length - (intOf i).toNat)
  case atStart => exact ⟨0, 0, none, Nat.zero_le _, Nat.zero_le _, rfl, H1.out, H0.out, Lib.hid (by simpa using World.ownsRow_nil W1 (w.heap.size + 2) 29 2), HB1.out⟩
  case round =>
    clear H0 H1 HB1
    obtain ⟨k, c1, A, hk, hk2, rfl, HX, HY, HO, HB⟩ := hrel
    have hxc := HX.out.cell
    have hxf := HX.out.frozen
    by_cases hkl : k < l.length
    · by_cases hk8 : k < 8
      · obtain ⟨x, hx⟩ : ∃ x, l[k]? = some x := ⟨l[k], List.getElem?_eq_getElem hkl⟩
        obtain ⟨⟨⟨hb0, hb1⟩, hb2, hb3⟩, b, o, rfl, c0, c1'⟩ := HR.out k x hx
        have hbw0 : b < w.heap.size := World.block_lt_of_cell? _ _ c0
        have d0 := keepC HB.out c0
        have d1 := keepC HB.out c1'
        have HT := Lib.hid (ofR_take hx hb2)
        have hw1 := Lib.hid (wrap_mod3 _ hb0 (by omega))
        have H0 := Lib.hid d0
        have H1 := Lib.hid d1
        clear hx c0 c1'
        have HA : Below wr.heap.size wr (wr.alloc (.cells #[.int .i64 (IntKind.i64.wrap (x.1.tmod 3)), .int .u8 x.2] 29)).drew := by
          have h := (Below.refl wr.heap.size wr).alloc (Nat.le_refl _) (.cells #[.int .i64 (IntKind.i64.wrap (x.1.tmod 3)), .int .u8 x.2] 29)
          exact ⟨h.os, h.tape, h.output, h.size, h.block⟩
        have hs2 : w.heap.size + 2 ≤ wr.heap.size := HX.out.lt
        have HBA := Lib.hid (HA.mono hs2)
        have hblk : (wr.alloc (.cells #[.int .i64 (IntKind.i64.wrap (x.1.tmod 3)), .int .u8 x.2] 29)).drew.heap[wr.heap.size]? = some (.cells #[.int .i64 (IntKind.i64.wrap (x.1.tmod 3)), .int .u8 x.2] 29 (0, 0)) := heap_alloc_new wr _
        have HBK := Lib.hid hblk
        have HOA := Lib.hid (own_kept HO.out HA)
        have hsz : w.heap.size + 2 ≤ (wr.alloc (.cells #[.int .i64 (IntKind.i64.wrap (x.1.tmod 3)), .int .u8 x.2] 29)).drew.heap.size := Nat.le_trans hs2 HA.size
        have HSZ := Lib.hid hsz
        have HHA := Lib.hid HA
        clear HA hblk hsz
        have hlb : b < wr.heap.size := World.block_lt_of_cell? _ _ d0
        have hlh : w.heap.size + 1 < wr.heap.size := by omega
        go_wp2_with fail
        go_region_law (refine step_append_box (w0 := wr) (w.heap.size + 2) rfl (.tmp 16) (.tmp 30) 24 29 rfl Try.underlying24 info_row rfl (by decide) _ k _ #[.int .i64 (IntKind.i64.wrap (x.1.tmod 3)), .int .u8 x.2] rfl (by simp [Value.oneCell']) rfl rfl HBK.out HOA.out HBA.out HSZ.out (by omega) (by omega) ?_; intro v1 w1 hown hBq hsz1; obtain ⟨A1, c2, rfl⟩ := own_opn hown; have f1 := (hBq.frozen (p := ⟨w.heap.size + 1, 0, none⟩) (by simp)).trans hxf; have m1 := (hBq.cell (p := ⟨w.heap.size + 1, 0, none⟩) (by simp)).trans hxc)
        all_goals
          go_wp2
          go_roundw
          have hb1 : Boxed w1 (w.heap.size + 1) 26 (.slice A k c1) := (hBq.block _ (by omega)).trans HX.out
          have hb0 : Boxed w1 w.heap.size 26 (.slice none 0 0) := (hBq.block _ (by omega)).trans HY.out
          case rel => exact ⟨k + 1, c2, A1, by omega, by omega, by go_num, hb1.set _, hb0.other (by omega) _, by
            rw [HT.out, ← hw1.out]
            refine hown.kept (grown_set _ _ _) ?_
            rcases own_cells hown with ⟨q1, _⟩ | ⟨g, c', q1, _, hg, _⟩
            · exact .inl (by rw [q1]; rfl)
            · right
              rw [q1]
              intro e'
              simp [Value.ownBlock] at e'
              omega, (HB.out.trans (hBq.mono (by omega))).setCell (p := ⟨w.heap.size + 1, 0, none⟩) (by simp) _⟩
          case measure => simp [intOf]; omega
      · have hke : (l.take k).map row1 = ofR l := by
          have : k = 8 := by omega
          subst this
          rfl
        have hm : k = (ofR l).length := by rw [← hke]; simp; omega
        have HD : Hid (RdH wr (.slice A k c1) (ofR l)) := by
          have := HO.out
          rw [hke] at this
          exact HdO.own this hm HRW.out
        have hyc := HY.out.cell
        have hyf := HY.out.frozen
        clear hke hm
        go_wp2_with fail
        refine bodyPost_ret (v := .agg #[.slice A k c1]) (by simp [results, Try.results6, go_sem, hyc]; try rfl) rfl ?_
        exact ⟨_, rfl, HD.out.setc HY.out, HB.out.setCell (p := ⟨w.heap.size, 0, none⟩) (Nat.le_refl _) _⟩
    · have hke : (l.take k).map row1 = ofR l := by
        show _ = (l.take 8).map row1
        rw [List.take_of_length_le (by omega), List.take_of_length_le (by omega)]
      have hm : k = (ofR l).length := by rw [← hke]; simp; omega
      have HD : Hid (RdH wr (.slice A k c1) (ofR l)) := by
        have := HO.out
        rw [hke] at this
        exact HdO.own this hm HRW.out
      have hyc := HY.out.cell
      have hyf := HY.out.frozen
      clear hke hm
      go_wp2_with fail
      refine bodyPost_ret (v := .agg #[.slice A k c1]) (by simp [results, Try.results6, go_sem, hyc]; try rfl) rfl ?_
      exact ⟨_, rfl, HD.out.setc HY.out, HB.out.setCell (p := ⟨w.heap.size, 0, none⟩) (Nat.le_refl _) _⟩
end Go.Proofs.Ytpbfabcihoiiiaa
