/- IdentNames: the walk. -/
import Derived.Test.YteelccgaemmmpaaDoorIe3
import Derived.StillTailTactics
import Derived.Laws.OwnMore
namespace Go.Proofs.YteelccgaemmmpaaDoor
open Go.RowKit
set_option linter.unusedVariables false
set_option linter.unusedSimpArgs false

theorem one_str (W : World) (x : Int) (hx : 0 ≤ x ∧ x < 256) : (convert 22 9 (.slice (some ⟨W.heap.size, 0, none⟩) 1 1)).run Tryd.prog (W.alloc (.cells #[.int .u8 x] 5)) = .ok (.string ⟨#[UInt8.ofNat x.toNat]⟩) (W.alloc (.cells #[.int .u8 x] 5)) := by
  have hr : RdB (W.alloc (.cells #[.int .u8 x] 5)) (.slice (some ⟨W.heap.size, 0, none⟩) 1 1) [UInt8.ofNat x.toNat] := by
    refine ⟨some (W.heap.size, 0), 1, rfl, Nat.le_refl _, (fun h => by cases h), fun p hp j u hu => ?_⟩
    obtain rfl : (W.heap.size, 0) = p := by simpa using hp
    rw [cell_of_row _ _ _ _ _ _ (heap_alloc_new W _), Nat.zero_add, ← hu]
    have e1 : ((UInt8.ofNat x.toNat).toNat : Int) = x := by rw [u8_toNat (by omega)]; omega
    simp only [bv, List.map_cons, List.map_nil, e1, List.getElem?_toArray]
  exact hr.str (P := Tryd.prog) 22 9 5 Tryd.underlying22 Tryd.underlying5 Tryd.underlying9
/-- Two elements of one cell appended, at a step of a region that draws its order. -/
theorem step_append_two {P : Program} {ops : Array Oper} {o : Oper} {a : Act} {Q : Exit → Act → World → Prop} {w0 w : World} {K : Act → World → Prop} {E : Prop} {B : Nat} (base : Nat) (hgd : o.guard = none) (s x : Operand) (t e : TypeId)
    (ho : o.op = .call { callee := .builtin .append, args := #[s, x], argTypes := #[t, t] })
    (ht : P.underlying t = some (.slice e)) {z : Value} {bytes : Nat} (hinfo : (P.info? e).map (fun i => (i.zero, i.size, i.bytes)) = some (some z, 1, bytes)) (hzs : z.cells.size = 1)
    (v : Value) (n : Nat) (xs : List Value) (ns : Array Value) (hns : ns.size = 2) (h1 : ∀ u ∈ ns.toList, u.oneCell' = true) (hs : a.eval s = v) (hx : a.eval x = .slice (some ⟨B, 0, none⟩) 2 2)
    (hB : w.heap[B]? = some (.cells ns e (0, 0))) (HO : w.ownsRow base e 1 v n xs) (HB : Below base w0 w) (hbase : base ≤ w.heap.size) (hl : (n + 2) * bytes ≤ 140737488355328) (hn : n + 2 ≤ 140737488355328)
    (h : ∀ v1 w1, w1.ownsRow base e 1 v1 (n + 2) (xs ++ ns.toList) → Below base w0 w1 → w.heap.size ≤ w1.heap.size → K (a.put o.dst v1) w1) :
    if Region.wanted o (yielded ops a.tmps) = true then Oper.wp P o a w K Q else E := by
  have hw : Region.wanted o (yielded ops a.tmps) = true := by simp [Region.wanted, hgd]
  rw [if_pos hw]
  obtain ⟨i0, hi, hz0, hz1, hz2⟩ := info_parts hinfo
  have hnew := World.news_of_block (cs := ns) (t := e) (fr := (0, 0)) hB
  refine wp_append_own w s x t ho base e i0 z 1 bytes ht hi hz0 hz1 hz2 hzs (by decide) v n xs hs HO ⟨B, 0, none⟩ 2 2 ns.toList hx (by simp [hns])
    hnew h1 (by simp only [maxLen]; omega) hl hbase ?_
  intro v1 w1 hown hg _
  exact h v1 w1 hown (HB.grown hg hbase (fun k hk => ((HO.lt) k hk).1)) hg.size
theorem alloc_two (h : Array Obj) (a b : Obj) : ((h.push a).push b)[h.size + 1]? = some b := by
  rw [show h.size + 1 = (h.push a).size from (Array.size_push a).symm, Array.getElem?_push, if_pos rfl]
/-- Texts of a row. -/
def RdT (w : World) (g : Nat) (l : List ByteArray) : Prop := ∀ (k : Nat) (x : ByteArray), l[k]? = some x → w.cell? ⟨g, k, none⟩ = some (.string x)
theorem RdT.below {w w1 : World} {g : Nat} {l : List ByteArray} (h : RdT w g l) (hb : Below w.heap.size w w1) : RdT w1 g l := fun k x hx => keepC hb (h k x hx)
theorem RdT.own {w : World} {base : Nat} {e : TypeId} {g c : Nat} {n : Nat} {l : List ByteArray} (h : w.ownsRow base e 1 (.slice (some ⟨g, 0, none⟩) n c) n (l.map Value.string)) : RdT w g l := fun k x hx => by
  have := h.cells (g := g) rfl k (.string x) (by rw [List.getElem?_map, hx]; rfl)
  rwa [add_lit, Nat.zero_add] at this
set_option maxRecDepth 100000 in
set_option maxHeartbeats 4000000 in
theorem names_any (s : ByteArray) (at_ by_ : Int) (w : World) (hG : GW w) (h0 : 0 ≤ at_) (h1 : at_ < 256) (h2 : 0 ≤ by_ ∧ by_ < 256) : Calls Tryd.prog 3 #[.string s, .int .u8 at_, .int .u8 by_] w fun e w' => e = .returned (.bool true) ∧ Below w.heap.size w w' := by
  have HG := Lib.hid hG
  obtain ⟨S, m, hS1, hS2, am1, am2, am3, hsS⟩ := cut_min s 100
  replace am1 : min (s.size : Int) 100 = (m : Int) := am1
  replace am2 : (if (100 : Int) < (s.size : Int) then (100 : Int) else (s.size : Int)) = (m : Int) := am2
  have hsS' := fun W => hsS Tryd.prog 9 W Tryd.underlying9
  have HS := Lib.hid hS2
  have hcv := fun W => one_str W by_ h2
  obtain ⟨B, hBe⟩ : ∃ B : ByteArray, B = ⟨#[UInt8.ofNat by_.toNat]⟩ := ⟨_, rfl⟩
  have hB1 : B.size = 1 := by rw [hBe]; rfl
  rw [← hBe] at hcv
  have hp : (0 : Int) < (S.size : Int) + 1 := by omega
  obtain ⟨d, hd⟩ : ∃ d : Nat, d = (at_ % ((S.size : Int) + 1)).toNat := ⟨_, rfl⟩
  have hd0 := Int.emod_nonneg at_ (Int.ne_of_gt hp)
  have hd1 := Int.emod_lt_of_pos at_ hp
  have hrem : at_ % ((S.size : Int) + 1) = (d : Int) := by omega
  have hdl : d ≤ S.size := by omega
  have hdi : (d : Int) ≤ (S.size : Int) := by omega
  obtain ⟨hb0, hb1⟩ := h2
  have pm : (0 : Int) ≤ (m : Int) := by omega
  have pm2 : (m : Int) ≤ (s.size : Int) := by omega
  have hs1 := fun W => run_take (P := Tryd.prog) 9 Tryd.underlying9 S d hdl W
  have hs2 := fun W => run_slice_string_l W 9 S Tryd.underlying9 .i64 (d : Int) (by omega) (by omega)
  obtain ⟨T1, hT1⟩ : ∃ T : ByteArray, T = S.extract 0 d := ⟨_, rfl⟩
  obtain ⟨T2, hT2⟩ : ∃ T : ByteArray, T = S.extract d S.size := ⟨_, rfl⟩
  rw [← hT1] at hs1
  rw [show ((d : Int)).toNat = d by omega, ← hT2] at hs2
  have z1 : T1.size ≤ 100 := by rw [hT1, ByteArray.size_extract]; omega
  have z2 : T2.size ≤ 100 := by rw [hT2, ByteArray.size_extract]; omega
  have ha1 := fun W => run_string_add_sum (P := Tryd.prog) W T1 B (by omega)
  obtain ⟨U1, hU1⟩ : ∃ T : ByteArray, T = T1 ++ B := ⟨_, rfl⟩
  have z3 : U1.size ≤ 101 := by rw [hU1, ByteArray.size_append]; omega
  rw [← hU1] at ha1
  have ha2 := fun W => run_string_add_sum (P := Tryd.prog) W U1 T2 (by omega)
  obtain ⟨T3, hT3⟩ : ∃ T : ByteArray, T = U1 ++ T2 := ⟨_, rfl⟩
  have z4 : T3.size ≤ 201 := by rw [hT3, ByteArray.size_append]; omega
  rw [← hT3] at ha2
  have ha3 := fun W => run_string_add_sum (P := Tryd.prog) W B S (by omega)
  obtain ⟨T4, hT4⟩ : ∃ T : ByteArray, T = B ++ S := ⟨_, rfl⟩
  have z5 : T4.size ≤ 101 := by rw [hT4, ByteArray.size_append]; omega
  rw [← hT4] at ha3
  have ha4 := fun W => run_string_add_sum (P := Tryd.prog) W S B (by omega)
  obtain ⟨T5, hT5⟩ : ∃ T : ByteArray, T = S ++ B := ⟨_, rfl⟩
  have z6 : T5.size ≤ 101 := by rw [hT5, ByteArray.size_append]; omega
  rw [← hT5] at ha4
  clear hT1 hT2 hU1 hT3 hT4 hT5 hd hd0 hd1 hS2 hsS hBe hG hp
  go_enter Tryd.func3, Tryd.ntmps3
  go_wp2_with fail
  obtain ⟨wa, hwa⟩ : ∃ wa, wa = w.alloc (.cells #[.int .u8 by_] 5) := ⟨_, rfl⟩
  rw [← hwa]
  have HBa : Hid (Below w.heap.size w wa) := by rw [hwa]; exact below_alloc1 _ _
  have hga : w.heap.size ≤ wa.heap.size := HBa.out.size
  clear hwa hcv
  go_still_tail 22, (by kernel_rfl)
  have HOq := Lib.hid (World.ownsRow_lit (e := 9) (base := w.heap.size) (size := 1) wa.drew #[.string S, .string T1, .string T2, .string T3, .string T4, .string T5] 6 hga (by decide) rfl)
  have HBq := Lib.hid (bstep HBa.out.drew (below_alloc1 wa.drew (.cells #[.string S, .string T1, .string T2, .string T3, .string T4, .string T5] 9)))
  by_cases hdz : d < S.size
  · have hs3 := fun W => run_slice_string_l W 9 S Tryd.underlying9 .i64 ((d : Int) + 1) (by omega) (by omega)
    obtain ⟨T6, hT6⟩ : ∃ T : ByteArray, T = S.extract (d + 1) S.size := ⟨_, rfl⟩
    rw [show ((d : Int) + 1).toNat = d + 1 by omega, ← hT6] at hs3
    have y1 : T6.size ≤ 100 := by rw [hT6, ByteArray.size_extract]; omega
    have ha5 := fun W => run_string_add_sum (P := Tryd.prog) W U1 T6 (by omega)
    obtain ⟨T7, hT7⟩ : ∃ T : ByteArray, T = U1 ++ T6 := ⟨_, rfl⟩
    have y2 : T7.size ≤ 201 := by rw [hT7, ByteArray.size_append]; omega
    rw [← hT7] at ha5
    have ha6 := fun W => run_string_add_sum (P := Tryd.prog) W T1 T6 (by omega)
    obtain ⟨T8, hT8⟩ : ∃ T : ByteArray, T = T1 ++ T6 := ⟨_, rfl⟩
    have y3 : T8.size ≤ 200 := by rw [hT8, ByteArray.size_append]; omega
    rw [← hT8] at ha6
    have iw : IntKind.i64.wrap ((d : Int) + 1) = (d : Int) + 1 := IntWalk.i64_in _ (by omega)
    have id0 : (0 : Int) ≤ (d : Int) + 1 := by omega
    have id1 : (d : Int) + 1 ≤ (S.size : Int) := by omega
    have HZ : Hid (∀ (k : Nat) (X : ByteArray), [S, T1, T2, T3, T4, T5, T7, T8][k]? = some X → X.size ≤ 140737488351232) := fun k X hX => by
      have := List.mem_of_getElem? hX
      simp only [List.mem_cons, List.not_mem_nil, or_false] at this
      rcases this with rfl | rfl | rfl | rfl | rfl | rfl | rfl | rfl <;> omega
    clear hT6 hT7 hT8
    go_wp2_with fail
    go_region_held3 (fun W => Below w.heap.size w W) (first | assumption | (exact HBq.out) | (exact HBq.out.drew) | (exact (‹Below w.heap.size w _›).alloc (‹Below w.heap.size w _›).size _) | (exact hB3)) ((refine step_append_two w.heap.size (by rfl) (.tmp 52) (.tmp 71) 23 9 (by rfl) Tryd.underlying23 info_str rfl _ 6 _ #[.string T7, .string T8] rfl (by simp [Value.oneCell']) (by rfl) (by rfl) (alloc_two wa.heap _ _) (HOq.out.alloc _) (‹Below w.heap.size w _›) (‹Below w.heap.size w _›).size (by decide) (by decide) ?_; intro v3 w3 hO3 hB3 hs3))
    have HBT := Lib.hid hB3
    have hO3' : w3.ownsRow w.heap.size 9 1 v3 8 ([S, T1, T2, T3, T4, T5, T7, T8].map Value.string) := hO3
    rcases own_cells hO3' with ⟨_, h0⟩ | ⟨g, cc, rfl, hg, hbg, _⟩
    · cases h0
    have HRT := Lib.hid (RdT.own hO3')
    clear hB3 hO3 hO3' HOq HBq HBa hsS' hs1 hs2 ha1 ha2 ha3 ha4 ha5 ha6 iw id0 id1 y1 y2 y3 z1 z2 z3 z4 z5 z6 hrem
    go_wp2_with fail
    go_loopw [10] (fun i wr => ∃ k : Nat, k ≤ 8 ∧ i = .int .i64 k ∧ Hid (RdT wr g [S, T1, T2, T3, T4, T5, T7, T8]) ∧ Hid (Below w.heap.size w wr)) (fun i _ => 8 - (intOf i).toNat)
    case atStart => exact ⟨0, Nat.zero_le _, rfl, HRT.out, HBT.out⟩
    case round =>
      clear HRT HBT
      obtain ⟨k, hk, rfl, HR, HB⟩ := hrel
      by_cases hlt : k < 8
      · obtain ⟨X, hX⟩ : ∃ X, ([S, T1, T2, T3, T4, T5, T7, T8] : List ByteArray)[k]? = some X := ⟨_, List.getElem?_eq_getElem (show k < ([S, T1, T2, T3, T4, T5, T7, T8] : List ByteArray).length from hlt)⟩
        have hXs := HZ.out k X hX
        have c1 := HR.out k X hX
        have i0 : (0 : Int) ≤ (k : Int) := by omega
        have i1 : (k : Int) < 8 := by omega
        have Q1 := Lib.hid (fun W hE hM => event_any X W hXs hE hM)
        have Q2 := Lib.hid (fun W => revent_any X W hXs)
        have Q3 := Lib.hid (fun W hP => person_any X W hXs hP)
        have Q4 := Lib.hid (fun W => rperson_any X W hXs)
        obtain ⟨x1, hx1⟩ : ∃ x, x = eventB X.data.toList := ⟨_, rfl⟩
        obtain ⟨x2, hx2⟩ : ∃ x, x = personB X.data.toList := ⟨_, rfl⟩
        rw [← hx1] at Q1 Q2
        rw [← hx2] at Q3 Q4
        have n1 : (x1 != x1) = false := by simp
        have n2 : (x2 != x2) = false := by simp
        clear hX hXs hx1 hx2
        go_wp2_with fail
        go_region_held3 (fun W => W.cell? ⟨g, k, none⟩ = some (.string X) ∧ Below wr.heap.size wr W) (first | assumption | (exact ⟨c1, Below.refl _ _⟩) | (exact ⟨c1, (Below.refl _ _).drew⟩) | (exact ⟨keepC hBs (‹_ ∧ Below wr.heap.size wr _›).1, bstep (‹_ ∧ Below wr.heap.size wr _›).2 hBs⟩)) (first | (go_at_call 9; refine (Q1.out _ (HG.out.below (bstep HB.out (‹_ ∧ Below wr.heap.size wr _›).2)).e (HG.out.below (bstep HB.out (‹_ ∧ Below wr.heap.size wr _›).2)).m).mono ?_; rintro e w5 ⟨rfl, hBs⟩) | (go_at_call 10; refine (Q2.out _).mono ?_; rintro e w5 ⟨rfl, rfl⟩) | (go_at_call 11; refine (Q3.out _ (HG.out.below (bstep HB.out (‹_ ∧ Below wr.heap.size wr _›).2)).p).mono ?_; rintro e w5 ⟨rfl, hBs⟩) | (go_at_call 12; refine (Q4.out _).mono ?_; rintro e w5 ⟨rfl, rfl⟩))
        all_goals
          have hS := Lib.hid (‹_ ∧ Below wr.heap.size wr _›).2
          go_wp2_with fail
          go_roundw
          case rel => exact ⟨k + 1, by omega, by go_num, HR.out.below hS.out, bstep HB.out hS.out⟩
          case measure => simp [intOf]; omega
      · obtain rfl : k = 8 := by omega
        go_wp2_with fail
        refine (works_any _ (HG.out.below HB.out)).mono ?_
        rintro e w9 ⟨rfl, hB9⟩
        go_wp2_with fail
        go_ret
        exact ⟨rfl, bstep HB.out hB9⟩
  · have hde : d = S.size := by omega
    have hdn : decide ((d : Int) < (S.size : Int)) = false := by simp; omega
    have HZ : Hid (∀ (k : Nat) (X : ByteArray), [S, T1, T2, T3, T4, T5][k]? = some X → X.size ≤ 140737488351232) := fun k X hX => by
      have := List.mem_of_getElem? hX
      simp only [List.mem_cons, List.not_mem_nil, or_false] at this
      rcases this with rfl | rfl | rfl | rfl | rfl | rfl <;> omega
    have HBT := Lib.hid HBq.out
    have HRT := Lib.hid (RdT.own (l := [S, T1, T2, T3, T4, T5]) HOq.out)
    clear HOq HBq HBa hsS' hs1 hs2 ha1 ha2 ha3 ha4 z1 z2 z3 z4 z5 z6 hde
    go_wp2_with fail
    go_loopw [10] (fun i wr => ∃ k : Nat, k ≤ 6 ∧ i = .int .i64 k ∧ Hid (RdT wr wa.heap.size [S, T1, T2, T3, T4, T5]) ∧ Hid (Below w.heap.size w wr)) (fun i _ => 6 - (intOf i).toNat)
    case atStart => exact ⟨0, Nat.zero_le _, rfl, HRT.out, HBT.out⟩
    case round =>
      clear HRT HBT
      obtain ⟨k, hk, rfl, HR, HB⟩ := hrel
      by_cases hlt : k < 6
      · obtain ⟨X, hX⟩ : ∃ X, ([S, T1, T2, T3, T4, T5] : List ByteArray)[k]? = some X := ⟨_, List.getElem?_eq_getElem (show k < ([S, T1, T2, T3, T4, T5] : List ByteArray).length from hlt)⟩
        have hXs := HZ.out k X hX
        have c1 := HR.out k X hX
        have i0 : (0 : Int) ≤ (k : Int) := by omega
        have i1 : (k : Int) < 6 := by omega
        have Q1 := Lib.hid (fun W hE hM => event_any X W hXs hE hM)
        have Q2 := Lib.hid (fun W => revent_any X W hXs)
        have Q3 := Lib.hid (fun W hP => person_any X W hXs hP)
        have Q4 := Lib.hid (fun W => rperson_any X W hXs)
        obtain ⟨x1, hx1⟩ : ∃ x, x = eventB X.data.toList := ⟨_, rfl⟩
        obtain ⟨x2, hx2⟩ : ∃ x, x = personB X.data.toList := ⟨_, rfl⟩
        rw [← hx1] at Q1 Q2
        rw [← hx2] at Q3 Q4
        have n1 : (x1 != x1) = false := by simp
        have n2 : (x2 != x2) = false := by simp
        clear hX hXs hx1 hx2
        go_wp2_with fail
        go_region_held3 (fun W => W.cell? ⟨wa.heap.size, k, none⟩ = some (.string X) ∧ Below wr.heap.size wr W) (first | assumption | (exact ⟨c1, Below.refl _ _⟩) | (exact ⟨c1, (Below.refl _ _).drew⟩) | (exact ⟨keepC hBs (‹_ ∧ Below wr.heap.size wr _›).1, bstep (‹_ ∧ Below wr.heap.size wr _›).2 hBs⟩)) (first | (go_at_call 9; refine (Q1.out _ (HG.out.below (bstep HB.out (‹_ ∧ Below wr.heap.size wr _›).2)).e (HG.out.below (bstep HB.out (‹_ ∧ Below wr.heap.size wr _›).2)).m).mono ?_; rintro e w5 ⟨rfl, hBs⟩) | (go_at_call 10; refine (Q2.out _).mono ?_; rintro e w5 ⟨rfl, rfl⟩) | (go_at_call 11; refine (Q3.out _ (HG.out.below (bstep HB.out (‹_ ∧ Below wr.heap.size wr _›).2)).p).mono ?_; rintro e w5 ⟨rfl, hBs⟩) | (go_at_call 12; refine (Q4.out _).mono ?_; rintro e w5 ⟨rfl, rfl⟩))
        all_goals
          have hS := Lib.hid (‹_ ∧ Below wr.heap.size wr _›).2
          go_wp2_with fail
          go_roundw
          case rel => exact ⟨k + 1, by omega, by go_num, HR.out.below hS.out, bstep HB.out hS.out⟩
          case measure => simp [intOf]; omega
      · obtain rfl : k = 6 := by omega
        go_wp2_with fail
        refine (works_any _ (HG.out.below HB.out)).mono ?_
        rintro e w9 ⟨rfl, hB9⟩
        go_wp2_with fail
        go_ret
        exact ⟨rfl, bstep HB.out hB9⟩
end Go.Proofs.YteelccgaemmmpaaDoor
