/- HallReads: the walk of the law. -/
import Derived.Test.YtpbfabcihoiiiaaDoorHn3
import Derived.Deep.RegionLawGrows
import Derived.IntWalk
import Derived.Great.BuildSlice
namespace Go.Proofs.YtpbfabcihoiiiaaDoor
open Go.RowKit
set_option linter.unusedVariables false
set_option linter.unusedSimpArgs false

/-- n strings lie at the head of block g, none of them too long. -/
def TXs (w : World) (g n : Nat) : Prop := ∀ j, j < n → ∃ st : ByteArray, w.cell? ⟨g, j, none⟩ = some (.string st) ∧ st.size ≤ 10000
theorem TXs.below {w w' : World} {g n : Nat} (h : TXs w g n) (hb : Below w.heap.size w w') : TXs w' g n := fun j hj => by
  obtain ⟨st, h1, h2⟩ := h j hj
  exact ⟨st, keepC hb h1, h2⟩
theorem TXs.five (w : World) (a b c d e : ByteArray) (T : TypeId) (ha : a.size ≤ 10000) (hb : b.size ≤ 10000) (hc : c.size ≤ 10000) (hd : d.size ≤ 10000) (he : e.size ≤ 10000) : TXs (w.alloc (.cells #[.string a, .string b, .string c, .string d, .string e] T)) w.heap.size 5 := by
  have h := heap_alloc_new w (.cells #[.string a, .string b, .string c, .string d, .string e] T)
  intro j hj
  rw [cell_of_row _ _ j _ _ _ h]
  match j, hj with
  | 0, _ => exact ⟨a, rfl, ha⟩
  | 1, _ => exact ⟨b, rfl, hb⟩
  | 2, _ => exact ⟨c, rfl, hc⟩
  | 3, _ => exact ⟨d, rfl, hd⟩
  | 4, _ => exact ⟨e, rfl, he⟩
  | j + 5, h => omega

section
variable {P : Program} {ops : Array Oper} {o : Oper} {a : Act} {Q : Exit → Act → World → Prop}
theorem step_two {w : World} {K : Act → World → Prop} {E : Prop} {B g : Nat} (hgd : o.guard = none) (s x : Operand) (t e : TypeId)
    (ho : o.op = .call { callee := .builtin .append, args := #[s, x], argTypes := #[t, t] })
    (ht : P.underlying t = some (.slice e)) {z : Value} {bytes : Nat} (hinfo : (P.info? e).map (fun i => (i.zero, i.size, i.bytes)) = some (some z, 1, bytes)) (hzs : z.cells.size = 1)
    (xs : List Value) (n : Nat) (hxs : xs.length = n) (y1 y2 : Value) (h1 : ∀ u ∈ [y1, y2], u.oneCell' = true) (hs : a.eval s = .slice (some ⟨g, 0, none⟩) n n) (hx : a.eval x = .slice (some ⟨B, 0, none⟩) 2 2)
    (hB : w.heap[B]? = some (.cells #[y1, y2] e (0, 0))) (hc : ∀ (j : Nat) (u : Value), xs[j]? = some u → w.cell? ⟨g, j, none⟩ = some u) (hl : (n + 2) * bytes ≤ 140737488355328) (hn : n + 2 ≤ 140737488355328)
    (h : ∀ v1 w1, w1.ownsRow w.heap.size e 1 v1 (n + 2) (xs ++ [y1, y2]) → Below w.heap.size w w1 → K (a.put o.dst v1) w1) :
    if Region.wanted o (yielded ops a.tmps) = true then Oper.wp P o a w K Q else E := by
  obtain ⟨i0, hi, hz0, hz1, hz2⟩ := info_parts hinfo
  have hnew := World.news_of_block (cs := #[y1, y2]) (t := e) (fr := (0, 0)) hB
  refine step_append_grows hgd s x t ho e i0 z 1 bytes ht hi hz0 hz1 hz2 hzs (by decide) (some ⟨g, 0, none⟩) n n xs hs (fun h => by cases h) (by omega) (fun b hb j u hu => by
    cases hb
    rw [add_lit, Nat.zero_add]
    exact hc j u hu) ⟨B, 0, none⟩ 2 2 [y1, y2] hx (by simp) hnew h1 (by omega) (by simp only [maxLen]; omega) hl ?_
  intro v1 w1 hown hg
  exact h v1 w1 hown ((Below.refl _ _).grown hg (Nat.le_refl _) (fun k hk => by cases hk))
end
theorem conv_at {W : World} {g : Nat} {x1 : Int} (h0 : 0 ≤ x1) (h1 : x1 < 256) (h : W.heap[g]? = some (.cells #[.int .u8 x1] 5 (0, 0))) : (convert 31 9 (.slice (some ⟨g, 0, none⟩) 1 1)).run Tryd.prog W = .ok (.string ⟨#[UInt8.ofNat x1.toNat]⟩) W := by
  have hb : x1 = ((UInt8.ofNat x1.toNat).toNat : Int) := by rw [UInt8.toNat_ofNat']; omega
  have hcell : W.cell? ⟨g, 0, none⟩ = some (.int .u8 ((UInt8.ofNat x1.toNat).toNat : Int)) := by
    rw [← hb, cell_of_row _ _ 0 _ _ _ h]
    rfl
  exact (tip_new (base := 0) (e := 5) hcell).rd.str (P := Tryd.prog) 31 9 5 Tryd.underlying31 Tryd.underlying5 Tryd.underlying9
theorem own_lit (w : World) (a b c d e : Value) (T : TypeId) : (w.alloc (.cells #[a, b, c, d, e] T)).ownsRow w.heap.size T 1 (.slice (some ⟨w.heap.size, 0, none⟩) 5 5) 5 [a, b, c, d, e] :=
  ⟨rfl, .inr ⟨w.heap.size, 5, _, rfl, Nat.le_refl _, heap_alloc_new w _, Nat.le_refl _, by simp [maxLen], rfl, rfl⟩⟩
theorem TXs.own {w : World} {base : Nat} {v : Value} {n : Nat} {xs : List Value} {T : TypeId} (h0 : 0 < n) (h : w.ownsRow base T 1 v n xs) (hx : ∀ u ∈ xs, ∃ st : ByteArray, u = .string st ∧ st.size ≤ 10000) : ∃ g c, v = .slice (some ⟨g, 0, none⟩) n c ∧ TXs w g n := by
  rcases own_cells h with ⟨_, h1⟩ | ⟨g, c, rfl, _, _, hc⟩
  · omega
  · refine ⟨g, c, rfl, fun j hj => ?_⟩
    have hl : xs.length = n := by have := h.1; omega
    obtain ⟨u, hu⟩ : ∃ u, xs[j]? = some u := ⟨_, List.getElem?_eq_getElem (by omega)⟩
    obtain ⟨st, rfl, hs⟩ := hx u (List.mem_of_getElem? hu)
    exact ⟨st, hc j _ hu, hs⟩
theorem readT_len {f a : Nat} {l : List UInt8} {rows : List HRow} (h : readT f a l = .inl rows) : rows.length ≤ f := (put_read f a l rows h).2.2.1
theorem rdH_slice {w : World} {v : Value} {l : List HRow} (h : RdH w v l) : ∃ a c, v = .slice a l.length c := by
  obtain ⟨a, c, h, _⟩ := h
  exact ⟨a, c, h⟩
theorem rdH_nil (w : World) : RdH w (.slice none 0 0) [] := RdH.nil w
def SH (w6 : World) (b : Nat) (x1 : Int) (W : World) : Prop := W.cell? ⟨b, 1, none⟩ = some (.int .u8 x1) ∧ Below w6.heap.size w6 W
theorem SH.drew {w6 : World} {b : Nat} {x1 : Int} {W : World} (h : SH w6 b x1 W) : SH w6 b x1 W.drew := ⟨h.1, h.2.drew⟩
theorem SH.alloc {w6 : World} {b : Nat} {x1 : Int} {W : World} (h : SH w6 b x1 W) (o : Obj) : SH w6 b x1 (W.alloc o) := ⟨keepC ((Below.refl _ _).alloc (Nat.le_refl _) _) h.1, h.2.alloc h.2.size _⟩
theorem SH.trans {w6 : World} {b : Nat} {x1 : Int} {W W' : World} (h : SH w6 b x1 W) (hb : Below W.heap.size W W') : SH w6 b x1 W' := ⟨keepC hb h.1, trans' h.2 hb⟩
theorem SH.two {w6 : World} {b : Nat} {x1 : Int} {W : World} (h : SH w6 b x1 W) : W.cell? ⟨b, 1, none⟩ = some (.int .u8 x1) ∧ SH w6 b x1 W := ⟨h.1, h⟩
theorem heap_at {W : World} {o : Obj} {n : Nat} (h : n = W.heap.size) : (W.alloc o).heap[n]? = some o := by rw [h]; exact heap_alloc_new _ _
theorem heap_atd {W : World} {o : Obj} {n : Nat} (h : n = W.heap.size) : (W.alloc o).drew.heap[n]? = some o := heap_at h
theorem SH.keep {w6 : World} {b : Nat} {x1 : Int} {W : World} (h : SH w6 b x1 W) {p : Addr} {u : Value} (hc : w6.cell? p = some u) : W.cell? p = some u := keepC h.2 hc
set_option maxRecDepth 100000 in
set_option maxHeartbeats 8000000 in
theorem reads_any (s : ByteArray) (v : Value) (l : List HRow) (x0 x1 : Int) (w : World) (hs : s.size ≤ 140737488351232) (hv : RdH w v l) (hl : l.length ≤ 9223372036854775807) (hx0 : 0 ≤ x0 ∧ x0 < 256) (hx1 : 0 ≤ x1 ∧ x1 < 256) (hE : EtP w) :
    Calls Tryd.prog 3 #[.string s, .agg #[v], .agg #[.int .u8 x0, .int .u8 x1]] w fun e w' => e = .returned (.bool true) ∧ Below w.heap.size w w' := by
  have HE := Lib.hid hE
  have HV := Lib.hid hv
  clear hE hv
  go_enter Tryd.func3, Tryd.ntmps3
  go_wp2_with fail
  have hB0 : Below w.heap.size w ((w.alloc (.cells #[v] 24)).alloc (.cells #[.int .u8 x0, .int .u8 x1] 25)) := ((Below.refl _ _).alloc (Nat.le_refl _) _).alloc (by simp) _
  refine (few_any v l _ (HV.out.below hB0) hl).mono ?_
  rintro e w1 ⟨v1, rfl, hR1, hB⟩
  have k0 : w1.cell? ⟨w.heap.size + 1, 0, none⟩ = some (.int .u8 x0) := keepC hB (by go_cell)
  have k1 : w1.cell? ⟨w.heap.size + 1, 1, none⟩ = some (.int .u8 x1) := keepC hB (by go_cell)
  have HB := Lib.hid (hB0.trans (hB.mono hB0.size))
  have HR1 := Lib.hid hR1
  clear hB0 hB hR1
  go_wp2_with fail
  refine (rput_any v1 _ w1 HR1.out (by rw [List.length_take]; omega)).mono ?_
  rintro e w2 ⟨st, ce, rfl, hst, hB⟩
  replace k0 := keepC hB k0
  replace k1 := keepC hB k1
  replace HB := Lib.hid (trans' HB.out hB)
  clear hB HR1
  obtain ⟨m1, hm1, hm1a, hm1b⟩ : ∃ m1 : Nat, min (s.size : Int) 120 = (m1 : Int) ∧ m1 ≤ s.size ∧ m1 ≤ 120 := ⟨(min (s.size : Int) 120).toNat, by omega, by omega, by omega⟩
  obtain ⟨m2, hm2, hm2a, hm2b⟩ : ∃ m2 : Nat, min (s.size : Int) 10 = (m2 : Int) ∧ m2 ≤ s.size ∧ m2 ≤ 10 := ⟨(min (s.size : Int) 10).toNat, by omega, by omega, by omega⟩
  have hu1 : (s.extract 0 m1).size ≤ 120 := by rw [ByteArray.size_extract]; omega
  have hu2 : (s.extract 0 m2).size ≤ 10 := by rw [ByteArray.size_extract]; omega
  have hcat1 : ∀ W, (Op.stringOp .add st ⟨#[47]⟩).run Tryd.prog W = .ok (.string (st ++ ⟨#[47]⟩)) W := fun W => run_string_add_sum W _ _ (by show st.size + 1 ≤ _; omega)
  have hcat2 : ∀ W, (Op.stringOp .add st (s.extract 0 m2)).run Tryd.prog W = .ok (.string (st ++ s.extract 0 m2)) W := fun W => run_string_add_sum W _ _ (by omega)
  have hz1 : (st ++ ⟨#[47]⟩ : ByteArray).size ≤ 10000 := by rw [ByteArray.size_append]; show st.size + 1 ≤ _; omega
  have hz2 : (st ++ s.extract 0 m2).size ≤ 10000 := by rw [ByteArray.size_append]; omega
  have HTX := Lib.hid (TXs.five w2.drew (s.extract 0 m1) st st (st ++ ⟨#[47]⟩) (st ++ s.extract 0 m2) 9 (by omega) (by omega) (by omega) hz1 hz2)
  clear hz1 hz2
  go_wp2_with fail
  go_still_tail 16, (by kernel_rfl)
  change wpList _ _ _ _ _ w2.drew
  have j0 : w2.drew.cell? ⟨w.heap.size + 1, 0, none⟩ = some (.int .u8 x0) := k0
  have j1 : w2.drew.cell? ⟨w.heap.size + 1, 1, none⟩ = some (.int .u8 x1) := k1
  have HB2 := Lib.hid (HB.out.drew)
  clear k0 k1 HB
  have HOW := Lib.hid (own_lit w2.drew (.string (s.extract 0 m1)) (.string st) (.string st) (.string (st ++ ⟨#[47]⟩)) (.string (st ++ s.extract 0 m2)) 9)
  have hst1 : (st ++ ⟨#[47]⟩ : ByteArray).size ≤ 10000 := by rw [ByteArray.size_append]; show st.size + 1 ≤ _; omega
  have hst2 : (st ++ s.extract 0 m2).size ≤ 10000 := by rw [ByteArray.size_append]; omega
  generalize w2.drew = w5 at HTX HOW j0 j1 HB2 ⊢
  have hl5 : w.heap.size + 1 < w5.heap.size := World.block_lt_of_cell? _ _ j0
  clear hcat1 hcat2 hm1 hm2
  generalize s.extract 0 m1 = u1 at *
  generalize s.extract 0 m2 = u2 at *
  by_cases ht0 : 0 < st.size
  case' pos =>
    obtain ⟨d, hd⟩ : ∃ d : Nat, x0 % (st.size : Int) = (d : Int) := ⟨(x0 % (st.size : Int)).toNat, by
      have := Int.emod_nonneg x0 (show (st.size : Int) ≠ 0 by omega)
      omega⟩
    have hdl : d < st.size := by
      have := Int.emod_lt_of_pos x0 (show (0 : Int) < (st.size : Int) by omega)
      omega
    have HD := Lib.hid hd
    clear hd
    have hne0 : ((st.size : Int) == 0) = false := beq_eq_false_iff_ne.2 (by omega)
    go_wp2_with fail
    rw [HD.out]
    have j6 := keepC ((Below.refl w5.heap.size w5).alloc (Nat.le_refl _) (.cells #[.string u1, .string st, .string st, .string (st ++ ⟨#[47]⟩), .string (st ++ u2)] 9)) j1
    have HB6 := Lib.hid (HB2.out.alloc HB2.out.size (.cells #[.string u1, .string st, .string st, .string (st ++ ⟨#[47]⟩), .string (st ++ u2)] 9))
    generalize (w5.alloc (.cells #[.string u1, .string st, .string st, .string (st ++ ⟨#[47]⟩), .string (st ++ u2)] 9)) = w6 at HTX HOW j6 HB6 ⊢
    have HCL : Hid (∀ (j : Nat) (u : Value), [Value.string u1, .string st, .string st, .string (st ++ ⟨#[47]⟩), .string (st ++ u2)][j]? = some u → w6.cell? ⟨w5.heap.size, j, none⟩ = some u) := by
      rcases own_cells HOW.out with ⟨h, _⟩ | ⟨g, c, h, _, _, hc⟩
      · cases h
      · cases h
        exact hc
    have hsl1 : ∀ W, (Instr.slice 9 (.string st) none (some (.int .i64 (d : Int))) none).run Tryd.prog W = .ok (.string (st.extract 0 d)) W := fun W => by
      rw [run_slice_string_h W 9 st Tryd.underlying9 .i64 d (by omega) (by omega), Int.toNat_natCast]
    have hsl2 : ∀ W, (Instr.slice 9 (.string st) (some (.int .i64 ((d : Int) + 1))) none none).run Tryd.prog W = .ok (.string (st.extract (d + 1) st.size)) W := fun W => by
      rw [run_slice_string_l W 9 st Tryd.underlying9 .i64 ((d : Int) + 1) (by omega) (by omega), show ((d : Int) + 1).toNat = d + 1 by omega]
    have hp1 : (st.extract 0 d).size ≤ 100 := by rw [ByteArray.size_extract]; omega
    have hp2 : (st.extract (d + 1) st.size).size ≤ 100 := by rw [ByteArray.size_extract]; omega
    generalize st.extract 0 d = pa at hsl1 hp1
    generalize st.extract (d + 1) st.size = pb at hsl2 hp2
    have hcv := fun (W : World) (g : Nat) h => conv_at (W := W) (g := g) hx1.1 hx1.2 h
    generalize UInt8.ofNat x1.toNat = b1 at hcv
    have hcv1 := fun (W : World) => hcv (W.alloc (.cells #[.int .u8 x1] 5)).drew W.heap.size (heap_alloc_new W _)
    have hcv2 := fun (W : World) => hcv (W.alloc (.cells #[.int .u8 x1] 5)) W.heap.size (heap_alloc_new W _)
    clear hcv
    have hcat3 : ∀ W, (Op.stringOp .add pa ⟨#[b1]⟩).run Tryd.prog W = .ok (.string (pa ++ ⟨#[b1]⟩)) W := fun W => run_string_add_sum W _ _ (by show pa.size + 1 ≤ _; omega)
    have hz3 : (pa ++ ⟨#[b1]⟩ : ByteArray).size ≤ 101 := by rw [ByteArray.size_append]; show pa.size + 1 ≤ _; omega
    generalize (pa ++ ⟨#[b1]⟩ : ByteArray) = pc at hcat3 hz3
    have hcat4 : ∀ W, (Op.stringOp .add pc pb).run Tryd.prog W = .ok (.string (pc ++ pb)) W := fun W => run_string_add_sum W _ _ (by omega)
    have hz4 : (pc ++ pb).size ≤ 10000 := by rw [ByteArray.size_append]; omega
    generalize pc ++ pb = pd at hcat4 hz4
    have hwd : IntKind.i64.wrap ((d : Int) + 1) = (d : Int) + 1 := IntWalk.i64_in _ (by omega)
    have HS0 : w6.cell? ⟨w.heap.size + 1, 1, none⟩ = some (.int .u8 x1) ∧ SH w6 (w.heap.size + 1) x1 w6 := ⟨j6, j6, Below.refl _ _⟩
    clear j0 j1 j6 HB2
    have HS1 := HS0.2
    have hld := HS0.1
    go_region_law (refine step_two rfl (.tmp 48) (.tmp 65) 30 9 rfl Tryd.underlying30 info_str rfl _ 5 rfl (.string pa) (.string pd) (by simp [Value.oneCell']) rfl rfl (by first | (with_reducible exact heap_atd (by simp [World.drew])) | (with_reducible exact heap_at (by simp [World.drew]))) (fun j u hu => SH.keep (w6 := w6) (b := w.heap.size + 1) (x1 := x1) (by (repeat' (first | (with_reducible assumption) | (apply SH.drew) | (apply SH.alloc)))) (HCL.out j u hu)) (by omega) (by omega) ?_; intro v9 w9 hown9 hBq; have hS2 : SH w6 (w.heap.size + 1) x1 w9 := SH.trans (by (repeat' (first | (with_reducible assumption) | (apply SH.drew) | (apply SH.alloc)))) hBq)
    obtain ⟨g9, c9, rfl, hT9⟩ := TXs.own (n := 7) (by decide) hown9 (by
      intro u hu
      simp only [List.cons_append, List.nil_append, List.mem_cons, List.not_mem_nil, or_false] at hu
      rcases hu with rfl | rfl | rfl | rfl | rfl | rfl | rfl
      · exact ⟨_, rfl, by omega⟩
      · exact ⟨_, rfl, by omega⟩
      · exact ⟨_, rfl, by omega⟩
      · exact ⟨_, rfl, hst1⟩
      · exact ⟨_, rfl, hst2⟩
      · exact ⟨_, rfl, by omega⟩
      · exact ⟨_, rfl, hz4⟩)
    have HBL := Lib.hid (HB6.out.trans (hS2.2.mono HB6.out.size))
    have HT := Lib.hid hT9
    clear hT9 hown9 hS2 HS0 HS1 hld hBq hcv1 hcv2 hcat3 hcat4 hsl1 hsl2 HTX HCL HOW HB6
    obtain ⟨wL, hwL⟩ : ∃ wL, wL = w9 := ⟨_, rfl⟩
    rw [← hwL] at HBL HT ⊢
    clear hwL
    go_wp2_with fail
    go_loopw [11] (fun i wr => ∃ k : Nat, k ≤ 7 ∧ i = .int .i64 k ∧ Hid (Below wL.heap.size wL wr)) (fun i _ => 7 - (intOf i).toNat)
    case atStart => exact ⟨0, by omega, rfl, Below.refl _ _⟩
    case round =>
      obtain ⟨k, hk, rfl, HB⟩ := hrel
      by_cases hlt : k < 7
      · obtain ⟨sk, hsk, hsz⟩ := HT.out k hlt
        have hck := keepC HB.out hsk
        have HEk := Lib.hid (HE.out.below (HBL.out.trans (HB.out.mono HBL.out.size)))
        go_wp2_with fail
        refine (read_any sk _ (by omega)).mono ?_
        rintro e wa ⟨(⟨c, t, a, hr, rfl, hF⟩ | ⟨rows, v5, hr, rfl, hR⟩), hBa⟩
        · have HBa := Lib.hid (trans' HB.out hBa)
          have hB1 : Below wa.heap.size wa (wa.alloc (.cells #[.slice none 0 0] 24)) := (Below.refl _ _).alloc (Nat.le_refl _) _
          have hca2 := keepC hB1 (keepC hBa hck)
          have hbx : (wa.alloc (.cells #[.slice none 0 0] 24)).cell? ⟨wa.heap.size, 0, none⟩ = some (.slice none 0 0) := by go_cell
          go_wp2_with fail
          refine (rread_any sk _ (by omega)).mono ?_
          rintro e wb ⟨(⟨c', t', hr', rfl⟩ | ⟨rows', v', hr', rfl, hR'⟩), hBb⟩
          · rw [hr] at hr'
            cases hr'
            have hB2 := trans' hB1 hBb
            have hx := keepC hBb hbx
            have hB3 : Below wb.heap.size wb ((wb.alloc (.cells #[.slice none 0 0] 24)).alloc (.cells #[.int .i64 c, .int .i64 (t : Int)] 37)) := ((Below.refl _ _).alloc (Nat.le_refl _) _).alloc (by simp) _
            have hx3 := keepC hB3 hx
            have HB2 := Lib.hid (trans' HBa.out (trans' hB2 hB3))
            have HE3 := Lib.hid (HEk.out.below (trans' hBa (trans' hB2 hB3)))
            have HF := Lib.hid ((hF.below hB2).below hB3)
            have HC := Lib.hid (readT_code _ _ _ _ _ hr).1
            clear hB1 hB2 hBa hBb hr HBa hF
            go_wp2_with fail
            refine (told_yes a c t _ HC.out HF.out.1 HF.out.2 HE3.out).mono ?_
            rintro e wc ⟨rfl, hBc⟩
            have hx4 := keepC hBc hx3
            have hy4 : wc.cell? ⟨wb.heap.size, 0, none⟩ = some (.slice none 0 0) := keepC hBc (by go_cell)
            have HB4 := Lib.hid (trans' HB2.out hBc)
            go_wp2_with fail
            refine (rsame_any (.slice none 0 0) (.slice none 0 0) [] _ (rdH_nil _) (rdH_nil _) (by simp)).mono ?_
            rintro e wd ⟨rfl, hBd⟩
            have HB5 := Lib.hid (trans' HB4.out hBd)
            clear hB3 hBc hBd
            go_wp2_with fail
            go_roundw
            case rel => exact ⟨k + 1, by omega, by go_num, HB5⟩
            case measure => simp [intOf]; omega
          · rw [hr] at hr'
            cases hr'
        · obtain ⟨a5, c5, rfl⟩ := rdH_slice hR
          have HBa := Lib.hid (trans' HB.out hBa)
          have hB1 : Below wa.heap.size wa (wa.alloc (.cells #[.slice a5 rows.length c5] 24)) := (Below.refl _ _).alloc (Nat.le_refl _) _
          have hca2 := keepC hB1 (keepC hBa hck)
          have hbx : (wa.alloc (.cells #[.slice a5 rows.length c5] 24)).cell? ⟨wa.heap.size, 0, none⟩ = some (.slice a5 rows.length c5) := by go_cell
          go_wp2_with fail
          refine (rread_any sk _ (by omega)).mono ?_
          rintro e wb ⟨(⟨c', t', hr', rfl⟩ | ⟨rows', v', hr', rfl, hR'⟩), hBb⟩
          · rw [hr] at hr'
            cases hr'
          · rw [hr] at hr'
            cases hr'
            obtain ⟨a6, c6, rfl⟩ := rdH_slice hR'
            have hB2 := trans' hB1 hBb
            have hx := keepC hBb hbx
            have hB3 : Below wb.heap.size wb ((wb.alloc (.cells #[.slice a6 rows.length c6] 24)).alloc (.cells #[.int .i64 0, .int .i64 0] 37)) := ((Below.refl _ _).alloc (Nat.le_refl _) _).alloc (by simp) _
            have hx3 := keepC hB3 hx
            have HB2 := Lib.hid (trans' HBa.out (trans' hB2 hB3))
            have HE3 := Lib.hid (HEk.out.below (trans' hBa (trans' hB2 hB3)))
            have HR := Lib.hid ((hR.below hB2).below hB3)
            have HR2 := Lib.hid (hR'.below hB3)
            have HL := Lib.hid (readT_len hr)
            clear hB1 hB2 hBa hBb hr HBa hR hR'
            go_wp2_with fail
            refine (told_nil 0 0 _).mono ?_
            rintro e wc ⟨rfl, hBc⟩
            have hx4 := keepC hBc hx3
            have hy4 : wc.cell? ⟨wb.heap.size, 0, none⟩ = some (.slice a6 rows.length c6) := keepC hBc (by go_cell)
            have HB4 := Lib.hid (trans' HB2.out hBc)
            go_wp2_with fail
            refine (rsame_any (.slice a5 rows.length c5) (.slice a6 rows.length c6) rows _ (HR.out.below hBc) (HR2.out.below hBc) (by have := HL.out; omega)).mono ?_
            rintro e wd ⟨rfl, hBd⟩
            have HB5 := Lib.hid (trans' HB4.out hBd)
            clear hB3 hBc hBd
            go_wp2_with fail
            go_roundw
            case rel => exact ⟨k + 1, by omega, by go_num, HB5⟩
            case measure => simp [intOf]; omega
      · go_wp2_with fail
        refine (works_any _).mono ?_
        rintro e wb ⟨rfl, hBb⟩
        have HB7 := Lib.hid (trans' (HBL.out.trans (HB.out.mono HBL.out.size)) hBb)
        clear hBb
        go_wp2_with fail
        go_ret
        exact ⟨rfl, HB7.out⟩
  case' neg =>
    have HBL := Lib.hid (HB2.out.alloc HB2.out.size (.cells #[.string u1, .string st, .string st, .string (st ++ ⟨#[47]⟩), .string (st ++ u2)] 9))
    have HT := HTX
    clear HTX HOW HB2 j0 j1
    have hz0 : ((st.size : Int)) = 0 := by omega
    go_wp2_with fail
    obtain ⟨g9, hg9⟩ : ∃ g9, g9 = w5.heap.size := ⟨_, rfl⟩
    obtain ⟨wL, hwL⟩ : ∃ wL, wL = (w5.alloc (.cells #[.string u1, .string st, .string st, .string (st ++ ⟨#[47]⟩), .string (st ++ u2)] 9)) := ⟨_, rfl⟩
    rw [← hwL, ← hg9] at HT
    rw [← hwL] at HBL
    rw [← hwL, ← hg9]
    clear hwL hg9
    go_loopw [11] (fun i wr => ∃ k : Nat, k ≤ 5 ∧ i = .int .i64 k ∧ Hid (Below wL.heap.size wL wr)) (fun i _ => 5 - (intOf i).toNat)
    case atStart => exact ⟨0, by omega, rfl, Below.refl _ _⟩
    case round =>
      obtain ⟨k, hk, rfl, HB⟩ := hrel
      by_cases hlt : k < 5
      · obtain ⟨sk, hsk, hsz⟩ := HT.out k hlt
        have hck := keepC HB.out hsk
        have HEk := Lib.hid (HE.out.below (HBL.out.trans (HB.out.mono HBL.out.size)))
        go_wp2_with fail
        refine (read_any sk _ (by omega)).mono ?_
        rintro e wa ⟨(⟨c, t, a, hr, rfl, hF⟩ | ⟨rows, v5, hr, rfl, hR⟩), hBa⟩
        · have HBa := Lib.hid (trans' HB.out hBa)
          have hB1 : Below wa.heap.size wa (wa.alloc (.cells #[.slice none 0 0] 24)) := (Below.refl _ _).alloc (Nat.le_refl _) _
          have hca2 := keepC hB1 (keepC hBa hck)
          have hbx : (wa.alloc (.cells #[.slice none 0 0] 24)).cell? ⟨wa.heap.size, 0, none⟩ = some (.slice none 0 0) := by go_cell
          go_wp2_with fail
          refine (rread_any sk _ (by omega)).mono ?_
          rintro e wb ⟨(⟨c', t', hr', rfl⟩ | ⟨rows', v', hr', rfl, hR'⟩), hBb⟩
          · rw [hr] at hr'
            cases hr'
            have hB2 := trans' hB1 hBb
            have hx := keepC hBb hbx
            have hB3 : Below wb.heap.size wb ((wb.alloc (.cells #[.slice none 0 0] 24)).alloc (.cells #[.int .i64 c, .int .i64 (t : Int)] 37)) := ((Below.refl _ _).alloc (Nat.le_refl _) _).alloc (by simp) _
            have hx3 := keepC hB3 hx
            have HB2 := Lib.hid (trans' HBa.out (trans' hB2 hB3))
            have HE3 := Lib.hid (HEk.out.below (trans' hBa (trans' hB2 hB3)))
            have HF := Lib.hid ((hF.below hB2).below hB3)
            have HC := Lib.hid (readT_code _ _ _ _ _ hr).1
            clear hB1 hB2 hBa hBb hr HBa hF
            go_wp2_with fail
            refine (told_yes a c t _ HC.out HF.out.1 HF.out.2 HE3.out).mono ?_
            rintro e wc ⟨rfl, hBc⟩
            have hx4 := keepC hBc hx3
            have hy4 : wc.cell? ⟨wb.heap.size, 0, none⟩ = some (.slice none 0 0) := keepC hBc (by go_cell)
            have HB4 := Lib.hid (trans' HB2.out hBc)
            go_wp2_with fail
            refine (rsame_any (.slice none 0 0) (.slice none 0 0) [] _ (rdH_nil _) (rdH_nil _) (by simp)).mono ?_
            rintro e wd ⟨rfl, hBd⟩
            have HB5 := Lib.hid (trans' HB4.out hBd)
            clear hB3 hBc hBd
            go_wp2_with fail
            go_roundw
            case rel => exact ⟨k + 1, by omega, by go_num, HB5⟩
            case measure => simp [intOf]; omega
          · rw [hr] at hr'
            cases hr'
        · obtain ⟨a5, c5, rfl⟩ := rdH_slice hR
          have HBa := Lib.hid (trans' HB.out hBa)
          have hB1 : Below wa.heap.size wa (wa.alloc (.cells #[.slice a5 rows.length c5] 24)) := (Below.refl _ _).alloc (Nat.le_refl _) _
          have hca2 := keepC hB1 (keepC hBa hck)
          have hbx : (wa.alloc (.cells #[.slice a5 rows.length c5] 24)).cell? ⟨wa.heap.size, 0, none⟩ = some (.slice a5 rows.length c5) := by go_cell
          go_wp2_with fail
          refine (rread_any sk _ (by omega)).mono ?_
          rintro e wb ⟨(⟨c', t', hr', rfl⟩ | ⟨rows', v', hr', rfl, hR'⟩), hBb⟩
          · rw [hr] at hr'
            cases hr'
          · rw [hr] at hr'
            cases hr'
            obtain ⟨a6, c6, rfl⟩ := rdH_slice hR'
            have hB2 := trans' hB1 hBb
            have hx := keepC hBb hbx
            have hB3 : Below wb.heap.size wb ((wb.alloc (.cells #[.slice a6 rows.length c6] 24)).alloc (.cells #[.int .i64 0, .int .i64 0] 37)) := ((Below.refl _ _).alloc (Nat.le_refl _) _).alloc (by simp) _
            have hx3 := keepC hB3 hx
            have HB2 := Lib.hid (trans' HBa.out (trans' hB2 hB3))
            have HE3 := Lib.hid (HEk.out.below (trans' hBa (trans' hB2 hB3)))
            have HR := Lib.hid ((hR.below hB2).below hB3)
            have HR2 := Lib.hid (hR'.below hB3)
            have HL := Lib.hid (readT_len hr)
            clear hB1 hB2 hBa hBb hr HBa hR hR'
            go_wp2_with fail
            refine (told_nil 0 0 _).mono ?_
            rintro e wc ⟨rfl, hBc⟩
            have hx4 := keepC hBc hx3
            have hy4 : wc.cell? ⟨wb.heap.size, 0, none⟩ = some (.slice a6 rows.length c6) := keepC hBc (by go_cell)
            have HB4 := Lib.hid (trans' HB2.out hBc)
            go_wp2_with fail
            refine (rsame_any (.slice a5 rows.length c5) (.slice a6 rows.length c6) rows _ (HR.out.below hBc) (HR2.out.below hBc) (by have := HL.out; omega)).mono ?_
            rintro e wd ⟨rfl, hBd⟩
            have HB5 := Lib.hid (trans' HB4.out hBd)
            clear hB3 hBc hBd
            go_wp2_with fail
            go_roundw
            case rel => exact ⟨k + 1, by omega, by go_num, HB5⟩
            case measure => simp [intOf]; omega
      · go_wp2_with fail
        refine (works_any _).mono ?_
        rintro e wb ⟨rfl, hBb⟩
        have HB7 := Lib.hid (trans' (HBL.out.trans (HB.out.mono HBL.out.size)) hBb)
        clear hBb
        go_wp2_with fail
        go_ret
        exact ⟨rfl, HB7.out⟩
end Go.Proofs.YtpbfabcihoiiiaaDoor
