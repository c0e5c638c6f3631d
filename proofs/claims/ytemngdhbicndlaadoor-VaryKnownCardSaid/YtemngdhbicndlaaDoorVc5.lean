/- vary.Read. -/
import Derived.Test.YtemngdhbicndlaaDoorVc4
import Derived.Test.YtemngdhbicndlaaDoorBw
import Derived.Test.YtemngdhbicndlaaDoorTo2
namespace Go.Proofs.YtemngdhbicndlaaDoor
open Go.RowKit
set_option linter.unusedVariables false
set_option linter.unusedSimpArgs false

/-- Block a holds this fault. -/
def FaultAt (w : World) (a : Nat) (c t : Int) : Prop := w.cell? ⟨a, 0, none⟩ = some (.int .i64 c) ∧ w.cell? ⟨a, 1, none⟩ = some (.int .i64 t)
/-- An error is this fault; none, if the code is 0. -/
def ErrIs (w : World) (v : Value) (c t : Int) : Prop := (c = 0 ∧ t = 0 ∧ v = .nilIface) ∨ (c ≠ 0 ∧ ∃ a, v = ErrV a ∧ FaultAt w a c t)
theorem ErrIs.keep {w W : World} {v : Value} {c t : Int} (h : ErrIs w v c t) (hB : Below w.heap.size w W) : ErrIs W v c t := by
  rcases h with h | ⟨h, a, e, hf⟩
  · exact .inl h
  · exact .inr ⟨h, a, e, keepC hB hf.1, keepC hB hf.2⟩
theorem info_fd : (Tryd.prog.info? 50).map (fun i => (i.zero, i.size, i.bytes)) = some (some (.agg #[.int .i64 0, .bool false, .int .u64 0, .string ⟨#[]⟩]), 4, 40) := by kernel_rfl
/-- Bytes that a text became read as its bytes. -/
theorem bytes_rd (w : World) (s : ByteArray) (cap : Nat) (hc : s.size ≤ cap) : RdB (Lib.bytesWorld w 5 s) (.slice (some ⟨w.heap.size, 0, none⟩) s.size cap) s.data.toList := by
  have hl := size_list s
  refine ⟨some (w.heap.size, 0), cap, by rw [hl]; rfl, by rw [hl]; exact hc, (fun h => by cases h), fun p hp j u hu => ?_⟩
  obtain rfl : (w.heap.size, 0) = p := by simpa using hp
  have hj : j < s.size := by
    have := (List.getElem?_eq_some_iff.1 hu).1
    rw [bv_length, hl] at this
    exact this
  rw [Nat.zero_add, Lib.bytesWorld_cell w 5 s j hj]
  simp only [bv, List.getElem?_map, Option.map_eq_some_iff] at hu
  obtain ⟨b, hb, rfl⟩ := hu
  rw [List.getD_eq_getElem?_getD, hb]
  rfl
def sLen : Value → Nat
  | .slice _ n _ => n
  | _ => 0
theorem own_sLen {w : World} {base : Nat} {e : TypeId} {size : Nat} {v : Value} {n : Nat} {xs : List Value} (h : w.ownsRow base e size v n xs) : ∃ a c, v = .slice a n c ∧ n ≤ c := by
  rcases own_cells h with ⟨h1, h2⟩ | ⟨g, c, h1, h2, _⟩
  · exact ⟨none, 0, by rw [h1, h2], by omega⟩
  · exact ⟨_, c, h1, h2⟩
theorem rest_opn {w : World} {p : Nat} {l : List UInt8} (h : RestAt w p l) : ∃ a c, w.cell? ⟨p, 0, none⟩ = some (.slice a l.length c) ∧ l.length ≤ c := by
  obtain ⟨v, h1, ⟨A, c, rfl, h2, _⟩, _⟩ := h
  exact ⟨_, c, cell_of_row _ _ 0 _ _ _ h1, h2⟩
theorem err_new {w : World} {c t : Int} {ty : TypeId} (hc : c ≠ 0) : ErrIs (w.alloc (.cells #[.int .i64 c, .int .i64 t] ty)) (ErrV w.heap.size) c t :=
  .inr ⟨hc, _, rfl, cell_of_row _ _ 0 _ _ _ (heap_alloc_new w _), cell_of_row _ _ 1 _ _ _ (heap_alloc_new w _)⟩
theorem RdI.more {L : List UInt8} {acc : List Fd} {last : Int} {m : Nat} (h : RdI L acc last m) (hm : m < L.length) (ha : acc.length ≠ 32) {f : Fd} {r : List UInt8} (hc : rdF last L[m] (L.drop (m + 1)) = .inr (f, r)) : ∃ m', r = L.drop m' ∧ RdI L (acc ++ [f]) f.tag m' := by
  obtain ⟨e, hf, _⟩ := field_rdF hc
  rw [← dropL_at hm] at e
  have hl : (fieldL f).length + r.length = L.length - m := by rw [← List.length_append, ← e, List.length_drop]
  have hr : r = L.drop (m + (fieldL f).length) := by
    rw [← List.drop_drop, e, List.drop_append_of_le_length (Nat.le_refl _), List.drop_length, List.nil_append]
  refine ⟨m + (fieldL f).length, hr, h.good hm ha (by omega) ?_⟩
  rw [← hr]
  exact hc
theorem RestAt.up {w w' : World} {p : Nat} {l : List UInt8} (h : RestAt w p l) (hb : Below (p + 1) w w') : RestAt w' p l := by
  obtain ⟨v, h1, ⟨A, c, rfl, h2, h3, h4⟩, h5⟩ := h
  refine ⟨_, (hb.block p (by omega)).trans h1, ⟨A, c, rfl, h2, h3, fun q hq j u hu => ?_⟩, h5⟩
  have := h5 ⟨q.1, q.2, none⟩ _ _ (by rw [hq]; rfl)
  exact (World.cell?_of_block (hb.block q.1 (by show q.1 < p + 1; have : q.1 < p := this; omega))).trans (h4 q hq j u hu)
theorem grow_box {w w1 : World} {row : Option Nat} {b : Nat} {o : Obj} (hg : w.grownBy w1 row) (hne : some b ≠ row) (hb : w.heap[b]? = some o) : w1.heap[b]? = some o :=
  (hg.block b (by
    rcases Nat.lt_or_ge b w.heap.size with h' | h'
    · exact h'
    · rw [Array.getElem?_eq_none h'] at hb
      cases hb) hne).trans hb
theorem err_at {X : World} {b : Nat} {c t : Int} {ty : TypeId} (hb : b = X.heap.size) (hc : c ≠ 0) : ErrIs (X.alloc (.cells #[.int .i64 c, .int .i64 t] ty)) (ErrV b) c t := by
  subst hb
  exact err_new hc
section
variable {P : Program} {ops : Array Oper} {rest : List Oper} {o : Oper} {a : Act} {Q : Exit → Act → World → Prop}
/-- append(v, x) of one box, as a step of a region that draws: and what stays. -/
theorem step_box2 {w0 w : World} {K : Act → World → Prop} {E : Prop} {B : Nat} (base : Nat) (hgd : o.guard = none) (s x : Operand) (t e : TypeId)
    (ho : o.op = .call { callee := .builtin .append, args := #[s, x], argTypes := #[t, t] })
    (ht : P.underlying t = some (.slice e)) {z : Value} {size bytes : Nat} (hinfo : (P.info? e).map (fun i => (i.zero, i.size, i.bytes)) = some (some z, size, bytes)) (hzs : z.cells.size = size) (hsz : 0 < size)
    (v : Value) (n : Nat) (xs : List Value) (ns : Array Value) (hns : ns.size = size) (h1 : ∀ u ∈ ns.toList, u.oneCell' = true) (hs : a.eval s = v) (hx : a.eval x = .slice (some ⟨B, 0, none⟩) 1 1)
    (hB : w.heap[B]? = some (.cells ns e (0, 0))) (HO : w.ownsRow base e size v n xs) (HB : Below base w0 w) (hbase : base ≤ w.heap.size) (hl : (n + 1) * bytes ≤ 140737488355328) (hn : n + 1 ≤ 140737488355328)
    (h : ∀ v1 w1, w1.ownsRow base e size v1 (n + 1) (xs ++ ns.toList) → Below base w0 w1 → w.grownBy w1 v.ownBlock → K (a.put o.dst v1) w1) :
    if Region.wanted o (yielded ops a.tmps) = true then Oper.wp P o a w K Q else E := by
  have hw : Region.wanted o (yielded ops a.tmps) = true := by simp [Region.wanted, hgd]
  rw [if_pos hw]
  obtain ⟨i0, hi, hz0, hz1, hz2⟩ := info_parts hinfo
  have hnew := World.news_of_block (cs := ns) (t := e) (fr := (0, 0)) hB
  refine wp_append_own w s x t ho base e i0 z size bytes ht hi hz0 hz1 hz2 hzs hsz v n xs hs HO ⟨B, 0, none⟩ 1 1 ns.toList hx (by simp [hns])
    hnew h1 (by simp only [maxLen]; omega) hl hbase ?_
  intro v1 w1 hown hg _
  exact h v1 w1 hown (HB.grown hg hbase (fun k hk => ((HO.lt) k hk).1)) hg
end
theorem own_other {w w' : World} {base : Nat} {e : TypeId} {size : Nat} {v : Value} {n : Nat} {xs : List Value} {p : Nat} {cs : Array Value} {t : TypeId} {fr : Nat × Nat} (h : w.ownsRow base e size v n xs) (hg : w.grownBy w' (some p)) (hp : w.heap[p]? = some (.cells cs t fr)) (hne : t ≠ e) : w'.ownsRow base e size v n xs := by
  refine h.kept hg ?_
  cases hv : v.ownBlock with
  | none => simp
  | some k =>
    right
    intro e
    have : k = p := by simpa using e
    subst this
    exact hne (own_type h hv hp)
set_option maxRecDepth 100000 in
set_option maxHeartbeats 1000000 in
theorem read_any (s : ByteArray) (w : World) (hs : s.size ≤ 140737488351232) :
    Calls Tryd.prog 11 #[.string s] w fun e w' => ∃ v1 v2, e = .returned (.tuple #[v1, v2]) ∧ RdV w' v1 (readF s.data.toList) ∧ ErrIs w' v2 (readC s.data.toList) (readT s.data.toList) ∧ Below w.heap.size w w' := by
  have hcv := Lib.run_convert_string_bytes (P := Tryd.prog) w 9 60 5 s Tryd.underlying9 Tryd.underlying60 Tryd.underlying5
  obtain ⟨L, hL⟩ : ∃ L, L = s.data.toList := ⟨_, rfl⟩
  rw [← hL]
  go_enter Tryd.func11, Tryd.ntmps11
  go_wp2_with fail
  go_step3
  go_wp2_with fail
  go_step3
  go_wp2_with fail
  have hLs : L.length = s.size := by rw [hL, size_list]
  have hcap := grownCap_ge w s.size 0 5
  have HR0 : Hid (RestAt ((Lib.bytesWorld w 5 s).alloc (.cells #[.slice (some ⟨w.heap.size, 0, none⟩) s.size (grownCap w s.size 0 5)] 60)) (Lib.bytesWorld w 5 s).heap.size (L.drop 0)) := by
    rw [hL]
    exact ⟨_, heap_alloc_new _ _, (bytes_rd w s _ hcap).below ((Below.refl _ _).alloc (Nat.le_refl _) _), fun a n c e => by simp only [Value.slice.injEq, Option.some.injEq] at e; rw [← e.1]; show w.heap.size < _; rw [Lib.bytesWorld_size]; omega⟩
  have HB0 : Hid (Below w.heap.size w ((Lib.bytesWorld w 5 s).alloc (.cells #[.slice (some ⟨w.heap.size, 0, none⟩) s.size (grownCap w s.size 0 5)] 60))) := (bytesWorld_below w 5 s).alloc (bytesWorld_below w 5 s).size _
  have hpw : w.heap.size ≤ (Lib.bytesWorld w 5 s).heap.size := (bytesWorld_below w 5 s).size
  have HL := Lib.hid hL
  clear hL hcv hcap
  generalize (Lib.bytesWorld w 5 s).alloc (.cells #[.slice (some ⟨w.heap.size, 0, none⟩) s.size (grownCap w s.size 0 5)] 60) = W0 at HR0 HB0 ⊢
  generalize (Lib.bytesWorld w 5 s).heap.size = p at HR0 hpw ⊢
  generalize grownCap w s.size 0 5 = cp
  go_loopw [6, 7] (fun ov tv wr => ∃ (acc : List Fd) (last : Int) (m : Nat), tv = .int .i64 last ∧ Hid (RdI L acc last m) ∧ Hid (wr.ownsRow (p + 1) 50 4 ov acc.length (acc.flatMap fdC)) ∧ Hid (RestAt wr p (L.drop m)) ∧ Hid (Below w.heap.size w wr)) (fun ov _ _ => 40 - sLen ov)
  case atStart => exact ⟨[], 0, 0, rfl, RdI.start L, World.ownsRow_nil _ _ _ _, HR0, HB0⟩
  case round =>
    obtain ⟨acc, last, m, rfl, HI, HO, HR, HB⟩ := hrel
    obtain ⟨a0, c0, hov, hac⟩ := own_sLen HO.out
    subst hov
    obtain ⟨ar, cr, hr0, hrc⟩ := rest_opn HR.out
    have hml := HI.out.le
    have hal := HI.out.len
    rw [List.length_drop] at hr0 hrc
    by_cases hm : m = L.length
    · subst hm
      rw [Nat.sub_self] at hr0 hrc
      obtain ⟨h1, h2, h3⟩ := HI.out.all
      have H1 := Lib.hid h1
      have H2 := Lib.hid h2
      have H3 := Lib.hid h3
      clear h1 h2 h3
      go_wp2_with fail
      rw [Exit.noGoto_ret]
      go_ret2
      refine ⟨_, _, rfl, by rw [H3.out]; exact RdV.own HO.out, .inl ⟨H1.out, H2.out, rfl⟩, HB.out⟩
    have hml' : m < L.length := by omega
    obtain ⟨r, hr⟩ : ∃ r, r = L.length - m := ⟨_, rfl⟩
    rw [← hr] at hr0 hrc
    have hgt : (0 : Int) < (r : Int) := by omega
    have hat : (s.size : Int) - (r : Int) = (m : Int) := by omega
    have hml2 : m ≤ s.size := by omega
    have hrs : r ≤ s.size := by omega
    have HLS := Lib.hid hLs
    clear hr hLs
    by_cases h32 : acc.length = 32
    · obtain ⟨h1, h2, h3⟩ := HI.out.full hml' h32
      have H1 := Lib.hid h1
      have H2 := Lib.hid h2
      have H3 := Lib.hid h3
      clear h1 h2 h3
      rw [h32]
      go_wp2_with fail
      rw [Exit.noGoto_ret]
      go_ret2
      refine ⟨_, _, rfl, by rw [H3.out]; exact RdV.nil _, ?_, HB.out.alloc HB.out.size _⟩
      rw [H1.out, H2.out]
      exact err_new (c := 4) (by decide)
    have h32b : ((acc.length : Int) == 32) = false := by rw [beq_eq_false_iff_ne]; omega
    have hrs := HR.out
    rw [dropL_at hml'] at hrs
    have HF := Lib.hid (field_any p last L[m] (L.drop (m + 1)) wr hrs)
    unfold takeV at HF
    clear hrs
    go_wp2_with fail
    refine HF.out.mono ?_
    rintro e w2 (⟨c, hc, rfl, hg2⟩ | ⟨f, rr, hc, rfl, hs2, hg2⟩)
    · obtain ⟨h1, h2, h3, h4⟩ := HI.out.bad hml' (by omega) hc
      have H1 := Lib.hid h1
      have H2 := Lib.hid h2
      have H3 := Lib.hid h3
      have hc0 : (c == 0) = false := by rw [beq_eq_false_iff_ne]; exact h4
      have HB2 := Lib.hid (below_grown HB.out hg2 hpw (HR.out.lt))
      have H4 := Lib.hid h4
      clear h1 h2 h3 h4 hc hg2 HF
      unfold Fd.val zeroF
      go_wp2_with fail
      rw [Exit.noGoto_ret]
      go_ret2
      refine ⟨_, _, rfl, by rw [H3.out]; exact RdV.nil _, ?_, ?_⟩
      · rw [H1.out, H2.out]
        exact err_at (b := w2.heap.size + 1) (by simp) H4.out
      · exact (HB2.out.alloc HB2.out.size _).alloc (by simp; exact Nat.le_succ_of_le HB2.out.size) _
    · obtain ⟨m', rfl, hI2⟩ := HI.out.more hml' (by omega) hc
      have HI2 := Lib.hid hI2
      obtain ⟨u, hu, _⟩ := HR.out
      have HO2 := Lib.hid (own_other HO.out hg2 hu (by decide))
      have HB2 := Lib.hid (below_grown HB.out hg2 hpw (HR.out.lt))
      have HR2 := Lib.hid hs2
      have HBX : Hid ((w2.alloc (.cells #[.int .i64 f.tag, .bool f.isT, .int .u64 (f.n : Nat), .string f.s] 50)).heap[w2.heap.size]? = some (.cells #[.int .i64 f.tag, .bool f.isT, .int .u64 (f.n : Nat), .string f.s] 50 (0, 0))) := heap_alloc_new _ _
      have hal2 := HI2.out.len
      have HNE : Hid (some w2.heap.size ≠ (Value.slice a0 acc.length c0).ownBlock) := fun e => by
        have := ((HO2.out.lt) _ e.symm).2
        omega
      clear hI2 hu hc hg2 hs2 HF HO HR HB
      unfold Fd.val
      go_wp2_with fail
      have HO3 := Lib.hid (own_kept HO2.out ((Below.refl _ _).alloc (Nat.le_refl _) (.cells #[.int .i64 f.tag, .bool f.isT, .int .u64 (f.n : Nat), .string f.s] 50)))
      have HB3 : Hid (Below w.heap.size w (w2.alloc (.cells #[.int .i64 f.tag, .bool f.isT, .int .u64 (f.n : Nat), .string f.s] 50))) := HB2.out.alloc HB2.out.size _
      have HR3 := Lib.hid (HR2.out.below ((Below.refl _ _).alloc (Nat.le_refl _) (.cells #[.int .i64 f.tag, .bool f.isT, .int .u64 (f.n : Nat), .string f.s] 50)))
      generalize w2.alloc (.cells #[.int .i64 f.tag, .bool f.isT, .int .u64 (f.n : Nat), .string f.s] 50) = w3 at HBX HO3 HB3 HR3 ⊢
      generalize w2.heap.size = bx at HBX HNE ⊢
      obtain ⟨z0, z1, z2, z3, _⟩ := box_S HBX.out
      have hb3 : w.heap.size ≤ w3.heap.size := HB3.out.size
      have hpw3 : p + 1 ≤ w3.heap.size := HR3.out.lt
      go_region_held3 (fun w' => w'.cell? ⟨bx, 0, none⟩ = some (.int .i64 f.tag) ∧ w'.cell? ⟨bx, 1, none⟩ = some (.bool f.isT) ∧ w'.cell? ⟨bx, 2, none⟩ = some (.int .u64 (f.n : Nat)) ∧ w'.cell? ⟨bx, 3, none⟩ = some (.string f.s) ∧ w'.heap[bx]? = some (.cells #[.int .i64 f.tag, .bool f.isT, .int .u64 (f.n : Nat), .string f.s] 50 (0, 0)))
        (first | (exact box_S (w := w3.drew) HBX.out) | (exact box_S (kept_box (KeptT.alloc 5 _ _) (‹_ ∧ _ ∧ _ ∧ _ ∧ _›).2.2.2.2 (by decide))) | (exact box_S (grow_box hC5 HNE.out (‹_ ∧ _ ∧ _ ∧ _ ∧ _›).2.2.2.2)))
        (first
          | (refine step_box2 (w0 := w3) (p + 1) rfl (.tmp 37) (.tmp 39) 22 50 rfl Tryd.underlying22 info_fd rfl (by decide) _ acc.length (acc.flatMap fdC) #[.int .i64 f.tag, .bool f.isT, .int .u64 (f.n : Nat), .string f.s] rfl (by simp [Value.oneCell']) rfl rfl (heap_alloc_new w3 (.cells #[.int .i64 f.tag, .bool f.isT, .int .u64 (f.n : Nat), .string f.s] 50)) (HO3.out.alloc _).drew ((Below.refl (p + 1) w3).alloc hpw3 _).drew (by simp; omega) (by omega) (by omega) ?_; intro v5 w5 hO5 hB5 hC5))
      have HO6 : Hid (w5.ownsRow (p + 1) 50 4 v5 (acc ++ [f]).length ((acc ++ [f]).flatMap fdC)) := by
        rw [List.length_append, List.flatMap_append, List.flatMap_singleton]
        exact hO5
      have HR6 := Lib.hid (HR3.out.up hB5)
      have HB6 := Lib.hid (HB3.out.trans (hB5.mono (by omega)))
      have hal3 : acc.length + 1 ≤ 32 := by simpa using hal2
      obtain ⟨a6, c6, hv6, _⟩ := own_sLen HO6.out
      subst hv6
      clear hO5 hB5 hC5
      go_wp2_with fail
      go_roundw
      case rel => exact ⟨acc ++ [f], f.tag, m', rfl, HI2.out, HO6.out, HR6.out, HB6.out⟩
      case measure => simp [sLen]; omega
end Go.Proofs.YtemngdhbicndlaaDoor
