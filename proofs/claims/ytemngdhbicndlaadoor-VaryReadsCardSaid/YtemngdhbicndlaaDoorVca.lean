/- foyerref02.Read. -/
import Derived.Test.YtemngdhbicndlaaDoorVc9
import Derived.Test.YtemngdhbicndlaaDoorVc7
namespace Go.Proofs.YtemngdhbicndlaaDoor
open Go.RowKit
set_option linter.unusedVariables false
set_option linter.unusedSimpArgs false

theorem box_S2 {w : World} {b : Nat} {v0 v1 : Value} {t : TypeId} (h : w.heap[b]? = some (.cells #[v0, v1] t (0, 0))) : w.cell? ⟨b, 0, none⟩ = some v0 ∧ w.cell? ⟨b, 1, none⟩ = some v1 :=
  ⟨cell_of_row _ _ 0 _ _ _ h, cell_of_row _ _ 1 _ _ _ h⟩
theorem set2_heap {w : World} {b : Nat} {v0 v1 : Value} {t : TypeId} (h : w.heap[b]? = some (.cells #[v0, v1] t (0, 0))) (n0 n1 : Value) : ((w.setCell ⟨b, 0, none⟩ n0).setCell ⟨b, 1, none⟩ n1).heap[b]? = some (.cells #[n0, n1] t (0, 0)) :=
  set_heap (set_heap h 0 n0 (by simp)) 1 n1 (by simp)
theorem below_down {w X Y : World} (h : Below w.heap.size w X) (k : Below (w.heap.size + 1) X Y) : Below w.heap.size w Y := h.trans (k.mono (by omega))
theorem own_append_box4 {P : Program} {ops : Array Oper} {rest : List Oper} {o : Oper} {a : Act} {Q : Exit → Act → World → Prop} {w0 W : World} (base : Nat) (hgd : o.guard = none) (s x : Operand) (t e : TypeId)
    (ho : o.op = .call { callee := .builtin .append, args := #[s, x], argTypes := #[t, t] })
    (ht : P.underlying t = some (.slice e)) {z : Value} {size bytes : Nat} (hinfo : (P.info? e).map (fun i => (i.zero, i.size, i.bytes)) = some (some z, size, bytes)) (hzs : z.cells.size = size) (hsz : 0 < size)
    (v : Value) (n : Nat) (xs : List Value) (ns : Array Value) (hns : ns.size = size) (h1 : ∀ u ∈ ns.toList, u.oneCell' = true) (hs : a.eval s = v) (B : Nat) (hb : B = W.heap.size) (hx : a.eval x = .slice (some ⟨B, 0, none⟩) 1 1)
    (HO : W.ownsRow base e size v n xs) (HB : Below base w0 W) (hbase : base ≤ W.heap.size) (hl : (n + 1) * bytes ≤ 140737488355328) (hn : n + 1 ≤ 140737488355328)
    (h : ∀ v1 w1, w1.ownsRow base e size v1 (n + 1) (xs ++ ns.toList) → Below base w0 w1 → (W.alloc (.cells ns e)).grownBy w1 v.ownBlock → wpList P ops Q rest (a.put o.dst v1) w1) :
    wpList P ops Q (o :: rest) a (W.alloc (.cells ns e)) := by
  subst hb
  obtain ⟨i0, hi, hz0, hz1, hz2⟩ := info_parts hinfo
  have hnew := World.news_of_block (cs := ns) (t := e) (fr := (0, 0)) (heap_alloc_new W _)
  refine wpList_append_own (W.alloc (.cells ns e)) hgd s x t ho base e i0 z size bytes ht hi hz0 hz1 hz2 hzs hsz v n xs hs (HO.alloc _) ⟨W.heap.size, 0, none⟩ 1 1 ns.toList hx (by simp [hns])
    hnew h1 (by simp only [maxLen]; omega) hl (by simp; omega) ?_
  intro v1 w1 hown hg _
  exact h v1 w1 hown ((HB.alloc hbase _).grown hg (by simp; omega) (fun k hk => ((HO.lt) k hk).1)) hg
theorem rdv_set2 {w : World} {v : Value} {l : List Fd} {b : Nat} {x y : Int} {n0 n1 : Value} {t : TypeId} (h : RdV w v l) (hx : w.heap[b]? = some (.cells #[.int .i64 x, .int .i64 y] t (0, 0))) (hne : ∀ a n c, v = .slice (some a) n c → a.block ≠ b) : RdV ((w.setCell ⟨b, 0, none⟩ n0).setCell ⟨b, 1, none⟩ n1) v l := by
  obtain ⟨A, c, rfl, h1, h2, h3⟩ := h
  refine ⟨A, c, rfl, h1, h2, fun p hp k f hf j u hu => ?_⟩
  have hq := hne ⟨p.1, p.2, none⟩ _ _ (by rw [hp]; rfl)
  exact keep_off (keep_off (h3 p hp k f hf j u hu) hq) hq
theorem own_block_ne {w : World} {base : Nat} {e : TypeId} {size : Nat} {v : Value} {n : Nat} {xs : List Value} (h : w.ownsRow base e size v n xs) {b : Nat} (hb : b < base) : ∀ a n c, v = .slice (some a) n c → a.block ≠ b := by
  intro a n' c e1
  subst e1
  have := (h.lt) a.block rfl
  omega
set_option maxRecDepth 100000 in
set_option maxHeartbeats 2000000 in
theorem rread_any (s : ByteArray) (L : List UInt8) (w : World) (hL : s.data.toList = L) (hs : s.size ≤ 140737488351232) :
    Calls Tryd.prog 12 #[.string s] w fun e w' => ∃ v1, e = .returned (.tuple #[v1, .agg #[.int .i64 (readC L), .int .i64 (readT L)]]) ∧ RdV w' v1 (readF L) ∧ Below w.heap.size w w' := by
  have hls : s.size = L.length := by rw [← hL, size_list]
  have HLS := Lib.hid hls
  have HL := Lib.hid hL
  have HX0 : Hid ((w.alloc (.cells #[.int .i64 0, .int .i64 0] 38)).heap[w.heap.size]? = some (.cells #[.int .i64 0, .int .i64 0] 38 (0, 0))) := heap_alloc_new _ _
  have HB0 : Hid (Below w.heap.size w (w.alloc (.cells #[.int .i64 0, .int .i64 0] 38))) := (Below.refl _ _).alloc (Nat.le_refl _) _
  have hz0 : (w.alloc (.cells #[.int .i64 0, .int .i64 0] 38)).heap.size = w.heap.size + 1 := by simp
  have HZ0 := Lib.hid hz0
  clear hls hL hz0
  go_enter Tryd.func12, Tryd.ntmps12
  go_wp2_with fail
  generalize w.alloc (.cells #[.int .i64 0, .int .i64 0] 38) = W0 at HX0 HB0 HZ0 ⊢
  go_loopw [4, 5, 6] (fun ov av tv wr => ∃ (acc : List Fd) (last : Int) (m : Nat), tv = .int .i64 last ∧ av = .int .i64 m ∧ Hid (RdI L acc last m) ∧ Hid (wr.ownsRow (w.heap.size + 1) 50 4 ov acc.length (acc.flatMap fdC)) ∧ Hid (Below (w.heap.size + 1) W0 wr)) (fun ov _ _ _ => 40 - sLen ov)
  case atStart => exact ⟨[], 0, 0, rfl, rfl, RdI.start L, World.ownsRow_nil _ _ _ _, Below.refl _ _⟩
  case round =>
    obtain ⟨acc, last, m, rfl, rfl, HI, HO, HB⟩ := hrel
    obtain ⟨a0, c0, hov, hac⟩ := own_sLen HO.out
    subst hov
    have hml := HI.out.le
    have hal := HI.out.len
    have hx := (HB.out.block w.heap.size (by omega)).trans HX0.out
    have HX := Lib.hid hx
    obtain ⟨x0, x1⟩ := box_S2 hx
    have y0 := box_fr hx 0
    have y1 := box_fr hx 1
    have hwb : w.heap.size + 1 ≤ wr.heap.size := by
      have h1 := HB.out.size
      have h2 := HZ0.out
      omega
    have hwl : w.heap.size < wr.heap.size := by omega
    clear hx
    by_cases hm : m = L.length
    · obtain ⟨h1, h2, h3⟩ := (by rw [hm] at HI; exact HI.out.all : readC L = 0 ∧ readT L = 0 ∧ readF L = acc)
      have H1 := Lib.hid h1
      have H2 := Lib.hid h2
      have H3 := Lib.hid h3
      have hmi : ¬ (m : Int) < (s.size : Int) := by rw [HLS.out]; omega
      have hrd := RdV.own HO.out
      have HRD := Lib.hid hrd
      clear h1 h2 h3 hm hrd
      go_wp2_with fail
      obtain ⟨q0, q1⟩ := box_S2 (set2_heap HX.out (.int .i64 0) (.int .i64 0))
      refine bodyPost_ret (v := .tuple #[.slice a0 acc.length c0, .agg #[.int .i64 0, .int .i64 0]]) (by simp [results, Tryd.results12, go_sem, q0, q1]; try rfl) rfl ?_
      refine ⟨_, by rw [H1.out, H2.out], ?_, ?_⟩
      · rw [H3.out]
        exact rdv_set2 HRD.out HX.out (own_block_ne HO.out (by omega))
      · exact below_set (j := 1) (v := .int .i64 0) (below_set (j := 0) (v := .int .i64 0) (below_down HB0.out HB.out) (Nat.le_refl _)) (Nat.le_refl _)
    have hml' : m < L.length := by omega
    have hmi : (m : Int) < (s.size : Int) := by rw [HLS.out]; omega
    by_cases h32 : acc.length = 32
    · obtain ⟨h1, h2, h3⟩ := HI.out.full hml' h32
      have H1 := Lib.hid h1
      have H2 := Lib.hid h2
      have H3 := Lib.hid h3
      clear h1 h2 h3
      rw [h32]
      go_wp2_with fail
      obtain ⟨q0, q1⟩ := box_S2 (set2_heap HX.out (.int .i64 4) (.int .i64 m))
      refine bodyPost_ret (v := .tuple #[.slice none 0 0, .agg #[.int .i64 4, .int .i64 m]]) (by simp [results, Tryd.results12, go_sem, q0, q1]; try rfl) rfl ?_
      refine ⟨_, by rw [H1.out, H2.out], by rw [H3.out]; exact RdV.nil _, ?_⟩
      exact below_set (j := 1) (v := .int .i64 m) (below_set (j := 0) (v := .int .i64 4) (below_down HB0.out HB.out) (Nat.le_refl _)) (Nat.le_refl _)
    have h32b : ((acc.length : Int) == 32) = false := by rw [beq_eq_false_iff_ne]; omega
    have HF := Lib.hid (rfield_any s L m last wr HL.out hml' hs)
    go_wp2_with fail
    refine HF.out.mono ?_
    rintro e w2 (⟨c, a9, hc, rfl, hB2⟩ | ⟨f, m', hc, hm', rfl, hB2⟩)
    · obtain ⟨h1, h2, h3, h4⟩ := HI.out.bad hml' (by omega) hc
      have H1 := Lib.hid h1
      have H2 := Lib.hid h2
      have H3 := Lib.hid h3
      have hc0 : (c == 0) = false := by rw [beq_eq_false_iff_ne]; exact h4
      have HX2 := Lib.hid (below_box hB2 HX.out)
      have HB2 := Lib.hid (HB.out.trans (hB2.mono hwb))
      have hwl2 : w.heap.size < w2.heap.size := by have := hB2.size; omega
      clear h1 h2 h3 h4 hc hB2 HF x0 x1 y0 y1
      obtain ⟨x0, x1⟩ := box_S2 HX2.out
      have y0 := box_fr HX2.out 0
      have y1 := box_fr HX2.out 1
      unfold Fd.val zeroF
      go_wp2_with fail
      have HXS := below_box ((Below.refl _ _).alloc (Nat.le_refl _) (.cells #[.int .i64 0, .bool false, .int .u64 0, .string ⟨#[]⟩] 50)) (set2_heap HX2.out (.int .i64 c) (.int .i64 m))
      obtain ⟨q0, q1⟩ := box_S2 HXS
      refine bodyPost_ret (v := .tuple #[.slice none 0 0, .agg #[.int .i64 c, .int .i64 m]]) (by simp [results, Tryd.results12, go_sem, q0, q1]; try rfl) rfl ?_
      refine ⟨_, by rw [H1.out, H2.out], by rw [H3.out]; exact RdV.nil _, ?_⟩
      exact (below_set (j := 1) (v := .int .i64 m) (below_set (j := 0) (v := .int .i64 c) (below_down HB0.out HB2.out) (Nat.le_refl _)) (Nat.le_refl _)).alloc (by simp only [World.size_setCell]; omega) _
    · obtain ⟨m2, hm2, hI2⟩ := HI.out.more hml' (by omega) hc
      have hI3 : RdI L (acc ++ [f]) f.tag m' := HI.out.good hml' (by omega) hm' hc
      have HI2 := Lib.hid hI3
      have hal2 := HI2.out.len
      have hal3 : acc.length + 1 ≤ 32 := by simpa using hal2
      have HO2 := Lib.hid (own_kept HO.out hB2)
      have HB2 := Lib.hid (HB.out.trans (hB2.mono hwb))
      have hwl2 : w.heap.size + 1 ≤ w2.heap.size := by have := hB2.size; omega
      clear hI2 hm2 hI3 hc hB2 HF x0 x1 y0 y1 HO HB hal2
      have HNE : Hid (some w2.heap.size ≠ (Value.slice a0 acc.length c0).ownBlock) := fun e => by
        have := ((HO2.out.lt) _ e.symm).2
        omega
      have HBX : Hid ((w2.alloc (.cells #[.int .i64 f.tag, .bool f.isT, .int .u64 (f.n : Nat), .string f.s] 50)).heap[w2.heap.size]? = some (.cells #[.int .i64 f.tag, .bool f.isT, .int .u64 (f.n : Nat), .string f.s] 50 (0, 0))) := heap_alloc_new _ _
      unfold Fd.val
      go_wp2_with (at_builtin; refine own_append_box4 (w0 := W0) (w.heap.size + 1) rfl (.tmp 32) (.tmp 34) 22 50 rfl Tryd.underlying22 info_fd rfl (by decide) _ acc.length (acc.flatMap fdC) #[.int .i64 f.tag, .bool f.isT, .int .u64 (f.n : Nat), .string f.s] rfl (by simp [Value.oneCell']) rfl _ ?_ rfl (HO2.out.alloc _) (HB2.out.alloc hwl2 _) ?_ ?_ ?_ ?_; (simp); (simp; omega); omega; omega; intro v5 w5 hO5 hB5 hg5; have hbx5 := grow_box hg5 HNE.out (below_box ((Below.refl _ _).alloc (Nat.le_refl _) _) HBX.out); have z0 := (box_S hbx5).1; clear hg5 hbx5)
      have hO6 : w5.ownsRow (w.heap.size + 1) 50 4 v5 (acc ++ [f]).length ((acc ++ [f]).flatMap fdC) := by
        rw [List.length_append, List.flatMap_append, List.flatMap_singleton]
        exact hO5
      refine ⟨⟨acc ++ [f], f.tag, m', rfl, rfl, HI2.out, hO6, hB5⟩, ?_⟩
      obtain ⟨a6, c6, rfl, _⟩ := own_sLen hO6
      simp [sLen]
      omega
end Go.Proofs.YtemngdhbicndlaaDoor
