/- hall.Seats, Class, Has. -/
import Derived.Test.YtpbfabcihoiiiaaHl6
namespace Go.Proofs.Ytpbfabcihoiiiaa
open Go.RowKit Go.Shelf
attribute [local go_sem] Oper.semAt_some
set_option linter.unusedVariables false
set_option linter.unusedSimpArgs false

theorem row_kept {A B : World} {row : Option Nat} {b : Nat} {cs : Array Value} {T : TypeId} (h : A.heap[b]? = some (.cells cs T (0, 0))) (hg : A.grownBy B row) (hne : some b ≠ row) : B.heap[b]? = some (.cells cs T (0, 0)) :=
  (hg.block b (Array.getElem?_eq_some_iff.1 h).1 hne).trans h
theorem row_not {A : World} {b : Nat} {cs : Array Value} {T e : TypeId} (h : A.heap[b]? = some (.cells cs T (0, 0))) (hte : T ≠ e) {base size k : Nat} {v : Value} {xs : List Value} (hr : A.ownsRow base e size v k xs) : some b ≠ v.ownBlock := by
  rcases hr.2 with ⟨rfl, _⟩ | ⟨g, cap, cur, rfl, _, hgb, _⟩
  · simp [Value.ownBlock]
  · intro e'
    obtain rfl : b = g := by simpa [Value.ownBlock] using e'
    have := h.symm.trans hgb
    simp at this
    exact hte this.2
/-- Appending to a slice in a box keeps halls and rows. -/
theorem KpS.appended {n₀ B : Nat} {A w1 : World} {tmp : Obj} {v v' u : Value} {base size k : Nat} {e t : TypeId} {xs : List Value} (hbel : Below n₀ A (w1.setCell ⟨B, 0, none⟩ v')) (hgrow : (A.alloc tmp).grownBy w1 v.ownBlock) (hrow : A.ownsRow base e size v k xs)
    (h1 : 26 ≠ e) (h2 : 29 ≠ e) (hbox : Boxed A B t u) (h3 : 26 ≠ t) (h4 : 29 ≠ t) : KpS n₀ A (w1.setCell ⟨B, 0, none⟩ v') := by
  refine ⟨hbel, fun T hT b cs hb => ?_⟩
  have hTe : T ≠ e := by rcases hT with rfl | rfl <;> assumption
  have hTt : T ≠ t := by rcases hT with rfl | rfl <;> assumption
  have q1 : (A.alloc tmp).heap[b]? = some (.cells cs T (0, 0)) := row_kept hb (World.grownBy_alloc A tmp none) (by simp)
  have q2 := row_kept q1 hgrow (row_not hb hTe hrow)
  refine row_kept q2 (grownBy_setCell' w1 B v') (fun e' => ?_)
  obtain rfl : b = B := by simpa using e'
  have := hb.symm.trans (show A.heap[b]? = _ from hbox)
  simp at this
  exact hTt this.2
theorem KpS.set {n₀ B : Nat} {A : World} {v' u : Value} {t : TypeId} (hn : n₀ ≤ B) (hbox : Boxed A B t u) (h3 : 26 ≠ t) (h4 : 29 ≠ t) : KpS n₀ A (A.setCell ⟨B, 0, none⟩ v') := by
  refine ⟨(Below.refl n₀ A).setCell (p := ⟨B, 0, none⟩) hn _, fun T hT b cs hb => ?_⟩
  refine row_kept hb (grownBy_setCell' A B v') (fun e' => ?_)
  obtain rfl : b = B := by simpa using e'
  have := hb.symm.trans (show A.heap[b]? = _ from hbox)
  simp at this
  rcases hT with rfl | rfl
  · exact h3 this.2
  · exact h4 this.2
theorem own_opn' {w : World} {base : Nat} {e : TypeId} {size : Nat} {v : Value} {n : Nat} {xs : List Value} (h : w.ownsRow base e size v n xs) : ∃ A c, v = .slice A n c := by
  rcases own_cells h with ⟨rfl, rfl⟩ | ⟨g, c, rfl, _⟩
  · exact ⟨_, _, rfl⟩
  · exact ⟨_, _, rfl⟩
theorem info_int : (Try.prog.info? 3).map (fun i => (i.zero, i.size, i.bytes)) = some (some (.int .i64 0), 1, 8) := by kernel_rfl
theorem stN_len (L : List HRow) : ∀ n, (stN L n).length ≤ n
  | 0 => Nat.le_refl _
  | n + 1 => by
    have := stN_len L n
    have h1 : (stA L n).length ≤ 1 := by
      unfold stA
      split
      · split <;> simp
      · simp
    show (stN L n ++ stA L n).length ≤ n + 1
    rw [List.length_append]
    omega
theorem sts_len (L : List HRow) : (sts L).length ≤ 64 := by
  have := stN_len L (8 * min L.length 8)
  unfold sts
  omega

set_option maxRecDepth 100000 in
set_option maxHeartbeats 2000000 in
theorem seatsl_any (v : Value) (L : List HRow) (w : World) (hv : RdH w v L) (hL : L.length ≤ 140737488355328) : Calls Try.prog 14 #[.agg #[v]] w fun e w' => ∃ v', e = .returned v' ∧ w'.ownsRow w.heap.size 3 1 v' (sts L).length ((sts L).map fun x => .int .i64 x.1) ∧ Below w.heap.size w w' := by
  obtain ⟨i0, hi, hz0, hz1, hz2⟩ := info_parts info_int
  refine callsIn_wide (n := 3) |>.1 ?_
  refine callsIn_of_wp_marks Try.func14 rfl trivial ?_ rfl
  simp only [Try.ntmps14, List.size_toArray, List.length_cons, List.length_nil, Nat.reduceAdd, Nat.reduceSub, Array.replicate_succ, Array.replicate_zero, List.push_toArray, List.append_toArray, List.nil_append, List.cons_append]
  gi_wp2_with (refine ⟨trivial, ?_⟩; gi_at_call 24; refine (seats_in v _).mono ?_; rintro e w' ⟨rfl, rfl⟩)
  have bO := Boxed.new (w.alloc (.cells #[v] 26)) 47 (.slice none 0 0)
  have bN := Boxed.new ((w.alloc (.cells #[v] 26)).alloc (.cells #[.slice none 0 0] 47)) 26 v
  rw [World.size_alloc] at bO bN
  rw [World.size_alloc] at bN
  obtain ⟨w0, hw0⟩ : ∃ w0, w0 = ((w.alloc (.cells #[v] 26)).alloc (.cells #[.slice none 0 0] 47)).alloc (.cells #[v] 26) := ⟨_, rfl⟩
  have bO2 := bO.alloc (.cells #[v] 26)
  have hB0 : Below w.heap.size w w0 := by rw [hw0]; exact (((Below.refl _ w).alloc (Nat.le_refl _) _).alloc (by simp) _).alloc (by simp; omega) _
  have hs0 : w0.heap.size = w.heap.size + 3 := by rw [hw0]; simp
  rw [← hw0] at bN bO2
  rw [← hw0]
  clear hw0
  refine wpIn_rangeFunc_ownG (w0 := w0) rfl (by omega) (gf := 28) (lb := #[.pointer (some ⟨w.heap.size + 1 + 1, 0, none⟩)]) rfl trivial (enters_of Try.func28 (by kernel_rfl) rfl)
    (encs := stX) (Kp := KpS w.heap.size) (S := fun ys => vals ys = sts L) (Sp := fun (pre : List SeatX) => vals pre <+: sts L) (N := (sts L).length)
    (fun l J Jx W hW hJ _ hY h0 => seats1_in l (w.heap.size + 1 + 1) w.heap.size L v J Jx W hJ (by have := hW.size; omega) hY (bN.kept (grown_below hW none) (by simp)) (fun W' hW' => hv.below (hB0.trans ((hW.mono (by omega)).trans hW'))) hL h0)
    KpS.t (KpS.b (by rw [hs0]; omega)) (Below.refl _ _) (fun _ => rfl)
    (fun (pre : List SeatX) W => (∃ v, Boxed W (w.heap.size + 1) 47 v ∧ W.ownsRow w.heap.size 3 1 v pre.length (pre.map fun x => .int .i64 x.1.1) ∧ True) ∧ Below w.heap.size w W)
    (fun _ _ _ => False)
    (OwnFrom.and (Own.from (holdsRow_own w.heap.size (w.heap.size + 1) 47 3 1 (fun (pre : List SeatX) => pre.length) (fun pre => pre.map fun x => .int .i64 x.1.1) (fun pre v => True)) _) (ownFrom_below (Nat.le_refl _) (by rw [hs0]; omega)))
    (fun _ _ _ _ _ hs _ _ => hs)
    ⟨⟨_, bO2, World.ownsRow_nil _ _ _ _, trivial⟩, hB0⟩
    (fun x => { tmps := #[.agg #[v], .pointer (some ⟨w.heap.size, 0, none⟩), .pointer (some ⟨w.heap.size + 1, 0, none⟩), .int .i64 x.1.1, .agg #[v], .func (.func 28) #[] #[.pointer (some ⟨w.heap.size + 1 + 1, 0, none⟩)], .int .i64 x.1.1, .int .i64 x.1.2, undef, undef, undef, undef, undef], defers := [] }) ?assign ?body ?done ?stop
  case assign =>
    intro l x W K hK
    dsimp only [stX]
    gi_wp2
    exact hK
  case body =>
    rintro l pre x W ⟨⟨v1, hv1, hrow, _⟩, hB⟩ hlt
    have hc := hv1.cell
    have hpl := sts_len L
    have hnew := World.news_of_block (cs := #[Value.int .i64 x.1.1]) (t := 3) (fr := (0, 0)) (heap_alloc_new W _)
    gi_wp2_with (gi_at_builtin; go_loud (refine wpListIn_append_own _ rfl _ _ 47 rfl w.heap.size 3 i0 (.int .i64 0) 1 8 Try.underlying47 hi hz0 hz1 hz2 rfl (by decide) _ _ _ rfl (hrow.alloc _) ⟨W.heap.size, 0, none⟩ 1 1 [.int .i64 x.1.1] rfl rfl hnew (by simp [Value.oneCell']) (by simp only [maxLen]; omega) (by omega) (by have := hB.size; simp; omega) ?_); intro v' w1 hown' hgrow _; obtain ⟨g', cap', rfl⟩ := ownsRow_succ hown'; obtain ⟨hq1, hq2, hr2, hk2, hb2⟩ := hv1.appended (by decide) hrow hB.size (by omega) hown' hgrow; have hc1 := hq1.cell; have hf1 := hq1.frozen)
    exact ⟨hk2.from _, KpS.appended hb2 hgrow hrow (by decide) (by decide) hv1 (by decide) (by decide), ⟨_, hq2, by rw [List.map_append, List.length_append]; exact hr2⟩, hB.trans hb2⟩
  case done =>
    rintro D ys W hD hys ⟨⟨v1, hv1, hrow, _⟩, hB⟩ hK
    have e1 : ys.length = (sts L).length := by rw [← hys]; simp [vals]
    have e2 : (ys.map fun x => Value.int .i64 x.1.1) = (sts L).map fun x => Value.int .i64 x.1 := by rw [← hys]; simp [vals]
    rw [e1, e2] at hrow
    clear e1 e2 hys
    have hc := hv1.cell
    have hf := hv1.frozen
    obtain ⟨A, c, rfl⟩ := own_opn' hrow
    gi_wp2
    have hK2 := (KeepsOthers.setCell W ⟨w.heap.size + 1, 0, none⟩ (.slice A (sts L).length c)).same D _ hK rfl
    refine ⟨by simp, .inl ⟨_, _, rfl, run_takeDeferred hK2, ?_⟩⟩
    have hb2 := hv1.set (.slice A (sts L).length c)
    have hcell := cell_kept hb2.cell (grownBy_putObj' _ D (.deferred none)) (fun r e => by cases e; exact ⟨_, hK2, rfl⟩)
    exact ⟨_, by simp [results, Try.results14, go_sem, hcell], _, rfl, ownsRow_putObj (hrow.kept (grownBy_setCell' W _ _) (.inr (hv1.not_row (by decide) hrow).symm)) _ hK2 rfl, (hB.setCell (p := ⟨w.heap.size + 1, 0, none⟩) (by simp) _).trans (belowK_b (w := w) (Nat.le_refl _) _ D _ _ (by rw [hs0] at hD; omega) hK2 rfl rfl)⟩
  case stop =>
    rintro D c pre W _ _ h _
    exact h.elim

/-- The class of a seat. -/
def clsS (L : List HRow) (s : Int) : Int := match (sts L).find? (fun x => x.1 == s) with | some x => x.2 | none => -1
def hasS (L : List HRow) (s : Int) : Bool := (sts L).any (fun x => x.1 == s)
theorem find_pre {α : Type} {p : α → Bool} {pre l : List α} {x : α} (h : pre ++ [x] <+: l) (hp : ∀ y ∈ pre, p y = false) (hx : p x = true) : l.find? p = some x := by
  obtain ⟨r, rfl⟩ := h
  rw [List.append_assoc, List.find?_append, List.find?_eq_none.2 (fun y hy => by rw [hp y hy]; decide)]
  simp [hx]
theorem clsS_yes {L : List HRow} {s : Int} {pre : List (Int × Int)} {x : Int × Int} (h : pre ++ [x] <+: sts L) (hp : ∀ y ∈ pre, (y.1 == s) = false) (hx : (x.1 == s) = true) : clsS L s = x.2 := by
  unfold clsS
  rw [find_pre (p := fun x => x.1 == s) h hp hx]
theorem clsS_no {L : List HRow} {s : Int} (hp : ∀ y ∈ sts L, (y.1 == s) = false) : clsS L s = -1 := by
  unfold clsS
  rw [List.find?_eq_none.2 (fun y hy => by rw [hp y hy]; decide)]
theorem hasS_yes {L : List HRow} {s : Int} {pre : List (Int × Int)} {x : Int × Int} (h : pre ++ [x] <+: sts L) (hx : (x.1 == s) = true) : hasS L s = true := by
  unfold hasS
  rw [List.any_eq_true]
  exact ⟨x, h.subset (by simp), hx⟩
theorem hasS_no {L : List HRow} {s : Int} (hp : ∀ y ∈ sts L, (y.1 == s) = false) : hasS L s = false := by
  unfold hasS
  rw [List.any_eq_false]
  intro y hy
  rw [hp y hy]
  decide

set_option maxRecDepth 100000 in
set_option maxHeartbeats 2000000 in
theorem class_any (v : Value) (L : List HRow) (s : Int) (w : World) (hv : RdH w v L) (hL : L.length ≤ 140737488355328) : Calls Try.prog 16 #[.agg #[v], .int .i64 s] w fun e w' => e = .returned (.int .i64 (clsS L s)) ∧ Below w.heap.size w w' := by
  refine callsIn_wide (n := 3) |>.1 ?_
  refine callsIn_of_wp_marks Try.func16 rfl trivial ?_ rfl
  simp only [Try.ntmps16, List.size_toArray, List.length_cons, List.length_nil, Nat.reduceAdd, Nat.reduceSub, Array.replicate_succ, Array.replicate_zero, List.push_toArray, List.append_toArray, List.nil_append, List.cons_append]
  gi_wp2_with (refine ⟨trivial, ?_⟩; gi_at_call 24; refine (seats_in v _).mono ?_; rintro e w' ⟨rfl, rfl⟩)
  have bS := Boxed.new (w.alloc (.cells #[v] 26)) 3 (.int .i64 s)
  have bO := Boxed.new ((w.alloc (.cells #[v] 26)).alloc (.cells #[.int .i64 s] 3)) 3 (.int .i64 0)
  have bN := Boxed.new (((w.alloc (.cells #[v] 26)).alloc (.cells #[.int .i64 s] 3)).alloc (.cells #[.int .i64 0] 3)) 26 v
  simp only [World.size_alloc] at bS bO bN
  have bS2 := (bS.alloc (.cells #[.int .i64 0] 3)).alloc (.cells #[v] 26)
  have bO2 := bO.alloc (.cells #[v] 26)
  obtain ⟨w0, hw0⟩ : ∃ w0, w0 = (((w.alloc (.cells #[v] 26)).alloc (.cells #[.int .i64 s] 3)).alloc (.cells #[.int .i64 0] 3)).alloc (.cells #[v] 26) := ⟨_, rfl⟩
  have hB0 : Below w.heap.size w w0 := by rw [hw0]; exact ((((Below.refl _ w).alloc (Nat.le_refl _) _).alloc (by simp) _).alloc (by simp; omega) _).alloc (by simp; omega) _
  have hs0 : w0.heap.size = w.heap.size + 4 := by rw [hw0]; simp
  rw [← hw0] at bN bO2 bS2
  rw [← hw0]
  clear hw0 bS bO
  refine wpIn_rangeFunc_ownG (w0 := w0) rfl (by omega) (gf := 28) (lb := #[.pointer (some ⟨w.heap.size + 1 + 1 + 1, 0, none⟩)]) rfl trivial (enters_of Try.func28 (by kernel_rfl) rfl)
    (encs := stX) (Kp := KpS w.heap.size) (S := fun ys => vals ys = sts L) (Sp := fun (pre : List SeatX) => vals pre <+: sts L) (N := (sts L).length)
    (fun l J Jx W hW hJ _ hY h0 => seats1_in l (w.heap.size + 1 + 1 + 1) w.heap.size L v J Jx W hJ (by have := hW.size; omega) hY (bN.kept (grown_below hW none) (by simp)) (fun W' hW' => hv.below (hB0.trans ((hW.mono (by omega)).trans hW'))) hL h0)
    KpS.t (KpS.b (by rw [hs0]; omega)) (Below.refl _ _) (fun _ => rfl)
    (fun (pre : List SeatX) W => ((Boxed W (w.heap.size + 1) 3 (.int .i64 s) ∧ Boxed W (w.heap.size + 1 + 1) 3 (.int .i64 0)) ∧ ∀ y ∈ vals pre, (y.1 == s) = false) ∧ Below w.heap.size w W)
    (fun c (pre : List SeatX) W => (∃ q x, c = .ret ∧ vals pre = q ++ [x] ∧ (∀ y ∈ q, (y.1 == s) = false) ∧ (x.1 == s) = true ∧ Boxed W (w.heap.size + 1 + 1) 3 (.int .i64 x.2)) ∧ Below w.heap.size w W)
    (OwnFrom.and (OwnFrom.and (OwnFrom.and (Own.from (boxed_own _ _ (fun _ => .int .i64 s)) _) (Own.from (boxed_own _ _ (fun _ => .int .i64 0)) _)) (ownFrom_pure _ _)) (ownFrom_below (Nat.le_refl _) (by rw [hs0]; omega)))
    (fun c => OwnFrom.and (fun st A B row hs hg hr => by
      obtain ⟨q, x, h1, h2, h3, h4, h5⟩ := hs
      exact ⟨q, x, h1, h2, h3, h4, (Own.from (boxed_own (w.heap.size + 1 + 1) 3 (fun (_ : Unit) => .int .i64 x.2)) _) () A B row h5 hg hr⟩) (ownFrom_below (Nat.le_refl _) (by rw [hs0]; omega)))
    ⟨⟨⟨bS2, bO2⟩, fun y hy => by cases hy⟩, hB0⟩
    (fun x => { tmps := #[.agg #[v], .int .i64 s, .pointer (some ⟨w.heap.size, 0, none⟩), .pointer (some ⟨w.heap.size + 1, 0, none⟩), .pointer (some ⟨w.heap.size + 1 + 1, 0, none⟩), .int .i64 x.1.1, .int .i64 x.1.2, .agg #[v], .func (.func 28) #[] #[.pointer (some ⟨w.heap.size + 1 + 1 + 1, 0, none⟩)], .int .i64 x.1.1, .int .i64 x.1.2, undef, undef, undef, undef], defers := [] }) ?assign ?body ?done ?stop
  case assign =>
    intro l x W K hK
    dsimp only [stX]
    gi_wp2
    exact hK
  case body =>
    rintro l pre x W ⟨⟨⟨hbs, hbo⟩, hno⟩, hB⟩ hlt
    have hc := hbs.cell
    have hc2 := hbo.cell
    have hf2 := hbo.frozen
    have HNO := Lib.hid hno
    clear hno
    cases hx : (x.1.1 == s) with
    | true =>
      have HX := Lib.hid hx
      gi_wp2
      exact ⟨(KeepsOthers.setCell _ _ _).from _, ⟨vals pre, x.1, rfl, vals_snoc _ _, HNO.out, HX.out, hbo.set _⟩, hB.setCell (p := ⟨w.heap.size + 1 + 1, 0, none⟩) (by simp; omega) _⟩
    | false =>
      have HX := Lib.hid hx
      gi_wp2
      exact ⟨(KeepsOthers.refl _).from _, KpS.refl _ _, ⟨⟨⟨hbs, hbo⟩, fun y hy => by
        rw [vals_snoc] at hy
        rcases List.mem_append.1 hy with hy | hy
        · exact HNO.out y hy
        · rw [List.mem_singleton] at hy
          rw [hy]
          exact HX.out⟩, hB⟩⟩
  case done =>
    rintro D ys W hD hys ⟨⟨⟨hbs, hbo⟩, hno⟩, hB⟩ hK
    have hc := hbo.cell
    have hf := hbo.frozen
    have HC := Lib.hid (clsS_no (hys ▸ hno))
    clear hno hys
    gi_wp2
    have hK2 := (KeepsOthers.setCell W ⟨w.heap.size + 1 + 1, 0, none⟩ (.int .i64 (-1))).same D _ hK rfl
    refine ⟨by simp, .inl ⟨_, _, rfl, run_takeDeferred hK2, ?_⟩⟩
    have hb2 := hbo.set (.int .i64 (-1))
    have hcell := cell_kept hb2.cell (grownBy_putObj' _ D (.deferred none)) (fun r e => by cases e; exact ⟨_, hK2, rfl⟩)
    exact ⟨_, by simp [results, Try.results16, go_sem, hcell]; rfl, by rw [HC.out], (hB.setCell (p := ⟨w.heap.size + 1 + 1, 0, none⟩) (by simp; omega) _).trans (belowK_b (w := w) (Nat.le_refl _) _ D _ _ (by rw [hs0] at hD; omega) hK2 rfl rfl)⟩
  case stop =>
    rintro D c pre W hD hpre ⟨⟨q, x, rfl, he, hq, hx, hbo⟩, hB⟩ hK
    rw [he] at hpre
    clear he
    have hc := hbo.cell
    have HC := Lib.hid (clsS_yes hpre hq hx)
    clear hq hx hpre
    gi_wp2
    refine ⟨by simp, .inl ⟨_, _, rfl, run_takeDeferred hK, ?_⟩⟩
    have hcell := cell_kept hbo.cell (grownBy_putObj' _ D (.deferred none)) (fun r e => by cases e; exact ⟨_, hK, rfl⟩)
    exact ⟨_, by simp [results, Try.results16, go_sem, hcell]; rfl, by rw [HC.out], hB.trans (belowK_b (w := w) (Nat.le_refl _) _ D _ _ (by rw [hs0] at hD; omega) hK rfl rfl)⟩
end Go.Proofs.Ytpbfabcihoiiiaa
