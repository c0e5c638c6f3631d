/- hall.Runs. -/
import Derived.Test.YtpbfabcihoiiiaaHl7
import Derived.Shelf.RegionOpen
import Derived.RangeFuncCalls
import Derived.IntWalk
namespace Go.Proofs.Ytpbfabcihoiiiaa
open Go.RowKit Go.Shelf
attribute [local go_sem] Oper.semAt_some
set_option linter.unusedVariables false
set_option linter.unusedSimpArgs false

/-- The runs so far, and the last seat that is in one. -/
abbrev RnS := List (Int × Int) × Int
/-- The last run has one more. -/
def bump : List (Int × Int) → List (Int × Int)
  | [] => []
  | [r] => [(r.1, r.2 + 1)]
  | r :: q :: l => r :: bump (q :: l)
def joinB (st : RnS) (s : Int) : Bool := decide (0 < st.1.length) && (s == st.2 + 1 && decide (0 < s % 8))
def rnStep (cl : Int) (tk : Nat → Bool) (st : RnS) (x : Int × Int) : RnS :=
  if (x.2 != cl || tk x.1.toNat) = true then st else if joinB st x.1 = true then (bump st.1, x.1) else (st.1 ++ [(x.1, 1)], x.1)
def rnF (cl : Int) (tk : Nat → Bool) (l : List (Int × Int)) : RnS := l.foldl (rnStep cl tk) ([], -1)
theorem rnF_snoc (cl : Int) (tk : Nat → Bool) (l : List (Int × Int)) (x : Int × Int) : rnF cl tk (l ++ [x]) = rnStep cl tk (rnF cl tk l) x := by simp [rnF]
theorem bump_len : ∀ l, (bump l).length = l.length
  | [] => rfl
  | [r] => rfl
  | r :: q :: l => by rw [bump, List.length_cons, bump_len (q :: l)]; rfl
theorem bump_snoc (r : Int × Int) : ∀ l, bump (l ++ [r]) = l ++ [(r.1, r.2 + 1)]
  | [] => rfl
  | [q] => rfl
  | q :: p :: l => by
    have := bump_snoc r (p :: l)
    rw [List.cons_append, List.cons_append, bump, ← List.cons_append, this]
    rfl
theorem snoc_ind {α : Type} {P : List α → Prop} (h0 : P []) (hs : ∀ l x, P l → P (l ++ [x])) (l : List α) : P l := by
  have : ∀ n, ∀ l : List α, l.length = n → P l := by
    intro n
    induction n with
    | zero => intro l hl; obtain rfl := List.eq_nil_of_length_eq_zero hl; exact h0
    | succ n ih =>
      intro l hl
      have hne : l ≠ [] := by intro e; rw [e] at hl; simp at hl
      have e := List.dropLast_concat_getLast hne
      rw [← e]
      exact hs _ _ (ih _ (by rw [List.length_dropLast, hl]; rfl))
  exact this _ l rfl
/-- What holds of the runs so far: how many they are, what the last seat is, how long they are. -/
structure RnI (st : RnS) (n : Nat) : Prop where
  len : st.1.length ≤ n
  lo : -1 ≤ st.2
  hi : st.2 < 64
  cnt : ∀ r ∈ st.1, 1 ≤ r.2 ∧ r.2 ≤ n
theorem rnI (cl : Int) (tk : Nat → Bool) (l : List SeatX) : RnI (rnF cl tk (vals l)) l.length := by
  induction l using snoc_ind with
  | h0 => exact ⟨Nat.le_refl _, (show (-1 : Int) ≤ -1 by decide), (show (-1 : Int) < 64 by decide), fun r h => by cases h⟩
  | hs l x ih =>
    rw [vals_snoc, rnF_snoc, List.length_append]
    obtain ⟨h1, h2, h3, h4⟩ := ih
    have hx := x.2
    unfold rnStep
    split
    · exact ⟨by simp; omega, h2, h3, fun r hr => by have := h4 r hr; simp; omega⟩
    · split
      · refine ⟨by rw [bump_len]; simp; omega, by dsimp only; omega, hx.2, fun r hr => ?_⟩
        rcases List.eq_nil_or_concat (rnF cl tk (vals l)).1 with e | ⟨q, y, e⟩
        · rw [e] at hr; simp [bump] at hr
        · rw [e] at hr h4
          rw [List.concat_eq_append] at hr h4
          rw [bump_snoc] at hr
          rcases List.mem_append.1 hr with hr | hr
          · have := h4 r (List.mem_append_left _ hr); simp; omega
          · rw [List.mem_singleton] at hr
            have := h4 y (by simp)
            rw [hr]
            simp
            omega
      · refine ⟨by simp; omega, by dsimp only; omega, hx.2, fun r hr => ?_⟩
        rcases List.mem_append.1 hr with hr | hr
        · have := h4 r hr; simp; omega
        · rw [List.mem_singleton] at hr
          rw [hr]
          simp
          omega
/-- Sixty-four bools. -/
def tkA (T : Nat → Bool) : Array Value := #[.bool (T 0), .bool (T 1), .bool (T 2), .bool (T 3), .bool (T 4), .bool (T 5), .bool (T 6), .bool (T 7), .bool (T 8), .bool (T 9), .bool (T 10), .bool (T 11), .bool (T 12), .bool (T 13), .bool (T 14), .bool (T 15), .bool (T 16), .bool (T 17), .bool (T 18), .bool (T 19), .bool (T 20), .bool (T 21), .bool (T 22), .bool (T 23), .bool (T 24), .bool (T 25), .bool (T 26), .bool (T 27), .bool (T 28), .bool (T 29), .bool (T 30), .bool (T 31), .bool (T 32), .bool (T 33), .bool (T 34), .bool (T 35), .bool (T 36), .bool (T 37), .bool (T 38), .bool (T 39), .bool (T 40), .bool (T 41), .bool (T 42), .bool (T 43), .bool (T 44), .bool (T 45), .bool (T 46), .bool (T 47), .bool (T 48), .bool (T 49), .bool (T 50), .bool (T 51), .bool (T 52), .bool (T 53), .bool (T 54), .bool (T 55), .bool (T 56), .bool (T 57), .bool (T 58), .bool (T 59), .bool (T 60), .bool (T 61), .bool (T 62), .bool (T 63)]
def tkV (T : Nat → Bool) : Value := .agg (tkA T)
theorem tkA_at (T : Nat → Bool) : ∀ j, j < 64 → (tkA T)[j]? = some (.bool (T j)) := by
  intro j hj
  match j, hj with
  | 0, _ => rfl
  | 1, _ => rfl
  | 2, _ => rfl
  | 3, _ => rfl
  | 4, _ => rfl
  | 5, _ => rfl
  | 6, _ => rfl
  | 7, _ => rfl
  | 8, _ => rfl
  | 9, _ => rfl
  | 10, _ => rfl
  | 11, _ => rfl
  | 12, _ => rfl
  | 13, _ => rfl
  | 14, _ => rfl
  | 15, _ => rfl
  | 16, _ => rfl
  | 17, _ => rfl
  | 18, _ => rfl
  | 19, _ => rfl
  | 20, _ => rfl
  | 21, _ => rfl
  | 22, _ => rfl
  | 23, _ => rfl
  | 24, _ => rfl
  | 25, _ => rfl
  | 26, _ => rfl
  | 27, _ => rfl
  | 28, _ => rfl
  | 29, _ => rfl
  | 30, _ => rfl
  | 31, _ => rfl
  | 32, _ => rfl
  | 33, _ => rfl
  | 34, _ => rfl
  | 35, _ => rfl
  | 36, _ => rfl
  | 37, _ => rfl
  | 38, _ => rfl
  | 39, _ => rfl
  | 40, _ => rfl
  | 41, _ => rfl
  | 42, _ => rfl
  | 43, _ => rfl
  | 44, _ => rfl
  | 45, _ => rfl
  | 46, _ => rfl
  | 47, _ => rfl
  | 48, _ => rfl
  | 49, _ => rfl
  | 50, _ => rfl
  | 51, _ => rfl
  | 52, _ => rfl
  | 53, _ => rfl
  | 54, _ => rfl
  | 55, _ => rfl
  | 56, _ => rfl
  | 57, _ => rfl
  | 58, _ => rfl
  | 59, _ => rfl
  | 60, _ => rfl
  | 61, _ => rfl
  | 62, _ => rfl
  | 63, _ => rfl
  | j + 64, h => omega
theorem tkV_cells (T : Nat → Bool) : (tkV T).cells = tkA T := by kernel_rfl
def runC (x : Int × Int) : List Value := [.int .i64 x.1, .int .i64 x.2]
theorem info_run : (Try.prog.info? 46).map (fun i => (i.zero, i.size, i.bytes)) = some (some (.agg #[.int .i64 0, .int .i64 0]), 2, 16) := by kernel_rfl
theorem row_own {β : Type} (B : Nat) (t : TypeId) (f : β → Array Value) : Own (fun s W => W.heap[B]? = some (.cells (f s) t (0, 0))) := fun s X Y row hs hg hrow =>
  row_kept hs hg (fun e' => by obtain ⟨o, ho, hc⟩ := hrow B e'.symm; rw [hs] at ho; cases ho; cases hc)
theorem step_skip {cl : Int} {tk : Nat → Bool} {st : RnS} {x : Int × Int} (h : (x.2 != cl || tk x.1.toNat) = true) : rnStep cl tk st x = st := by unfold rnStep; rw [if_pos h]
theorem step_new {cl : Int} {tk : Nat → Bool} {st : RnS} {x : Int × Int} (h : (x.2 != cl || tk x.1.toNat) = false) (hj : joinB st x.1 = false) : rnStep cl tk st x = (st.1 ++ [(x.1, 1)], x.1) := by unfold rnStep; rw [if_neg (by rw [h]; decide), if_neg (by rw [hj]; decide)]
theorem step_join {cl : Int} {tk : Nat → Bool} {st : RnS} {x : Int × Int} (h : (x.2 != cl || tk x.1.toNat) = false) (hj : joinB st x.1 = true) : rnStep cl tk st x = (bump st.1, x.1) := by unfold rnStep; rw [if_neg (by rw [h]; decide), if_pos hj]
theorem KpS.cellset {n₀ : Nat} {A : World} {a : Addr} {u v : Value} {base size k : Nat} {e : TypeId} {xs : List Value} (hn : n₀ ≤ a.block) (hrow : A.ownsRow base e size v k xs) (hb : v.ownBlock = some a.block) (h1 : 26 ≠ e) (h2 : 29 ≠ e) : KpS n₀ A (A.setCell a u) := by
  refine ⟨(Below.refl n₀ A).setCell (p := a) hn _, fun T hT b cs hb' => row_kept hb' (grown_set A a u) ?_⟩
  rw [← hb]
  exact row_not hb' (by rcases hT with rfl | rfl <;> assumption) hrow
theorem flat_set (x : Int × Int) (u : Int) : ∀ l : List (Int × Int), ((l ++ [x]).flatMap runC).set (l.length * 2 + 1) (.int .i64 u) = (l ++ [(x.1, u)]).flatMap runC
  | [] => rfl
  | y :: l => by
    have h := flat_set x u l
    rw [List.cons_append, List.flatMap_cons, List.cons_append, List.flatMap_cons, ← h, List.length_cons]
    show (runC y ++ _).set ((l.length + 1) * 2 + 1) _ = _
    rw [List.set_append_right _ _ (by show 2 ≤ _; omega)]
    congr 2
    show (l.length + 1) * 2 + 1 - 2 = _
    omega
/-- What lies in memory between two rounds. -/
def InvS (cl : Int) (T : Nat → Bool) (w : World) (pre : List SeatX) (W : World) : Prop :=
  ((((∃ v, Boxed W (w.heap.size + 1 + 1 + 1) 44 v ∧ W.ownsRow w.heap.size 46 2 v (rnF cl T (vals pre)).1.length ((rnF cl T (vals pre)).1.flatMap runC) ∧ True) ∧ Boxed W (w.heap.size + 1 + 1 + 1 + 1) 3 (.int .i64 (rnF cl T (vals pre)).2)) ∧ Boxed W (w.heap.size + 1) 3 (.int .i64 cl)) ∧ W.heap[w.heap.size + 1 + 1]? = some (.cells (tkA T) 41 (0, 0))) ∧ Below w.heap.size w W
theorem invS_own (cl : Int) (T : Nat → Bool) (w : World) (B : Nat) (hB : w.heap.size ≤ B) : OwnFrom B (InvS cl T w) :=
  OwnFrom.and (OwnFrom.and (OwnFrom.and (OwnFrom.and (Own.from (holdsRow_own w.heap.size (w.heap.size + 1 + 1 + 1) 44 46 2 (fun (pre : List SeatX) => (rnF cl T (vals pre)).1.length) (fun pre => (rnF cl T (vals pre)).1.flatMap runC) (fun pre v => True)) _) (Own.from (boxed_own _ _ (fun (pre : List SeatX) => .int .i64 (rnF cl T (vals pre)).2)) _)) (Own.from (boxed_own _ _ (fun _ => .int .i64 cl)) _)) (Own.from (row_own _ _ (fun _ => tkA T)) _)) (ownFrom_below (Nat.le_refl _) hB)
/-- Nothing has been written. -/
theorem InvS.skip {cl : Int} {T : Nat → Bool} {w : World} {pre : List SeatX} {x : SeatX} {W : World} (h : InvS cl T w pre W) (hx : (x.1.2 != cl || T x.1.1.toNat) = true) : InvS cl T w (pre ++ [x]) W := by
  have e : rnF cl T (vals (pre ++ [x])) = rnF cl T (vals pre) := by rw [vals_snoc, rnF_snoc, step_skip hx]
  unfold InvS
  rw [e]
  exact h

set_option maxRecDepth 100000 in
set_option maxHeartbeats 4000000 in
theorem runs_any (v : Value) (L : List HRow) (cl : Int) (T : Nat → Bool) (w : World) (hv : RdH w v L) (hL : L.length ≤ 140737488355328) : Calls Try.prog 13 #[.agg #[v], .int .i64 cl, tkV T] w fun e w' => ∃ v', e = .returned v' ∧ w'.ownsRow w.heap.size 46 2 v' (rnF cl T (sts L)).1.length ((rnF cl T (sts L)).1.flatMap runC) ∧ Below w.heap.size w w' := by
  obtain ⟨i0, hi, hz0, hz1, hz2⟩ := info_parts info_run
  refine callsIn_wide (n := 3) |>.1 ?_
  refine callsIn_of_wp_marks Try.func13 rfl trivial ?_ rfl
  simp only [Try.ntmps13, List.size_toArray, List.length_cons, List.length_nil, Nat.reduceAdd, Nat.reduceSub, Array.replicate_succ, Array.replicate_zero, List.push_toArray, List.append_toArray, List.nil_append, List.cons_append]
  gi_wp2_with (refine ⟨trivial, ?_⟩; gi_at_call 24; refine (seats_in v _).mono ?_; rintro e w' ⟨rfl, rfl⟩)
  rename_i cs hce
  have hcs : cs = tkA T := by unfold tkV at hce; injection hce with q; exact q.symm
  subst hcs
  clear hce
  have b1 := Boxed.new (w.alloc (.cells #[v] 26)) 3 (.int .i64 cl)
  have b2 := heap_alloc_new ((w.alloc (.cells #[v] 26)).alloc (.cells #[.int .i64 cl] 3)) (.cells (tkA T) 41)
  have b3 := Boxed.new (((w.alloc (.cells #[v] 26)).alloc (.cells #[.int .i64 cl] 3)).alloc (.cells (tkA T) 41)) 44 (.slice none 0 0)
  have b4 := Boxed.new ((((w.alloc (.cells #[v] 26)).alloc (.cells #[.int .i64 cl] 3)).alloc (.cells (tkA T) 41)).alloc (.cells #[.slice none 0 0] 44)) 3 (.int .i64 (-1))
  have bN := Boxed.new (((((w.alloc (.cells #[v] 26)).alloc (.cells #[.int .i64 cl] 3)).alloc (.cells (tkA T) 41)).alloc (.cells #[.slice none 0 0] 44)).alloc (.cells #[.int .i64 (-1)] 3)) 26 v
  simp only [World.size_alloc] at b1 b2 b3 b4 bN
  have c1 := (((b1.alloc (.cells (tkA T) 41)).alloc (.cells #[.slice none 0 0] 44)).alloc (.cells #[.int .i64 (-1)] 3)).alloc (.cells #[v] 26)
  have c2 := row_kept (row_kept (row_kept b2 (World.grownBy_alloc _ (.cells #[.slice none 0 0] 44) none) (by simp)) (World.grownBy_alloc _ (.cells #[.int .i64 (-1)] 3) none) (by simp)) (World.grownBy_alloc _ (.cells #[v] 26) none) (by simp)
  have c3 := (b3.alloc (.cells #[.int .i64 (-1)] 3)).alloc (.cells #[v] 26)
  have c4 := b4.alloc (.cells #[v] 26)
  clear b1 b2 b3 b4
  obtain ⟨w0, hw0⟩ : ∃ w0, w0 = ((((((w.alloc (.cells #[v] 26)).alloc (.cells #[.int .i64 cl] 3)).alloc (.cells (tkA T) 41)).alloc (.cells #[.slice none 0 0] 44)).alloc (.cells #[.int .i64 (-1)] 3)).alloc (.cells #[v] 26)) := ⟨_, rfl⟩
  have hB0 : Below w.heap.size w w0 := by rw [hw0]; exact ((((((Below.refl _ w).alloc (Nat.le_refl _) _).alloc (by simp) _).alloc (by simp; omega) _).alloc (by simp; omega) _).alloc (by simp; omega) _).alloc (by simp; omega) _
  have hs0 : w0.heap.size = w.heap.size + 6 := by rw [hw0]; simp
  rw [← hw0] at bN c1 c2 c3 c4
  rw [← hw0]
  clear hw0
  have hI0 : InvS cl T w [] w0 := ⟨⟨⟨⟨⟨_, c3, World.ownsRow_nil _ _ _ _, trivial⟩, c4⟩, c1⟩, c2⟩, hB0⟩
  clear c1 c2 c3 c4
  refine wpIn_rangeFunc_ownG (w0 := w0) rfl (by omega) (gf := 28) (lb := #[.pointer (some ⟨w.heap.size + 1 + 1 + 1 + 1 + 1, 0, none⟩)]) rfl trivial (enters_of Try.func28 (by kernel_rfl) rfl)
    (encs := stX) (Kp := KpS w.heap.size) (S := fun ys => vals ys = sts L) (Sp := fun (pre : List SeatX) => vals pre <+: sts L) (N := (sts L).length)
    (fun l J Jx W hW hJ _ hY h0 => seats1_in l (w.heap.size + 1 + 1 + 1 + 1 + 1) w.heap.size L v J Jx W hJ (by have := hW.size; omega) hY (bN.kept (grown_below hW none) (by simp)) (fun W' hW' => hv.below (hB0.trans ((hW.mono (by omega)).trans hW'))) hL h0)
    KpS.t (KpS.b (by rw [hs0]; omega)) (Below.refl _ _) (fun _ => rfl)
    (InvS cl T w) (fun _ _ _ => False) (invS_own cl T w _ (by rw [hs0]; omega)) (fun _ _ _ _ _ hs _ _ => hs) hI0
    (fun x => { tmps := #[.agg #[v], .int .i64 cl, tkV T, .pointer (some ⟨w.heap.size, 0, none⟩), .pointer (some ⟨w.heap.size + 1, 0, none⟩), .pointer (some ⟨w.heap.size + 1 + 1, 0, none⟩), .pointer (some ⟨w.heap.size + 1 + 1 + 1, 0, none⟩), .pointer (some ⟨w.heap.size + 1 + 1 + 1 + 1, 0, none⟩), .int .i64 x.1.1, .int .i64 x.1.2, .agg #[v], .func (.func 28) #[] #[.pointer (some ⟨w.heap.size + 1 + 1 + 1 + 1 + 1, 0, none⟩)], .int .i64 x.1.1, .int .i64 x.1.2, undef, undef, undef, undef, undef, undef, undef, undef, undef, undef, undef, undef, undef, undef, undef, undef, undef, undef, undef, undef, undef, undef, undef, undef, undef, undef, undef, undef, undef, undef, undef, undef, undef, undef, undef, undef, undef, undef, undef], defers := [] }) ?assign ?body ?done ?stop
  case assign =>
    intro l x W K hK
    dsimp only [stX]
    gi_wp2
    exact hK
  case body =>
    rintro l pre ⟨⟨x1, x2⟩, hx0, hx1⟩ W hI hlt
    dsimp only at hx0 hx1
    obtain ⟨q, rfl⟩ : ∃ q : Nat, x1 = (q : Int) := ⟨x1.toNat, by omega⟩
    have HI := Lib.hid hI
    have hri := rnI cl T pre
    obtain ⟨⟨⟨⟨⟨v1, hv1, hrow, _⟩, hla⟩, hcb⟩, htk⟩, hB⟩ := hI
    have hc1 := hcb.cell
    have hct : W.cell? ⟨w.heap.size + 1 + 1, q, none⟩ = some (.bool (T q)) := (cell_of_row _ _ q _ _ _ htk).trans (tkA_at T q (by omega))
    by_cases hcl : x2 = cl
    · subst hcl
      cases hT : T q with
      | true =>
        have HS : Hid (InvS x2 T w (pre ++ [⟨((q : Int), x2), hx0, hx1⟩]) W) := HI.out.skip (by simp [hT])
        rw [hT] at hct
        clear hT hri
        gi_wp2
        exact ⟨(KeepsOthers.refl _).from _, KpS.refl _ _, HS.out⟩
      | false =>
        rw [hT] at hct
        have HST := fun h => step_new (cl := x2) (tk := T) (st := rnF x2 T (vals pre)) (x := ((q : Int), x2)) (by simp [hT]) h
        have HSJ := fun h => step_join (cl := x2) (tk := T) (st := rnF x2 T (vals pre)) (x := ((q : Int), x2)) (by simp [hT]) h
        have HSN := rnF_snoc x2 T (vals pre) ((q : Int), x2)
        have hvs : vals (pre ++ [(⟨((q : Int), x2), hx0, hx1⟩ : SeatX)]) = vals pre ++ [((q : Int), x2)] := vals_snoc _ _
        rw [← hvs] at HSN
        clear hvs hT HI
        obtain ⟨⟨R, la⟩, hst⟩ : ∃ st, rnF x2 T (vals pre) = st := ⟨_, rfl⟩
        rw [hst] at hrow hla hri HST HSJ HSN
        obtain ⟨hr1, hr2, hr3, hr4⟩ := hri
        dsimp only at hrow hla HST HSJ HSN hr1 hr2 hr3 hr4
        have hN := sts_len L
        have hcl1 := hv1.cell
        have hcla := hla.cell
        have hfla := hla.frozen
        clear hst
        cases hj : joinB (R, la) (q : Int) with
        | true =>
          have hNew : rnF x2 T (vals (pre ++ [(⟨((q : Int), x2), hx0, hx1⟩ : SeatX)])) = (bump R, (q : Int)) := HSN.trans (HSJ hj)
          unfold joinB at hj
          simp only [Bool.and_eq_true, decide_eq_true_eq, beq_iff_eq] at hj
          obtain ⟨j1, j2, j3⟩ := hj
          have HNEW := Lib.hid hNew
          clear hNew HSN HSJ HST
          rcases own_cells hrow with ⟨_, h0⟩ | ⟨g, c, rfl, hgc, hg, hcell⟩
          · omega
          obtain ⟨R0, r, hR⟩ : ∃ R0 r, R = R0 ++ [r] := by
            rcases List.eq_nil_or_concat R with e | ⟨R0, r, e⟩
            · rw [e] at j1; simp at j1
            · exact ⟨R0, r, by rw [e, List.concat_eq_append]⟩
          have hRl : R.length = R0.length + 1 := by rw [hR]; simp
          have hcnt : W.cell? ⟨g, R0.length * 2 + 1, none⟩ = some (.int .i64 r.2) := by
            refine hcell _ _ ?_
            have f := flat_at runC 2 (fun _ => rfl) 1 (by omega) R R0.length r (by rw [hR]; simp)
            exact f
          have hrb := hr4 r (by rw [hR]; simp)
          have hfr := World.ownsRow.frozenAt hrow (R0.length * 2 + 1)
          obtain ⟨ra, rc⟩ := r
          obtain ⟨n0, hn0⟩ : ∃ n0, R0.length = n0 := ⟨_, rfl⟩
          rw [hn0] at hRl hcnt hfr
          have HHR := Lib.hid hR
          have HRL := Lib.hid hRl
          have HJ2 : ((q : Int) == la + 1) = true := by rw [j2]; simp
          have hj3n : 0 < q % 8 := by omega
          rw [hRl] at hcl1
          dsimp only at hcnt hrb
          have hs1 : ((n0 + 1 : Nat) : Int) - 1 = (n0 : Int) := by omega
          have hn64 : n0 ≤ 64 := by omega
          have HN0 := Lib.hid hn0
          have hgl : g < W.heap.size := World.block_lt_of_cell? _ _ hcnt
          have HFIN : Hid (KeepsFrom w0.heap.size W ((W.setCell ⟨g, n0 * 2 + 1, none⟩ (.int .i64 (rc + 1))).setCell ⟨w.heap.size + 1 + 1 + 1 + 1, 0, none⟩ (.int .i64 (q : Int))).drew ∧ KpS w.heap.size W ((W.setCell ⟨g, n0 * 2 + 1, none⟩ (.int .i64 (rc + 1))).setCell ⟨w.heap.size + 1 + 1 + 1 + 1, 0, none⟩ (.int .i64 (q : Int))).drew ∧ InvS x2 T w (pre ++ [⟨((q : Int), x2), hx0, hx1⟩]) ((W.setCell ⟨g, n0 * 2 + 1, none⟩ (.int .i64 (rc + 1))).setCell ⟨w.heap.size + 1 + 1 + 1 + 1, 0, none⟩ (.int .i64 (q : Int))).drew) := by
            have hgs := grown_set W ⟨g, n0 * 2 + 1, none⟩ (.int .i64 (rc + 1))
            have hla1 := hla.kept hgs (hla.not_row (by decide) hrow)
            have hv11 := hv1.kept hgs (hv1.not_row (by decide) hrow)
            have hcb1 := hcb.kept hgs (hcb.not_row (by decide) hrow)
            have htk1 := row_kept htk hgs (row_not htk (by decide) hrow)
            obtain ⟨hown1, _⟩ := World.ownsRow.stored hrow (n0 * 2 + 1) (.int .i64 (rc + 1))
            have hB1 := hB.setCell (p := ⟨g, n0 * 2 + 1, none⟩) hg (.int .i64 (rc + 1))
            have hi2 : InvS x2 T w (pre ++ [⟨((q : Int), x2), hx0, hx1⟩]) ((W.setCell ⟨g, n0 * 2 + 1, none⟩ (.int .i64 (rc + 1))).setCell ⟨w.heap.size + 1 + 1 + 1 + 1, 0, none⟩ (.int .i64 (q : Int))) := by
              unfold InvS
              rw [HNEW.out, hR, bump_snoc]
              have htk2 := row_kept htk1 (grownBy_setCell' (W.setCell ⟨g, n0 * 2 + 1, none⟩ (.int .i64 (rc + 1))) (w.heap.size + 1 + 1 + 1 + 1) (.int .i64 (q : Int))) (by simp)
              refine ⟨⟨⟨⟨⟨_, hv11.other (by omega) _, ?_, trivial⟩, hla1.set _⟩, hcb1.other (by omega) _⟩, htk2⟩, hB1.setCell (p := ⟨w.heap.size + 1 + 1 + 1 + 1, 0, none⟩) (by simp; omega) _⟩
              have hfs := flat_set (ra, rc) (rc + 1) R0
              rw [hn0, ← hR] at hfs
              rw [hfs] at hown1
              have hl2 : (R0 ++ [(ra, rc + 1)]).length = R.length := by rw [hR]; simp
              rw [hl2]
              exact (hown1.kept (grownBy_setCell' _ _ _) (.inr (hla1.not_row (by decide) hown1).symm))
            exact ⟨(((KeepsOthers.setCell _ _ _).trans (KeepsOthers.setCell _ _ _)).trans (KeepsOthers.drew _)).from _, ((KpS.cellset (a := ⟨g, n0 * 2 + 1, none⟩) (u := .int .i64 (rc + 1)) hg hrow rfl (by decide) (by decide)).t (KpS.set (by omega) hla1 (by decide) (by decide))).t (KpS.of_below (by simp [World.setCell]; have := hB.size; omega) ((Below.refl _ _).drew)), ⟨hi2.1, hi2.2.drew⟩⟩
          clear hR hRl j2 j1 hr4 hcell hr1 hn0 hgl
          gi_wp2
          have hmix : Try.prog.follows .mixedOrders = true := by kernel_rfl
          have z1 : IntKind.i64.wrap (n0 : Int) = (n0 : Int) := IntWalk.i64_in _ (by omega)
          have z2 : IntKind.i64.wrap (rc + 1) = rc + 1 := IntWalk.i64_in _ (by omega)
          have z3 : (0 : Int) ≤ (n0 : Int) := by omega
          have z4 : (n0 : Int) < ((n0 + 1 : Nat) : Int) := by omega
          have z5 : n0 < n0 + 1 := by omega
          have z6 : (n0 : Int) ≤ 64 := by omega
          gi_region_with_o (fail)
          all_goals gi_wp2
          all_goals exact HFIN.out
        | false =>
          have hNew : rnF x2 T (vals (pre ++ [(⟨((q : Int), x2), hx0, hx1⟩ : SeatX)])) = (R ++ [((q : Int), 1)], (q : Int)) := HSN.trans (HST hj)
          have HNEW := Lib.hid hNew
          have HJ := Lib.hid hj
          clear hNew HSN HSJ HST hj
          obtain ⟨A, c, rfl⟩ := own_opn' hrow
          have hnew := World.news_of_block (cs := #[Value.int .i64 (q : Int), Value.int .i64 1]) (t := 46) (fr := (0, 0)) (heap_alloc_new W _)
          have hways : R.length = 0 ∨ (0 < R.length ∧ ((q : Int) == la + 1) = false) ∨ (0 < R.length ∧ (q : Int) = la + 1 ∧ ¬ 0 < (q : Int) % 8) := by
            have := HJ.out
            unfold joinB at this
            simp only [Bool.and_eq_false_iff, decide_eq_false_iff_not, beq_eq_false_iff_ne] at this
            by_cases h0 : R.length = 0
            · exact .inl h0
            · rcases this with h | h | h
              · omega
              · exact .inr (.inl ⟨by omega, beq_eq_false_iff_ne.2 h⟩)
              · by_cases h1 : (q : Int) = la + 1
                · exact .inr (.inr ⟨by omega, h1, h⟩)
                · exact .inr (.inl ⟨by omega, beq_eq_false_iff_ne.2 h1⟩)
          have hKP : ∀ (w1 : World) (v' : Value), Below w.heap.size W (w1.setCell ⟨w.heap.size + 1 + 1 + 1, 0, none⟩ v') → (W.alloc (.cells #[.int .i64 (q : Int), .int .i64 1] 46)).grownBy w1 (Value.slice A R.length c).ownBlock → KpS w.heap.size W (w1.setCell ⟨w.heap.size + 1 + 1 + 1, 0, none⟩ v') := fun w1 v' hb hg => KpS.appended hb hg hrow (by decide) (by decide) hv1 (by decide) (by decide)
          rcases hways with hw | ⟨hw1, hw2⟩ | ⟨hw1, hw2, hw3⟩
          case' inl => have hwf : (0 < R.length) = False := eq_false (by omega)
          case' inr.inr =>
            have hw2b : ((q : Int) == la + 1) = true := by rw [hw2]; simp
            have hw3n : ¬ 0 < q % 8 := by omega
          case' inl => clear hw
          case' inr.inr => clear hw2
          all_goals
            gi_wp2_with (gi_at_builtin; go_loud (refine wpListIn_append_own _ rfl _ _ 44 rfl w.heap.size 46 i0 (.agg #[.int .i64 0, .int .i64 0]) 2 16 Try.underlying44 hi hz0 hz1 hz2 rfl (by decide) _ _ _ rfl (hrow.alloc _) ⟨W.heap.size, 0, none⟩ 1 1 [.int .i64 (q : Int), .int .i64 1] rfl rfl hnew (by simp [Value.oneCell']) (by simp only [maxLen]; omega) (by omega) (by have := hB.size; simp; omega) ?_); intro v' w1 hown' hgrow _; obtain ⟨g', cap', rfl⟩ := ownsRow_succ hown'; obtain ⟨hq1, hq2, hr2', hk2, hb2⟩ := hv1.appended (by decide) hrow hB.size (by omega) hown' hgrow; have hc1' := hq1.cell; have hf1' := hq1.frozen; have hla2 := (((hla.alloc (.cells #[.int .i64 (q : Int), .int .i64 1] 46)).kept hgrow (hla.not_row (by decide) hrow)).other (B' := w.heap.size + 1 + 1 + 1) (by omega) (.slice (some ⟨g', 0, none⟩) (R.length + 1) cap')); have hcb2 := (((hcb.alloc (.cells #[.int .i64 (q : Int), .int .i64 1] 46)).kept hgrow (hcb.not_row (by decide) hrow)).other (B' := w.heap.size + 1 + 1 + 1) (by omega) (.slice (some ⟨g', 0, none⟩) (R.length + 1) cap')); have htk2 := row_kept (row_kept (row_kept htk (World.grownBy_alloc W (.cells #[.int .i64 (q : Int), .int .i64 1] 46) none) (by simp)) hgrow (row_not htk (by decide) hrow)) (grownBy_setCell' w1 (w.heap.size + 1 + 1 + 1) (.slice (some ⟨g', 0, none⟩) (R.length + 1) cap')) (by simp); have hcl2 := hla2.cell; have hfl2 := hla2.frozen)
            exact ⟨(hk2.trans (KeepsOthers.setCell _ _ _)).from _, (hKP w1 _ hb2 hgrow).t (KpS.set (by omega) hla2 (by decide) (by decide)), by
              unfold InvS
              rw [HNEW.out]
              refine ⟨⟨⟨⟨⟨_, hq2.other (by omega) _, ?_, trivial⟩, hla2.set _⟩, hcb2.other (by omega) _⟩, row_kept htk2 (grownBy_setCell' _ _ _) (by simp)⟩, (hB.trans hb2).setCell (p := ⟨w.heap.size + 1 + 1 + 1 + 1, 0, none⟩) (by simp; omega) _⟩
              rw [List.flatMap_append, List.flatMap_singleton, List.length_append]
              exact hr2'.kept (grownBy_setCell' _ _ _) (.inr (hla2.not_row (by decide) hr2').symm)⟩
    · have hne : (x2 != cl) = true := by simp [hcl]
      have HS : Hid (InvS cl T w (pre ++ [⟨((q : Int), x2), hx0, hx1⟩]) W) := HI.out.skip (by simp [hcl])
      clear hcl hri
      gi_wp2
      exact ⟨(KeepsOthers.refl _).from _, KpS.refl _ _, HS.out⟩
  case done =>
    rintro D ys W hD hys ⟨⟨⟨⟨⟨v1, hv1, hrow, _⟩, hla⟩, hcb⟩, htk⟩, hB⟩ hK
    rw [hys] at hrow
    have hc := hv1.cell
    have hf := hv1.frozen
    obtain ⟨A, c, rfl⟩ := own_opn' hrow
    gi_wp2
    have hK2 := (KeepsOthers.setCell W ⟨w.heap.size + 1 + 1 + 1, 0, none⟩ (.slice A (rnF cl T (sts L)).1.length c)).same D _ hK rfl
    refine ⟨by simp, .inl ⟨_, _, rfl, run_takeDeferred hK2, ?_⟩⟩
    have hb2 := hv1.set (.slice A (rnF cl T (sts L)).1.length c)
    have hcell := cell_kept hb2.cell (grownBy_putObj' _ D (.deferred none)) (fun r e => by cases e; exact ⟨_, hK2, rfl⟩)
    exact ⟨_, by simp [results, Try.results13, go_sem, hcell], _, rfl, ownsRow_putObj (hrow.kept (grownBy_setCell' W _ _) (.inr (hv1.not_row (by decide) hrow).symm)) _ hK2 rfl, (hB.setCell (p := ⟨w.heap.size + 1 + 1 + 1, 0, none⟩) (by simp; omega) _).trans (belowK_b (w := w) (Nat.le_refl _) _ D _ _ (by rw [hs0] at hD; omega) hK2 rfl rfl)⟩
  case stop =>
    rintro D c pre W _ _ h _
    exact h.elim
end Go.Proofs.Ytpbfabcihoiiiaa
