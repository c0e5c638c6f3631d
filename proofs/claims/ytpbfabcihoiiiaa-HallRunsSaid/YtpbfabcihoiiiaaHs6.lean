/- Arrays of flags compared; what HallRuns' loops lean on. -/
import Derived.Test.YtpbfabcihoiiiaaHs5
namespace Go.Proofs.Ytpbfabcihoiiiaa
open Go.RowKit
set_option linter.unusedVariables false
set_option linter.unusedSimpArgs false

theorem key_flags : Try.prog.keyTypeAt 3 41 = true := by kernel_rfl
theorem c_bool : Try.prog.cellsOf 4 = 1 := by kernel_rfl
theorem c_flags : Try.prog.cellsOf 41 = 64 := by kernel_rfl
theorem lits_bool (b : Bool) : Try.prog.keyLits 2 4 [.bool b] = some [.bool b] := by
  unfold Program.keyLits
  rw [Try.underlying4]
theorem mapM_some {α β : Type} (f : α → Option β) (g : α → β) : ∀ l : List α, (∀ x ∈ l, f x = some (g x)) → l.mapM f = some (l.map g)
  | [], _ => rfl
  | a :: l, h => by
    rw [List.mapM_cons, h a (by simp), mapM_some f g l (fun x hx => h x (by simp [hx]))]
    rfl
theorem tkA_part (T : Nat → Bool) (i : Nat) (hi : i < 64) : ((tkA T).toList.drop (i * 1)).take 1 = [.bool (T i)] := by
  have h := tkA_at T i hi
  rw [← Array.getElem?_toList] at h
  rw [Nat.mul_one, List.take_one, List.head?_drop, h]
  rfl
theorem lits_flags (T : Nat → Bool) : Try.prog.keyLits 3 41 (tkA T).toList = some (((List.range 64).map fun i => [Lit.bool (T i)]).flatten) := by
  unfold Program.keyLits
  rw [Try.underlying41]
  have hl : (tkA T).toList.length = 64 := rfl
  simp only [c_flags, c_bool, hl, if_true]
  rw [mapM_some _ (fun i => [Lit.bool (T i)]) _ (fun i hi => by
    rw [tkA_part T i (List.mem_range.1 hi)]
    exact lits_bool _)]
  rfl
theorem formed_flags (T : Nat → Bool) : Value.formed Try.prog 41 (.agg (tkA T)) = true := by kernel_rfl
theorem flags_same (T : Nat → Bool) (W : World) : (binOp .neq 41 (.agg (tkA T)) (.agg (tkA T))).run Try.prog W = .ok (.bool false) W := by
  obtain ⟨r, hr, hiff⟩ := run_equalIn_deep (P := Try.prog) 9997 3 41 key_flags W 3 3 (.agg (tkA T)) (.agg (tkA T)) _ _ (formed_flags T) (formed_flags T) (lits_flags T) (lits_flags T)
  have : r = true := hiff.2 rfl
  subst this
  rw [run_neq_struct, hr]
  rfl
/-- The seats of the runs so far, and of this one up to j. -/
def covJ (l : List (Int × Int)) (x : Int × Int) (j : Int) (q : Nat) : Bool := covB l q || (decide (x.1 ≤ (q : Int)) && decide ((q : Int) < j))
theorem covJ_zero (l : List (Int × Int)) (x : Int × Int) : tkA (covB l) = tkA (covJ l x x.1) := tkA_ext (fun q _ => by
  unfold covJ
  have : (decide (x.1 ≤ (q : Int)) && decide ((q : Int) < x.1)) = false := by
    cases h : decide (x.1 ≤ (q : Int))
    · rfl
    · have := of_decide_eq_true h
      rw [Bool.true_and, decide_eq_false_iff_not]
      omega
  rw [this, Bool.or_false])
theorem covJ_step (l : List (Int × Int)) (x : Int × Int) (j : Int) (h0 : 0 ≤ x.1) (hj : x.1 ≤ j) (h1 : j < 64) : (tkA (covJ l x j)).setIfInBounds j.toNat (.bool true) = tkA (covJ l x (j + 1)) := by
  rw [tkA_set _ _ _ (by omega)]
  refine tkA_ext (fun q hq => ?_)
  unfold covJ
  by_cases e : q = j.toNat
  · rw [if_pos e]
    have h2 : (decide (x.1 ≤ (q : Int)) && decide ((q : Int) < j + 1)) = true := by
      rw [Bool.and_eq_true, decide_eq_true_eq, decide_eq_true_eq]
      omega
    rw [h2, Bool.or_true]
  · rw [if_neg e]
    have : decide ((q : Int) < j) = decide ((q : Int) < j + 1) := by
      rw [decide_eq_decide]
      omega
    rw [this]
theorem covJ_end (l : List (Int × Int)) (x : Int × Int) : tkA (covJ l x (x.1 + x.2)) = tkA (covB (l ++ [x])) := tkA_ext (fun q _ => by
  rw [cov_snoc]
  rfl)
theorem covB_all {F : Nat → Bool} {st : RnS} (h : RnL F 64 st) : tkA (covB st.1) = tkA F := tkA_ext (fun j hj => cov_all h hj)
theorem grownP_cell {w w' : World} {p b o : Nat} {v : Value} (hg : w.grownBy w' (some p)) (hc : w.cell? ⟨b, o, none⟩ = some v) (hne : b ≠ p) : w'.cell? ⟨b, o, none⟩ = some v :=
  (World.cell?_of_block (hg.block b (World.block_lt_of_cell? _ _ hc) (fun e => hne (by injection e)))).trans hc
theorem grownP_row {w w' : World} {p b : Nat} {v : Obj} (hg : w.grownBy w' (some p)) (hl : b < w.heap.size) (hc : w.heap[b]? = some v) (hne : b ≠ p) : w'.heap[b]? = some v :=
  (hg.block b hl (fun e => hne (by injection e))).trans hc
/-- The runs' cells lie behind a block. -/
theorem runs_cells {w : World} {base : Nat} {e : TypeId} {A : Option Addr} {n c : Nat} {l : List (Int × Int)} (h : w.ownsRow base e 2 (.slice A n c) l.length (l.flatMap runC)) (k : Nat) (x : Int × Int) (hx : l[k]? = some x) :
    ∃ b, A = some ⟨b, 0, none⟩ ∧ base ≤ b ∧ w.cell? ⟨b, k * 2, none⟩ = some (.int .i64 x.1) ∧ w.cell? ⟨b, k * 2 + 1, none⟩ = some (.int .i64 x.2) := by
  rcases own_cells h with ⟨h1, h2⟩ | ⟨g, c', h1, h2, hb, h3⟩
  · obtain rfl := List.eq_nil_of_length_eq_zero h2
    simp at hx
  · injection h1 with e1 e2 e3
    refine ⟨g, e1, hb, ?_, ?_⟩
    · have f := flat_at runC 2 (fun _ => rfl) 0 (by omega) l k x hx
      exact h3 _ _ f
    · have f := flat_at runC 2 (fun _ => rfl) 1 (by omega) l k x hx
      exact h3 _ _ f
theorem seat_cells {w : World} {base : Nat} {e : TypeId} {v : Value} {l : List (Int × Int)} (h : w.ownsRow base e 1 v l.length (l.map fun x => .int .i64 x.1)) (k : Nat) (x : Int × Int) (hx : l[k]? = some x) :
    ∃ b, (∃ c, v = .slice (some ⟨b, 0, none⟩) l.length c) ∧ w.cell? ⟨b, k, none⟩ = some (.int .i64 x.1) := by
  rcases own_cells h with ⟨h1, h2⟩ | ⟨g, c', h1, h2, hb, h3⟩
  · obtain rfl := List.eq_nil_of_length_eq_zero h2
    simp at hx
  · refine ⟨g, ⟨c', h1⟩, h3 k _ ?_⟩
    rw [List.getElem?_map, hx]
    rfl
theorem rdH_at {w : World} {a : Option Addr} {n c : Nat} {l : List HRow} (h : RdH w (.slice a n c) l) (k : Nat) (r : HRow) (hr : l[k]? = some r) : ∃ b o, a = some ⟨b, o, none⟩ ∧ w.cell? ⟨b, o + k * 2, none⟩ = some (.int .i64 r.1) := by
  obtain ⟨a', c', e, _, h2⟩ := h
  obtain ⟨_, b, o, e1, e2, _⟩ := h2 k r hr
  injection e with e
  exact ⟨b, o, e.trans e1, e2⟩
theorem has_val (v : Value) (L : List HRow) (s : Int) (b : Bool) (w : World) (hv : RdH w v L) (hL : L.length ≤ 140737488355328) (hb : hasS L s = b) : Calls Try.prog 15 #[.agg #[v], .int .i64 s] w fun e w' => e = .returned (.bool b) ∧ Below w.heap.size w w' := by
  have h := has_any v L s w hv hL
  rw [hb] at h
  exact h
theorem class_val (v : Value) (L : List HRow) (s c : Int) (w : World) (hv : RdH w v L) (hL : L.length ≤ 140737488355328) (hb : clsS L s = c) : Calls Try.prog 16 #[.agg #[v], .int .i64 s] w fun e w' => e = .returned (.int .i64 c) ∧ Below w.heap.size w w' := by
  have h := class_any v L s w hv hL
  rw [hb] at h
  exact h
theorem rnF_len (cl : Int) (T : Nat → Bool) : ∀ (l : List (Int × Int)) (st : RnS), (l.foldl (rnStep cl T) st).1.length ≤ st.1.length + l.length
  | [], st => Nat.le_refl _
  | x :: l, st => by
    rw [List.foldl_cons]
    have h := rnF_len cl T l (rnStep cl T st x)
    have h2 : (rnStep cl T st x).1.length ≤ st.1.length + 1 := by
      unfold rnStep
      split
      · omega
      · split
        · rw [bump_len]
          omega
        · rw [List.length_append]
          exact Nat.le_refl _
    rw [List.length_cons]
    omega
theorem rnF_64 (L : List HRow) (cl : Int) (T : Nat → Bool) : (rnF cl T (stN L 64)).1.length ≤ 64 := by
  have h := rnF_len cl T (stN L 64) ([], -1)
  have h2 := stN_len L 64
  unfold rnF
  simp only [List.length_nil, Nat.zero_add] at h
  omega
/-- The seats so far. -/
def hasT (L : List (Int × Int)) (q : Nat) : Bool := L.any (fun y => y.1 == (q : Int))
theorem hasT_nil : tkA (hasT []) = tkA (fun _ => false) := rfl
theorem hasT_step (L : List (Int × Int)) (x : Int × Int) (h0 : 0 ≤ x.1) (h1 : x.1 < 64) : (tkA (hasT L)).setIfInBounds x.1.toNat (.bool true) = tkA (hasT (L ++ [x])) := by
  rw [tkA_set _ _ _ (by omega)]
  refine tkA_ext (fun q hq => ?_)
  unfold hasT
  rw [List.any_append]
  by_cases e : q = x.1.toNat
  · rw [if_pos e]
    have : (x.1 == (q : Int)) = true := by rw [beq_iff_eq]; omega
    simp [this]
  · rw [if_neg e]
    have : (x.1 == (q : Int)) = false := by rw [beq_eq_false_iff_ne]; omega
    simp [this]
theorem hasT_all (L : List HRow) (i : Int) (h0 : 0 ≤ i) : hasT (sts L) i.toNat = hasS L i := by
  unfold hasT hasS
  rw [show ((i.toNat : Nat) : Int) = i by omega]
theorem sts_in {L : List HRow} {x : Int × Int} (h : x ∈ sts L) : 0 ≤ x.1 ∧ x.1 < 64 ∧ ∃ r, L[x.1.toNat / 8]? = some r ∧ x.2 = r.1 := by
  obtain ⟨q, hq, r, hr, _, rfl⟩ := (stN_mem L x _).1 h
  exact ⟨by dsimp only; omega, by dsimp only; omega, r, by dsimp only; rwa [Int.toNat_natCast], rfl⟩
theorem hasS_out {L : List HRow} {i : Int} (h : i < 0 ∨ 63 < i) : hasS L i = false := by
  cases e : hasS L i with
  | false => rfl
  | true =>
    obtain ⟨x, hx, hi⟩ := (has_iff L i).1 e
    have := sts_in hx
    omega
theorem hasS_row {L : List HRow} {i : Int} (h : hasS L i = true) : ∃ r, L[i.toNat / 8]? = some r ∧ clsS L i = r.1 := by
  obtain ⟨x, hx, hi⟩ := (has_iff L i).1 h
  obtain ⟨_, _, r, hr, he⟩ := sts_in hx
  subst hi
  exact ⟨r, hr, by rw [cls_at hx, he]⟩
theorem sts_up {L : List HRow} {k : Nat} {x y : Int × Int} (hx : (sts L)[k]? = some x) (hk : 0 < k) (hy : (sts L)[k - 1]? = some y) : y.1 < x.1 := by
  have h := stN_rise L (8 * min L.length 8)
  obtain ⟨h1, e1⟩ := List.getElem?_eq_some_iff.1 hx
  obtain ⟨h2, e2⟩ := List.getElem?_eq_some_iff.1 hy
  have := List.pairwise_iff_getElem.1 h (k - 1) k h2 h1 (by omega)
  have a : (stN L (8 * min L.length 8))[k - 1] = y := e2
  have b : (stN L (8 * min L.length 8))[k] = x := e1
  rwa [a, b] at this
end Go.Proofs.Ytpbfabcihoiiiaa
