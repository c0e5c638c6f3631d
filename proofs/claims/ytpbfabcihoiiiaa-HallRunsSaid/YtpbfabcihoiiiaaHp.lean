/- Has. -/
import Derived.Test.YtpbfabcihoiiiaaHlB
namespace Go.Proofs.Ytpbfabcihoiiiaa
open Go.RowKit Go.Shelf
attribute [local go_sem] Oper.semAt_some
set_option linter.unusedVariables false
set_option linter.unusedSimpArgs false

set_option maxRecDepth 100000 in
set_option maxHeartbeats 2000000 in
theorem has_any (v : Value) (L : List HRow) (s : Int) (w : World) (hv : RdH w v L) (hL : L.length ≤ 140737488355328) : Calls Try.prog 15 #[.agg #[v], .int .i64 s] w fun e w' => e = .returned (.bool (hasS L s)) ∧ Below w.heap.size w w' := by
  refine callsIn_wide (n := 3) |>.1 ?_
  refine callsIn_of_wp_marks Try.func15 rfl trivial ?_ rfl
  simp only [Try.ntmps15, List.size_toArray, List.length_cons, List.length_nil, Nat.reduceAdd, Nat.reduceSub, Array.replicate_succ, Array.replicate_zero, List.push_toArray, List.append_toArray, List.nil_append, List.cons_append]
  gi_wp2_with (refine ⟨trivial, ?_⟩; gi_at_call 24; refine (seats_in v _).mono ?_; rintro e w' ⟨rfl, rfl⟩)
  have bS := Boxed.new (w.alloc (.cells #[v] 26)) 3 (.int .i64 s)
  have bO := Boxed.new ((w.alloc (.cells #[v] 26)).alloc (.cells #[.int .i64 s] 3)) 4 (.bool false)
  have bN := Boxed.new (((w.alloc (.cells #[v] 26)).alloc (.cells #[.int .i64 s] 3)).alloc (.cells #[.bool false] 4)) 26 v
  simp only [World.size_alloc] at bS bO bN
  have bS2 := (bS.alloc (.cells #[.bool false] 4)).alloc (.cells #[v] 26)
  have bO2 := bO.alloc (.cells #[v] 26)
  obtain ⟨w0, hw0⟩ : ∃ w0, w0 = (((w.alloc (.cells #[v] 26)).alloc (.cells #[.int .i64 s] 3)).alloc (.cells #[.bool false] 4)).alloc (.cells #[v] 26) := ⟨_, rfl⟩
  have hB0 : Below w.heap.size w w0 := by rw [hw0]; exact ((((Below.refl _ w).alloc (Nat.le_refl _) _).alloc (by simp) _).alloc (by simp; omega) _).alloc (by simp; omega) _
  have hs0 : w0.heap.size = w.heap.size + 4 := by rw [hw0]; simp
  rw [← hw0] at bN bO2 bS2
  rw [← hw0]
  clear hw0 bS bO
  refine wpIn_rangeFunc_ownG (w0 := w0) rfl (by omega) (gf := 28) (lb := #[.pointer (some ⟨w.heap.size + 1 + 1 + 1, 0, none⟩)]) rfl trivial (enters_of Try.func28 (by kernel_rfl) rfl)
    (encs := stX) (Kp := KpS w.heap.size) (S := fun ys => vals ys = sts L) (Sp := fun (pre : List SeatX) => vals pre <+: sts L) (N := (sts L).length)
    (fun l J Jx W hW hJ _ hY h0 => seats1_in l (w.heap.size + 1 + 1 + 1) w.heap.size L v J Jx W hJ (by have := hW.size; omega) hY (bN.kept (grown_below hW none) (by simp)) (fun W' hW' => hv.below (hB0.trans ((hW.mono (by omega)).trans hW'))) hL h0)
    KpS.t (KpS.b (by rw [hs0]; omega)) (Below.refl _ _) (fun _ => rfl)
    (fun (pre : List SeatX) W => ((Boxed W (w.heap.size + 1) 3 (.int .i64 s) ∧ Boxed W (w.heap.size + 1 + 1) 4 (.bool false)) ∧ ∀ y ∈ vals pre, (y.1 == s) = false) ∧ Below w.heap.size w W)
    (fun c (pre : List SeatX) W => (∃ q x, c = .ret ∧ vals pre = q ++ [x] ∧ (∀ y ∈ q, (y.1 == s) = false) ∧ (x.1 == s) = true ∧ Boxed W (w.heap.size + 1 + 1) 4 (.bool true)) ∧ Below w.heap.size w W)
    (OwnFrom.and (OwnFrom.and (OwnFrom.and (Own.from (boxed_own _ _ (fun _ => .int .i64 s)) _) (Own.from (boxed_own _ _ (fun _ => .bool false)) _)) (ownFrom_pure _ _)) (ownFrom_below (Nat.le_refl _) (by rw [hs0]; omega)))
    (fun c => OwnFrom.and (fun st A B row hs hg hr => by
      obtain ⟨q, x, h1, h2, h3, h4, h5⟩ := hs
      exact ⟨q, x, h1, h2, h3, h4, (Own.from (boxed_own (w.heap.size + 1 + 1) 4 (fun (_ : Unit) => .bool true)) _) () A B row h5 hg hr⟩) (ownFrom_below (Nat.le_refl _) (by rw [hs0]; omega)))
    ⟨⟨⟨bS2, bO2⟩, fun y hy => by cases hy⟩, hB0⟩
    (fun x => { tmps := #[.agg #[v], .int .i64 s, .pointer (some ⟨w.heap.size, 0, none⟩), .pointer (some ⟨w.heap.size + 1, 0, none⟩), .pointer (some ⟨w.heap.size + 1 + 1, 0, none⟩), .int .i64 x.1.1, .agg #[v], .func (.func 28) #[] #[.pointer (some ⟨w.heap.size + 1 + 1 + 1, 0, none⟩)], .int .i64 x.1.1, .int .i64 x.1.2, undef, undef, undef], defers := [] }) ?assign ?body ?done ?stop
  case assign =>
    intro l x W K hK
    dsimp only [stX]
    gi_wp2
    exact hK
  case body =>
    rintro l pre x W ⟨⟨⟨hbs, hbo⟩, hno⟩, hB⟩ hlt
    have hc := hbs.cell
    have hc2 := hbo.cell
    have hf2 := hbo.frozen
    have HNO := Lib.hid hno
    clear hno
    cases hx : (x.1.1 == s) with
    | true =>
      have HX := Lib.hid hx
      gi_wp2
      exact ⟨(KeepsOthers.setCell _ _ _).from _, ⟨vals pre, x.1, rfl, vals_snoc _ _, HNO.out, HX.out, hbo.set _⟩, hB.setCell (p := ⟨w.heap.size + 1 + 1, 0, none⟩) (by simp; omega) _⟩
    | false =>
      have HX := Lib.hid hx
      gi_wp2
      exact ⟨(KeepsOthers.refl _).from _, KpS.refl _ _, ⟨⟨⟨hbs, hbo⟩, fun y hy => by
        rw [vals_snoc] at hy
        rcases List.mem_append.1 hy with hy | hy
        · exact HNO.out y hy
        · rw [List.mem_singleton] at hy
          rw [hy]
          exact HX.out⟩, hB⟩⟩
  case done =>
    rintro D ys W hD hys ⟨⟨⟨hbs, hbo⟩, hno⟩, hB⟩ hK
    have hc := hbo.cell
    have hf := hbo.frozen
    have HC := Lib.hid (hasS_no (hys ▸ hno))
    clear hno hys
    gi_wp2
    have hK2 := (KeepsOthers.setCell W ⟨w.heap.size + 1 + 1, 0, none⟩ (.bool false)).same D _ hK rfl
    refine ⟨by simp, .inl ⟨_, _, rfl, run_takeDeferred hK2, ?_⟩⟩
    have hb2 := hbo.set (.bool false)
    have hcell := cell_kept hb2.cell (grownBy_putObj' _ D (.deferred none)) (fun r e => by cases e; exact ⟨_, hK2, rfl⟩)
    exact ⟨_, by simp [results, Try.results15, go_sem, hcell]; rfl, by rw [HC.out], (hB.setCell (p := ⟨w.heap.size + 1 + 1, 0, none⟩) (by simp; omega) _).trans (belowK_b (w := w) (Nat.le_refl _) _ D _ _ (by rw [hs0] at hD; omega) hK2 rfl rfl)⟩
  case stop =>
    rintro D c pre W hD hpre ⟨⟨q, x, rfl, he, hq, hx, hbo⟩, hB⟩ hK
    rw [he] at hpre
    clear he
    have hc := hbo.cell
    have HC := Lib.hid (hasS_yes hpre hx)
    clear hq hx hpre
    gi_wp2
    refine ⟨by simp, .inl ⟨_, _, rfl, run_takeDeferred hK, ?_⟩⟩
    have hcell := cell_kept hbo.cell (grownBy_putObj' _ D (.deferred none)) (fun r e => by cases e; exact ⟨_, hK, rfl⟩)
    exact ⟨_, by simp [results, Try.results15, go_sem, hcell]; rfl, by rw [HC.out], hB.trans (belowK_b (w := w) (Nat.le_refl _) _ D _ _ (by rw [hs0] at hD; omega) hK rfl rfl)⟩
end Go.Proofs.Ytpbfabcihoiiiaa
