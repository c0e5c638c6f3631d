/- A map's runs: the iterator, and what collects. -/
import Derived.Test.YtdaeibbjoefofaaDoorFm6
import Derived.RangeFuncBox
import Derived.RangeFuncNested
import Derived.RangeFuncLeaves
import Derived.Shelf.Abstract
import Derived.OwnWalkIn
import Derived.TacticsInMore
import Derived.LoopNIn
import Derived.LoopIn
import Derived.Maps.AppendAt
namespace Go.Proofs.YtdaeibbjoefofaaDoor
open Go.RowKit Go.Shelf
attribute [local go_sem] Oper.semAt_some
set_option linter.unusedVariables false
set_option linter.unusedSimpArgs false

/-- What a round that goes on keeps: what lay below n₀; the receiver's box. -/
def KpR (n₀ Bn : Nat) (A B : World) : Prop := Below n₀ A B ∧ ∀ v, Boxed A Bn 25 v → Boxed B Bn 25 v
theorem KpR.t {n₀ Bn : Nat} {A B C : World} (h : KpR n₀ Bn A B) (k : KpR n₀ Bn B C) : KpR n₀ Bn A C := ⟨h.1.trans k.1, fun v hv => k.2 v (h.2 v hv)⟩
theorem KpR.b {n₀ Bn : Nat} {w : World} (hn : n₀ ≤ w.heap.size) (W : World) (l : Nat) (o o' : Obj) (hl : w.heap.size ≤ l) (h : W.heap[l]? = some o) (hc : o.isCells = false) (hw : o.isWalk = false) : KpR n₀ Bn W (W.putObj l o') :=
  ⟨belowK_b hn W l o o' hl h hc hw, fun v hv => hv.kept (grownBy_putObj' W l o') (fun e => by
    cases e
    rw [show W.heap[Bn]? = _ from hv] at h
    cases h
    cases hc)⟩
theorem KpR.refl (n₀ Bn : Nat) (A : World) : KpR n₀ Bn A A := ⟨Below.refl _ _, fun _ h => h⟩
theorem hasB_in {T : Nat → Bool} {n k : Nat} (h : k < n) {v : Bool} (hv : T k = v) : hasB T n (k : Int) = v := by
  unfold hasB
  rw [Int.toNat_natCast, hv]
  simp [h]
def runA (x : Nat × Nat) : Array Value := #[.int .i64 x.1, .int .i64 x.2]

set_option maxRecDepth 100000 in
set_option maxHeartbeats 2000000 in
theorem free1_in (l Bn n₀ b n : Nat) (T : Nat → Bool) (hF : FMOk T n) (J Jx : List (Nat × Nat) → World → Prop)
    (hY : ∀ pre x W, J pre W → pre.length < (runs T n).length → YieldAt Fence.wide (2 - 1) Tryd.prog l (runA x) W fun e W' =>
      (e = .returned (.bool true) ∧ J (pre ++ [x]) W' ∧ KpR n₀ Bn W W') ∨ (e = .returned (.bool false) ∧ Jx (pre ++ [x]) W'))
    (W : World) (hBn : Boxed W Bn 25 (.pointer (some ⟨b, 0, none⟩))) (hM : MapAt W b T n) (hb : b < n₀) (h0 : J [] W) :
    CallsIn Fence.wide 2 Tryd.prog 36 #[.func (.yield l) #[] #[], .pointer (some ⟨Bn, 0, none⟩)] W fun e W' => (∃ v, e = .returned v) ∧
      ((∃ ys, ys = runs T n ∧ J ys W') ∨ (∃ pre, pre <+: runs T n ∧ Jx pre W')) := by
  have hn := hF.hi
  refine callsIn_of_wp Tryd.func36 rfl trivial ?_ rfl
  simp only [Tryd.ntmps36, List.size_toArray, List.length_cons, List.length_nil, Nat.reduceAdd, Nat.reduceSub, Array.replicate_succ, Array.replicate_zero, List.push_toArray, List.append_toArray, List.nil_append, List.cons_append]
  gi_wp2
  gi_loopw [3, 4] (fun i _ wr => ∃ k : Nat, k ≤ n ∧ i = .int .i64 k ∧ Hid (k = n ∨ k = 0 ∨ T (k - 1) = true ∨ T k = true) ∧ J (runs T k) wr ∧ KpR n₀ Bn W wr)
    (fun i _ wr => n - (intOf i).toNat)
  case atStart =>
    exact ⟨0, by omega, rfl, .inr (.inl rfl), h0, KpR.refl _ _ _⟩
  case round =>
    obtain ⟨k, hk, rfl, HK, HJ, HP⟩ := hrel
    have hbx := HP.2 _ hBn
    have hcb := hbx.cell
    have hMr : MapAt wr b T n := hM.block (HP.1.block b hb)
    have c16 := hMr.len
    by_cases hkn : k < n
    · cases hT : T k with
      | true =>
        have HH := Lib.hid (hasB_in hkn hT)
        have HR := Lib.hid (runs_used hT)
        have HTk := Lib.hid hT
        clear hT
        gi_wp2_with (first | (refine ⟨trivial, ?_⟩; gi_at_call 27; refine (callsIn_wide.2 (len_any b n T _ hMr)).mono ?_; rintro e w' ⟨rfl, rfl⟩) | (refine ⟨trivial, ?_⟩; gi_at_call 21; refine (callsIn_wide.2 (has_any b n T _ _ hMr hF)).mono ?_; rintro e w' ⟨rfl, rfl⟩; rw [HH.out]))
        go_roundw
        case rel => exact ⟨k + 1, by omega, by go_num, .inr (.inr (.inl HTk.out)), by rw [HR.out]; exact HJ, HP⟩
        case measure => simp [intOf]; omega
      | false =>
        have HH := Lib.hid (hasB_in hkn hT)
        have HTk := Lib.hid hT
        have HS : Hid (k = 0 ∨ T (k - 1) = true) := by
          rcases HK.out with h | h | h | h
          · omega
          · exact .inl h
          · exact .inr h
          · rw [hT] at h; cases h
        clear hT
        gi_wp2_with (first | (refine ⟨trivial, ?_⟩; gi_at_call 27; refine (callsIn_wide.2 (len_any b n T _ hMr)).mono ?_; rintro e w' ⟨rfl, rfl⟩) | (refine ⟨trivial, ?_⟩; gi_at_call 21; refine (callsIn_wide.2 (has_any b n T _ _ hMr hF)).mono ?_; rintro e w' ⟨rfl, rfl⟩; rw [HH.out]))
        obtain ⟨wo, rfl⟩ : ∃ wo : World, wo = wr := ⟨_, rfl⟩
        gi_loopw [3] (fun i wi => ∃ p : Nat, k ≤ p ∧ p ≤ n ∧ i = .int .i64 p ∧ Hid (∀ j, k ≤ j → j < p → T j = false) ∧ wo = wi)
          (fun i _ => n - (intOf i).toNat)
        case atStart => exact ⟨k, Nat.le_refl _, hk, rfl, (fun j h1 h2 => absurd h1 (by omega)), rfl⟩
        case round =>
          obtain ⟨p, hkp, hp, rfl, HM, rfl⟩ := hrel
          by_cases hpn : p < n
          · cases hT2 : T p with
            | false =>
              have HH2 := Lib.hid (hasB_in hpn hT2)
              have HM2 : Hid (∀ j, k ≤ j → j < p + 1 → T j = false) := by
                intro j h1 h2
                by_cases e : j < p
                · exact HM.out j h1 e
                · rw [show j = p by omega]; exact hT2
              clear hT2
              gi_wp2_with (first | (refine ⟨trivial, ?_⟩; gi_at_call 21; refine (callsIn_wide.2 (has_any b n T _ _ hMr hF)).mono ?_; rintro e w' ⟨rfl, rfl⟩; rw [HH2.out]))
              go_roundw
              case rel => exact ⟨p + 1, by omega, by omega, by go_num, HM2, trivial⟩
              case measure => simp [intOf]; omega
            | true =>
              have HH2 := Lib.hid (hasB_in hpn hT2)
              have HTp := Lib.hid hT2
              have HE : Hid (p = n ∨ p = 0 ∨ T (p - 1) = true ∨ T p = true) := .inr (.inr (.inr hT2))
              have hkp2 : k < p := by
                rcases Nat.lt_or_ge k p with h | h
                · exact h
                · have e : p = k := by omega
                  rw [e] at hT2; rw [HTk.out] at hT2; cases hT2
              clear hT2
              have HRN : Hid (runs T p = runs T k ++ [(k, p - k)]) := by
                have := runs_run HS.out (p - k - 1) (fun j hj => HM.out (k + j) (by omega) (by omega))
                rw [show k + (p - k - 1 + 1) = p by omega, show p - k - 1 + 1 = p - k by omega] at this
                exact this
              have hln : (runs T k).length < (runs T n).length := by
                obtain ⟨r, hr⟩ := runs_pre2 hp HE.out
                have := congrArg List.length hr
                rw [HRN.out, List.length_append, List.length_append] at this
                simp at this
                omega
              obtain ⟨fn, tmps, assign, body, hy, hR⟩ := hY (runs T k) (k, p - k) wo HJ hln
              dsimp only [runA] at hy
              have hsub : (p : Int) - (k : Int) = ((p - k : Nat) : Int) := by omega
              gi_wp2_with (first | (refine ⟨trivial, ?_⟩; gi_at_call 21; refine (callsIn_wide.2 (has_any b n T _ _ hMr hF)).mono ?_; rintro e w' ⟨rfl, rfl⟩; rw [HH2.out]))
              refine hR.mono ?_
              rintro e W3 (⟨rfl, hJ3, hk3⟩ | ⟨rfl, hJx3⟩)
              · gi_wp2
                go_roundw
                case rel => exact ⟨p, hp, rfl, HE, by rw [HRN.out]; exact hJ3, HP.t hk3⟩
                case measure => simp [intOf]; omega
              · gi_wp2
                refine bodyPost_ret (results_none rfl _ _ _) rfl ?_
                exact ⟨⟨_, rfl⟩, .inr ⟨runs T k ++ [(k, p - k)], by rw [← HRN.out]; exact runs_pre2 hp HE.out, hJx3⟩⟩
          · have HE : Hid (p = n ∨ p = 0 ∨ T (p - 1) = true ∨ T p = true) := .inl (by omega)
            have hkp2 : k < p := by omega
            have HRN : Hid (runs T p = runs T k ++ [(k, p - k)]) := by
              have := runs_run HS.out (p - k - 1) (fun j hj => HM.out (k + j) (by omega) (by omega))
              rw [show k + (p - k - 1 + 1) = p by omega, show p - k - 1 + 1 = p - k by omega] at this
              exact this
            have hln : (runs T k).length < (runs T n).length := by
              obtain ⟨r, hr⟩ := runs_pre2 hp HE.out
              have := congrArg List.length hr
              rw [HRN.out, List.length_append, List.length_append] at this
              simp at this
              omega
            obtain ⟨fn, tmps, assign, body, hy, hR⟩ := hY (runs T k) (k, p - k) wo HJ hln
            dsimp only [runA] at hy
            have hsub : (p : Int) - (k : Int) = ((p - k : Nat) : Int) := by omega
            gi_wp2
            refine ⟨trivial, ?_⟩
            gi_wp2
            refine hR.mono ?_
            rintro e W3 (⟨rfl, hJ3, hk3⟩ | ⟨rfl, hJx3⟩)
            · gi_wp2
              go_roundw
              case rel => exact ⟨p, hp, rfl, HE, by rw [HRN.out]; exact hJ3, HP.t hk3⟩
              case measure => simp [intOf]; omega
            · gi_wp2
              refine bodyPost_ret (results_none rfl _ _ _) rfl ?_
              exact ⟨⟨_, rfl⟩, .inr ⟨runs T k ++ [(k, p - k)], by rw [← HRN.out]; exact runs_pre2 hp HE.out, hJx3⟩⟩
    · obtain rfl : k = n := by omega
      gi_wp2_with (first | (refine ⟨trivial, ?_⟩; gi_at_call 27; refine (callsIn_wide.2 (len_any b k T _ hMr)).mono ?_; rintro e w' ⟨rfl, rfl⟩))
      go_end0
      exact ⟨⟨_, rfl⟩, .inl ⟨_, rfl, HJ⟩⟩

set_option maxHeartbeats 1000000 in
theorem free_in (b : Nat) (w : World) : CallsIn Fence.wide 2 Tryd.prog 32 #[.pointer (some ⟨b, 0, none⟩)] w fun e w' => e = .returned (.func (.func 36) #[] #[.pointer (some ⟨w.heap.size, 0, none⟩)]) ∧ w' = w.alloc (.cells #[.pointer (some ⟨b, 0, none⟩)] 25) := by
  refine callsIn_of_wp Tryd.func32 rfl trivial ?_ rfl
  simp only [Tryd.ntmps32, List.size_toArray, List.length_cons, List.length_nil, Nat.reduceAdd, Nat.reduceSub, Array.replicate_succ, Array.replicate_zero, List.push_toArray, List.append_toArray, List.nil_append, List.cons_append]
  gi_wp2
  go_ret
  exact ⟨rfl, rfl⟩
theorem info_run : (Tryd.prog.info? 53).map (fun i => (i.zero, i.size, i.bytes)) = some (some (.agg #[.int .i64 0, .int .i64 0]), 2, 16) := by kernel_rfl
def runC (x : Nat × Nat) : List Value := [.int .i64 x.1, .int .i64 x.2]

set_option maxRecDepth 100000 in
set_option maxHeartbeats 2000000 in
theorem runs_any (b n : Nat) (T : Nat → Bool) (w : World) (hM : MapAt w b T n) (hF : FMOk T n) : Calls Tryd.prog 13 #[.pointer (some ⟨b, 0, none⟩)] w fun e w' => ∃ v, e = .returned v ∧ w'.ownsRow w.heap.size 53 2 v (runs T n).length ((runs T n).flatMap runC) ∧ Below w.heap.size w w' := by
  obtain ⟨i0, hi, hz0, hz1, hz2⟩ := info_parts info_run
  have hn := hF.hi
  refine callsIn_wide (n := 3) |>.1 ?_
  refine callsIn_of_wp_marks Tryd.func13 rfl trivial ?_ rfl
  simp only [Tryd.ntmps13, List.size_toArray, List.length_cons, List.length_nil, Nat.reduceAdd, Nat.reduceSub, Array.replicate_succ, Array.replicate_zero, List.push_toArray, List.append_toArray, List.nil_append, List.cons_append]
  gi_wp2_with (refine ⟨trivial, ?_⟩; gi_at_call 32; refine (free_in b _).mono ?_; rintro e w' ⟨rfl, rfl⟩)
  have bO := Boxed.new w 33 (.slice none 0 0)
  have bN := Boxed.new (w.alloc (.cells #[.slice none 0 0] 33)) 25 (.pointer (some ⟨b, 0, none⟩))
  rw [World.size_alloc] at bN
  have hB0 : Below w.heap.size w ((w.alloc (.cells #[.slice none 0 0] 33)).alloc (.cells #[.pointer (some ⟨b, 0, none⟩)] 25)) := ((Below.refl _ w).alloc (Nat.le_refl _) _).alloc (by simp) _
  have hs0 : ((w.alloc (.cells #[.slice none 0 0] 33)).alloc (.cells #[.pointer (some ⟨b, 0, none⟩)] 25)).heap.size = w.heap.size + 2 := by simp
  refine wpIn_rangeFunc_ownG (w0 := ((w.alloc (.cells #[.slice none 0 0] 33)).alloc (.cells #[.pointer (some ⟨b, 0, none⟩)] 25))) rfl (by omega) (gf := 36) (lb := #[.pointer (some ⟨w.heap.size + 1, 0, none⟩)]) rfl trivial (enters_of Tryd.func36 (by kernel_rfl) rfl)
    (encs := runA) (Kp := KpR w.heap.size (w.heap.size + 1)) (S := fun ys => ys = runs T n) (Sp := fun (pre : List (Nat × Nat)) => pre <+: runs T n) (N := (runs T n).length)
    (fun l J Jx W hW _ _ hY h0 => free1_in l (w.heap.size + 1) w.heap.size b n T hF J Jx hY W (bN.kept (grown_below hW none) (by simp)) (hM.block ((hW.block b (by rw [hs0]; have := hM.lt; omega)).trans (hB0.block b hM.lt))) hM.lt h0)
    KpR.t (KpR.b (by rw [hs0]; omega)) (Below.refl _ _) (fun _ => rfl)
    (fun (pre : List (Nat × Nat)) W => (∃ v, Boxed W w.heap.size 33 v ∧ W.ownsRow w.heap.size 53 2 v pre.length (pre.flatMap runC) ∧ True) ∧ Below w.heap.size w W)
    (fun _ _ _ => False)
    (OwnFrom.and (Own.from (holdsRow_own w.heap.size w.heap.size 33 53 2 (fun (pre : List (Nat × Nat)) => pre.length) (fun pre => pre.flatMap runC) (fun pre v => True)) _) (ownFrom_below (Nat.le_refl _) (by rw [hs0]; omega)))
    (fun _ _ _ _ _ hs _ _ => hs)
    ⟨⟨_, bO.alloc _, World.ownsRow_nil _ _ _ _, trivial⟩, hB0⟩
    (fun x => { tmps := #[.pointer (some ⟨b, 0, none⟩), undef, .slice none 0 0, .pointer (some ⟨w.heap.size, 0, none⟩), .int .i64 x.1, .int .i64 x.2, .pointer (some ⟨b, 0, none⟩), .func (.func 36) #[] #[.pointer (some ⟨w.heap.size + 1, 0, none⟩)], .int .i64 x.1, .int .i64 x.2, undef, undef, undef, undef, undef, undef, undef], defers := [] }) ?assign ?body ?done ?stop
  case assign =>
    intro l x W K hK
    dsimp only [runA]
    gi_wp2
    exact hK
  case body =>
    rintro l pre x W ⟨⟨v, hv, hrow, _⟩, hB⟩ hlt
    have hc := hv.cell
    have hpl := runs_len T n
    have hnew := World.news_of_block (cs := #[Value.int .i64 x.1, .int .i64 x.2]) (t := 53) (fr := (0, 0)) (heap_alloc_new W _)
    gi_wp2_with (gi_at_builtin; go_loud (refine wpListIn_append_own _ rfl _ _ 33 rfl w.heap.size 53 i0 (.agg #[.int .i64 0, .int .i64 0]) 2 16 Tryd.underlying33 hi hz0 hz1 hz2 rfl (by decide) _ _ _ rfl (hrow.alloc _) ⟨W.heap.size, 0, none⟩ 1 1 [.int .i64 x.1, .int .i64 x.2] rfl rfl hnew (by simp [Value.oneCell']) (by simp only [maxLen]; omega) (by omega) (by have := hB.size; simp; omega) ?_); intro v' w1 hown' hgrow _; obtain ⟨g', cap', rfl⟩ := ownsRow_succ hown'; obtain ⟨hv1, hv2, hr2, hk2, hb2⟩ := hv.appended (by decide) hrow hB.size (Nat.le_refl _) hown' hgrow; have hc1 := hv1.cell; have hf1 := hv1.frozen)
    have hkb : ∀ u, Boxed W (w.heap.size + 1) 25 u → Boxed (w1.setCell ⟨w.heap.size, 0, none⟩ (.slice (some ⟨g', 0, none⟩) (pre.length + 1) cap')) (w.heap.size + 1) 25 u := fun u hu =>
      ((hu.alloc (.cells #[.int .i64 x.1, .int .i64 x.2] 53)).kept hgrow (hu.not_row (by decide) hrow)).other (by omega) _
    exact ⟨hk2.from _, ⟨hb2, hkb⟩, ⟨_, hv2, by rw [List.flatMap_append, List.flatMap_singleton, List.length_append]; exact hr2⟩, hB.trans hb2⟩
  case done =>
    rintro D ys W hD rfl ⟨⟨v, hv, hrow, _⟩, hB⟩ hK
    have hc := hv.cell
    gi_wp2
    refine ⟨by simp, .inl ⟨_, _, rfl, run_takeDeferred hK, ?_⟩⟩
    exact ⟨_, results_tmp rfl _ _ _, v, rfl, ownsRow_putObj hrow _ hK rfl, hB.trans (belowK_b (w := w) (Nat.le_refl _) W D _ _ (by rw [hs0] at hD; omega) hK rfl rfl)⟩
  case stop =>
    rintro D c pre W _ _ h _
    exact h.elim
end Go.Proofs.YtdaeibbjoefofaaDoor
