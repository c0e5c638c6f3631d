/- The reference's map: taken, counted, laid as bytes. -/
import Derived.Test.YtdaeibbjoefofaaDoorFmo
namespace Go.Proofs.YtdaeibbjoefofaaDoor
open Go.RowKit
set_option linter.unusedVariables false
set_option linter.unusedSimpArgs false

set_option maxRecDepth 100000 in
set_option maxHeartbeats 2000000 in
theorem rtake_any (b g n : Nat) (T : Nat → Bool) (w : World) (h : RefAt w b g n T) (hn : n ≤ 1024) : Calls Tryd.prog 18 #[.pointer (some ⟨b, 0, none⟩)] w fun e w' =>
    (∃ i : Nat, Low T i ∧ i < n ∧ e = .returned (.tuple #[.int .i64 i, .int .i64 0]) ∧ RefAt w' b g n (turnT T n i true) ∧ w.grownBy w' (some g)) ∨ (Full T n ∧ e = .returned (.tuple #[.int .i64 (-1), .int .i64 11]) ∧ w = w') := by
  have c := h.ptr
  go_enter Tryd.func18, Tryd.ntmps18
  go_wp2_with fail
  go_loop [4] (fun i => ∃ k : Nat, k ≤ n ∧ i = .int .i64 k ∧ Hid (Full T k)) (fun i => n - (intOf i).toNat)
  case atStart => exact ⟨0, by omega, rfl, fun j hj => absurd hj (by omega)⟩
  case round =>
    obtain ⟨k, hk, rfl, HK⟩ := hrel
    by_cases hkn : k < n
    · have hc := h.row.cell hkn
      have hf := h.row.frozen k
      cases hT : T k with
      | true =>
        rw [hT] at hc
        have HK2 : Hid (Full T (k + 1)) := by
          intro j hj
          by_cases e : j = k
          · rw [e]; exact hT
          · exact HK.out j (by omega)
        clear hT
        go_wp2_with fail
        go_round
        case rel => exact ⟨k + 1, by omega, by go_num, HK2⟩
        case measure => simp [intOf]; omega
      | false =>
        rw [hT] at hc
        have HL : Hid (Low T k) := ⟨hT, HK.out⟩
        clear hT
        go_wp2_with fail
        go_ret2
        exact .inl ⟨k, HL.out, hkn, rfl, h.turn hkn true, grown_set _ _ _⟩
    · obtain rfl : k = n := by omega
      go_wp2_with fail
      go_ret2
      exact .inr ⟨HK.out, rfl, rfl⟩
set_option maxRecDepth 100000 in
set_option maxHeartbeats 2000000 in
theorem rleft_any (b g n : Nat) (T : Nat → Bool) (w : World) (h : RefAt w b g n T) (hn : n ≤ 1024) : Calls Tryd.prog 23 #[.pointer (some ⟨b, 0, none⟩)] w fun e w' => e = .returned (.int .i64 (leftN T n)) ∧ w = w' := by
  have c := h.ptr
  go_enter Tryd.func23, Tryd.ntmps23
  go_wp2_with fail
  go_loop [3, 4] (fun r i => ∃ (k m : Nat), k ≤ n ∧ i = .int .i64 k ∧ r = .int .i64 m ∧ m ≤ k ∧ Hid (m + cnt T k = k)) (fun _ i => n - (intOf i).toNat)
  case atStart => exact ⟨0, 0, by omega, rfl, rfl, by omega, by simp [Hid, cnt]⟩
  case round =>
    obtain ⟨k, m, hk, rfl, rfl, hmk, HK⟩ := hrel
    by_cases hkn : k < n
    · have hc := h.row.cell hkn
      cases hT : T k with
      | true =>
        rw [hT] at hc
        have HK2 : Hid (m + cnt T (k + 1) = k + 1) := by
          show m + cnt T (k + 1) = k + 1
          have := HK.out
          rw [cnt_snoc, hT]
          simp
          omega
        clear hT
        go_wp2_with fail
        go_round
        case rel => exact ⟨k + 1, m, by omega, by go_num, rfl, by omega, HK2⟩
        case measure => simp [intOf]; omega
      | false =>
        rw [hT] at hc
        have HK2 : Hid (m + 1 + cnt T (k + 1) = k + 1) := by
          show m + 1 + cnt T (k + 1) = k + 1
          have := HK.out
          rw [cnt_snoc, hT]
          simp
          omega
        clear hT
        go_wp2_with fail
        go_round
        case rel => exact ⟨k + 1, m + 1, by omega, by go_num, by go_num, by omega, HK2⟩
        case measure => simp [intOf]; omega
    · obtain rfl : k = n := by omega
      have HL : Hid (leftN T k = (m : Int)) := by
        show leftN T k = (m : Int)
        have := HK.out
        unfold leftN
        rw [cn_eq]
        omega
      go_wp2_with fail
      go_ret
      exact ⟨by rw [HL.out]; rfl, rfl⟩
theorem mkW_add : ∀ (k r : Nat) (T : Nat → Bool), r < k → T r = false → mkW (fun i => decide (i = r) || T i) k = mkW T k + 2 ^ r
  | 0, r, T, h, _ => absurd h (by omega)
  | k + 1, 0, T, _, hT => by
    rw [mkW, mkW]
    have : (fun i => decide (i + 1 = 0) || T (i + 1)) = fun i => T (i + 1) := by funext i; simp
    rw [this, hT]
    simp
    omega
  | k + 1, r + 1, T, h, hT => by
    have ih := mkW_add k r (fun i => T (i + 1)) (by omega) hT
    rw [mkW, mkW]
    have e1 : (fun i => decide (i + 1 = r + 1) || T (i + 1)) = fun i => decide (i = r) || T (i + 1) := by funext i; simp
    rw [e1, ih]
    simp
    rw [Nat.pow_succ]
    omega
/-- What k flags give. -/
def preT (T : Nat → Bool) (k : Nat) : Nat → Bool := fun i => decide (i < k) && T i
theorem pre_zero (T : Nat → Bool) (j : Nat) : bT (preT T 0) j = 0 := by
  rw [bT_eq]
  have : (fun i => preT T 0 (8 * j + i)) = fun _ => false := by funext i; simp [preT]
  rw [this]
  decide
theorem pre_not {T : Nat → Bool} {k : Nat} (h : T k = false) : preT T (k + 1) = preT T k := by
  funext i
  unfold preT
  by_cases e : i = k
  · subst e; simp [h]
  · have : decide (i < k + 1) = decide (i < k) := by simp; omega
    rw [this]
theorem pre_yes {T : Nat → Bool} {k : Nat} (h : T k = true) : bT (preT T (k + 1)) (k / 8) = bT (preT T k) (k / 8) + 2 ^ (k % 8) := by
  rw [bT_eq, bT_eq]
  have e : (fun j => preT T (k + 1) (8 * (k / 8) + j)) = fun j => decide (j = k % 8) || preT T k (8 * (k / 8) + j) := by
    funext j
    unfold preT
    by_cases e : j = k % 8
    · subst e
      rw [show 8 * (k / 8) + k % 8 = k by omega, h]
      simp
    · have : decide (8 * (k / 8) + j < k + 1) = decide (8 * (k / 8) + j < k) := by simp; omega
      rw [this]
      simp [e]
  rw [e]
  exact mkW_add 8 (k % 8) (fun j => preT T k (8 * (k / 8) + j)) (by omega) (by unfold preT; simp; omega)
theorem pre_far {T : Nat → Bool} {k j : Nat} (hj : j ≠ k / 8) : bT (preT T (k + 1)) j = bT (preT T k) j := by
  rw [bT_eq, bT_eq]
  apply mkW_ext
  intro i hi
  unfold preT
  have : decide (8 * j + i < k + 1) = decide (8 * j + i < k) := by simp; omega
  rw [this]
theorem pre_all {T : Nat → Bool} {n : Nat} (hF : FMOk T n) : preT T n = T := by
  funext i
  unfold preT
  by_cases e : i < n
  · simp [e]
  · rw [hF.out i (by omega)]; simp
theorem wrap_u8_small (n : Int) (h0 : 0 ≤ n) (h1 : n < 256) : IntKind.u8.wrap n = n := by rw [IntKind.wrap_u8]; omega
theorem bit_add {T : Nat → Bool} {k : Nat} (h : T k = true) : (((bT (preT T k) (k / 8) : Nat) : Int) + (2 : Int) ^ (k % 8)) % 256 = ((bT (preT T (k + 1)) (k / 8) : Nat) : Int) := by
  have h1 := pre_yes h
  have h2 := bT_lt (preT T (k + 1)) (k / 8)
  have e2 : (2 : Int) ^ (k % 8) = ((2 ^ (k % 8) : Nat) : Int) := by simp
  obtain ⟨m, hm⟩ : ∃ m : Nat, m = 2 ^ (k % 8) := ⟨_, rfl⟩
  rw [e2, ← hm]
  rw [← hm] at h1
  rw [h1] at h2 ⊢
  omega
set_option maxRecDepth 100000 in
set_option maxHeartbeats 2000000 in
theorem rput_any (b g n : Nat) (T : Nat → Bool) (w : World) (h : RefAt w b g n T) (hF : FMOk T n) : Calls Tryd.prog 34 #[.pointer (some ⟨b, 0, none⟩)] w fun e w' => e = .returned (.string (putS T n)) ∧ Below w.heap.size w w' := by
  have hn := hF.hi
  have c := h.ptr
  have hmk : ∀ w : World, (Instr.makeSlice 67 (.int .i64 (((n : Int) + 7) / 8)) (.int .i64 (((n : Int) + 7) / 8))).run Tryd.prog w = .ok (.slice (some ⟨w.heap.size, 0, none⟩) ((n + 7) / 8) ((n + 7) / 8)) (w.alloc (.cells (madeCells #[.int .u8 0] ((n + 7) / 8)) 5)) := by
    intro w
    rw [show ((n : Int) + 7) / 8 = (((n + 7) / 8 : Nat) : Int) by omega]
    exact run_make_row' (P := Tryd.prog) 67 5 (.int .u8 0) 1 Tryd.underlying67 info_u8 rfl .i64 .i64 ((n + 7) / 8) (by omega) (by omega) w
  go_enter Tryd.func34, Tryd.ntmps34
  go_wp2_with fail
  have hR0 := World.rowIs_made w (.int .u8 0) ((n + 7) / 8) 5
  obtain ⟨N, hNe⟩ : ∃ N, (n + 7) / 8 = N := ⟨_, rfl⟩
  have hps := fun W => @put_str W w.heap.size n T
  rw [hNe] at hR0 hps ⊢
  rw [show ((n : Int) + 7) / 8 = (N : Int) by omega]
  have HPS := Lib.hid hps
  have hNn : n ≤ 8 * N := by omega
  have HR0 := Lib.hid hR0
  clear hps hmk hR0 c
  go_loopw [4] (fun i wr => ∃ k : Nat, k ≤ n ∧ i = .int .i64 k ∧ Hid (wr.rowIs w.heap.size 5 N (fun j => .int .u8 (bT (preT T k) j : Nat))) ∧ Hid (Below w.heap.size w wr)) (fun i _ => n - (intOf i).toNat)
  case atStart => exact ⟨0, by omega, rfl, HR0.out.congr (fun i hi => by rw [pre_zero]; rfl), (Below.refl _ _).alloc (Nat.le_refl _) _⟩
  case round =>
    obtain ⟨k, hk, rfl, HR, HB⟩ := hrel
    have hr := h.below HB.out
    have c := hr.ptr
    by_cases hkn : k < n
    · have hc := hr.row.cell hkn
      cases hT : T k with
      | true =>
        rw [hT] at hc
        have hd := HR.out.cell (show k / 8 < N by omega)
        have hf := HR.out.frozen (k / 8)
        have HBA := Lib.hid (bit_add hT)
        clear hT hr
        go_wp2_with fail
        go_region
        go_wp2
        go_roundw
        case rel =>
          refine ⟨k + 1, by omega, by go_num, ((HR.out.set (k / 8) _).congr (fun i hi => ?_)).drew, (HB.out.setCell (Nat.le_refl _) _).drew⟩
          by_cases e : i = k / 8
          · subst e
            rw [if_pos rfl, HBA.out]
          · rw [if_neg e, pre_far e]
        case measure => simp [intOf]; omega
      | false =>
        rw [hT] at hc
        have HP := Lib.hid (pre_not hT)
        clear hT hr
        go_wp2_with fail
        go_roundw
        case rel => exact ⟨k + 1, by omega, by go_num, by rw [HP.out]; exact HR, HB⟩
        case measure => simp [intOf]; omega
    · obtain rfl : k = n := by omega
      have hst := HPS.out wr (HR.out.congr (fun i hi => by rw [pre_all hF, if_pos hi]))
      go_wp2_with fail
      go_ret
      exact ⟨rfl, HB.out⟩

theorem bump_flat (l : List (Nat × Nat)) (h : l ≠ []) : ∃ (i : List (Nat × Nat)) (x : Nat × Nat), l = i ++ [x] ∧ bump l = i ++ [(x.1, x.2 + 1)] ∧ (l.flatMap runC)[(l.length - 1) * 2 + 1]? = some (.int .i64 x.2) ∧ (l.flatMap runC).set ((l.length - 1) * 2 + 1) (.int .i64 ((x.2 + 1 : Nat) : Int)) = (bump l).flatMap runC := by
  cases List.eq_nil_or_concat l with
  | inl e => exact absurd e h
  | inr e =>
    obtain ⟨i, x, rfl⟩ := e
    rw [List.concat_eq_append]
    have hl : (i.flatMap runC).length = i.length * 2 := by
      clear h
      induction i with
      | nil => rfl
      | cons y i ih =>
        rw [List.flatMap_cons, List.length_append, ih, List.length_cons]
        show 2 + i.length * 2 = (i.length + 1) * 2
        omega
    refine ⟨i, x, rfl, bump_snoc i x, ?_, ?_⟩
    · rw [List.flatMap_append, List.flatMap_singleton, List.length_append, List.length_singleton, List.getElem?_append_right (by omega), hl]
      rw [show (i.length + 1 - 1) * 2 + 1 - i.length * 2 = 1 by omega]
      rfl
    · rw [bump_snoc, List.flatMap_append, List.flatMap_singleton, List.flatMap_append, List.flatMap_singleton, List.length_append, List.length_singleton, List.set_append_right _ _ (by omega), hl]
      rw [show (i.length + 1 - 1) * 2 + 1 - i.length * 2 = 1 by omega]
      rfl
set_option maxRecDepth 100000 in
set_option maxHeartbeats 4000000 in
theorem rruns_any (b g n : Nat) (T : Nat → Bool) (w : World) (h : RefAt w b g n T) (hF : FMOk T n) : Calls Tryd.prog 35 #[.pointer (some ⟨b, 0, none⟩)] w fun e w' => ∃ v, e = .returned v ∧ w'.ownsRow w.heap.size 53 2 v (runs T n).length ((runs T n).flatMap runC) ∧ Below w.heap.size w w' := by
  have hn := hF.hi
  have c := h.ptr
  go_enter Tryd.func35, Tryd.ntmps35
  go_wp2_with fail
  clear c
  go_loopw [3, 4] (fun oo i wr => ∃ k : Nat, k ≤ n ∧ i = .int .i64 k ∧ Hid (wr.ownsRow w.heap.size 53 2 oo (runs T k).length ((runs T k).flatMap runC)) ∧ Hid (Below w.heap.size w wr)) (fun _ i _ => n - (intOf i).toNat)
  case atStart => exact ⟨0, by omega, rfl, World.ownsRow_nil w w.heap.size 53 2, Below.refl _ _⟩
  case round =>
    obtain ⟨k, hk, rfl, HO, HB⟩ := hrel
    have hr := h.below HB.out
    have c := hr.ptr
    by_cases hkn : k < n
    · have hc := hr.row.cell hkn
      have hrl := runs_len T k
      cases hT : T k with
      | true =>
        rw [hT] at hc
        have HP := Lib.hid (runs_used hT)
        clear hT hr
        go_wp2_with fail
        go_roundw
        case rel => exact ⟨k + 1, by omega, by go_num, by rw [HP.out]; exact HO, HB⟩
        case measure => simp [intOf]; omega
      | false =>
        rw [hT] at hc
        have hfirst : (k = 0 ∨ T (k - 1) = true) → runs T (k + 1) = runs T k ++ [(k, 1)] := runs_first hT
        by_cases hk0 : k = 0
        · have HP := Lib.hid (hfirst (.inl hk0))
          clear hT hfirst hr
          subst hk0
          go_wp2_with (at_builtin; go_loud (refine own_append_box w.heap.size rfl (.tmp 44) (.tmp 47) 33 53 rfl Tryd.underlying33 info_run rfl (by decide) _ (runs T 0).length _ #[.int .i64 0, .int .i64 1] rfl (by simp [Value.oneCell']) rfl rfl HO.out HB.out HB.out.size (by omega) (by omega) ?_); intro v1 w2 hown hB2 hsz2)
          go_roundw
          case rel => exact ⟨1, by omega, by go_num, by rw [HP.out, List.length_append, List.flatMap_append, List.flatMap_singleton]; exact hown, hB2⟩
          case measure => simp [intOf]; omega
        · obtain ⟨j, rfl⟩ : ∃ j, k = j + 1 := ⟨k - 1, by omega⟩
          have hc2 := hr.row.cell (show j < n by omega)
          cases hT2 : T j with
          | true =>
            rw [hT2] at hc2
            have HP := Lib.hid (hfirst (.inr hT2))
            clear hT hT2 hfirst hr hk0
            obtain ⟨R, hR⟩ : ∃ R, runs T (j + 1) = R := ⟨_, rfl⟩
            rw [hR] at HO HP hrl
            clear hR
            go_wp2_with (at_builtin; go_loud (refine own_append_box w.heap.size rfl (.tmp 44) (.tmp 47) 33 53 rfl Tryd.underlying33 info_run rfl (by decide) _ R.length _ #[.int .i64 ((j : Int) + 1), .int .i64 1] rfl (by simp [Value.oneCell']) rfl rfl HO.out HB.out HB.out.size (by omega) (by omega) ?_); intro v1 w2 hown hB2 hsz2)
            go_roundw
            case rel => exact ⟨j + 1 + 1, by omega, by go_num, by rw [HP.out, List.length_append, List.flatMap_append, List.flatMap_singleton]; exact hown, hB2⟩
            case measure => simp [intOf]; omega
          | false =>
            rw [hT2] at hc2
            have hmore := runs_more hT (by omega) (by rw [Nat.add_sub_cancel]; exact hT2)
            obtain ⟨ini, x, hl, hx⟩ := (runsI T (j + 1)).tip (by omega) (by rw [Nat.add_sub_cancel]; exact hT2)
            have hx1 : x.2 ≤ 1024 := by omega
            obtain ⟨ini2, x2, hl2, hb2, hat, hset⟩ := bump_flat (runs T (j + 1)) (by rw [hl]; simp)
            have hxe : x2 = x := by
              rw [hl] at hl2
              have := List.append_inj_right' hl2 rfl
              simpa using this.symm
            rw [hxe] at hat hset
            obtain ⟨m, hm⟩ : ∃ m, (runs T (j + 1)).length = m + 1 := ⟨(runs T (j + 1)).length - 1, by rw [hl]; simp⟩
            have hO := HO.out
            rw [hm] at hO hrl
            rw [hm, Nat.add_sub_cancel] at hat hset
            obtain ⟨g', cap, rfl⟩ := ownsRow_succ hO
            have k0 := (hO.cellAt (m * 2 + 1) (by omega)).trans hat
            have kf := hO.frozenAt (m * 2 + 1)
            have hgb := (hO.lt g' rfl).1
            have hst := (hO.stored (m * 2 + 1) (.int .i64 ((x.2 + 1 : Nat) : Int))).1
            rw [hset, ← hmore] at hst
            have hlen : (runs T (j + 1 + 1)).length = m + 1 := by rw [hmore, bump_len, hm]
            have HST := Lib.hid hst
            have HLN := Lib.hid hlen
            obtain ⟨x1, x2⟩ := x
            dsimp only at hx1 k0 HST
            clear hT hT2 hfirst hr hk0 hmore hl hx hl2 hb2 hat hset hxe hm hst hlen hO HO
            go_wp2_with fail
            go_region
            go_wp2
            go_roundw
            case rel => exact ⟨j + 1 + 1, by omega, by go_num, by rw [HLN.out]; exact World.ownsRow.drew HST.out, (HB.out.setCell hgb _).drew⟩
            case measure => simp [intOf]; omega
    · obtain rfl : k = n := by omega
      go_wp2_with fail
      go_ret
      exact ⟨_, rfl, HO.out, HB.out⟩
end Go.Proofs.YtdaeibbjoefofaaDoor
