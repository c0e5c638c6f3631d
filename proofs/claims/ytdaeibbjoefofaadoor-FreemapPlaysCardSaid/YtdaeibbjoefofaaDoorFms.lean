/- Two maps are alike. -/
import Derived.Test.YtdaeibbjoefofaaDoorFmq
import Derived.Deep.RegionHeld3
namespace Go.Proofs.YtdaeibbjoefofaaDoor
open Go.RowKit
set_option linter.unusedVariables false
set_option linter.unusedSimpArgs false

theorem key_pair : Tryd.prog.keyTypeAt 3 53 = true := by kernel_rfl
theorem c_int : Tryd.prog.cellsOf 3 = 1 := by kernel_rfl
theorem c_pair : Tryd.prog.cellsOf 53 = 2 := by kernel_rfl
theorem range2 : List.range 2 = [0, 1] := by decide
theorem lits_int {n : Int} (h : (Lit.int .i64 n).wf = true) : Tryd.prog.keyLits 2 3 [.int .i64 n] = some [.int .i64 n] := by
  unfold Program.keyLits
  rw [Tryd.underlying3]
  simp [h]
theorem lits_pair {a b : Int} (ha : (Lit.int .i64 a).wf = true) (hb : (Lit.int .i64 b).wf = true) : Tryd.prog.keyLits 3 53 [.int .i64 a, .int .i64 b] = some [.int .i64 a, .int .i64 b] := by
  unfold Program.keyLits
  rw [Tryd.underlying53]
  simp only [c_pair, c_int, range2, List.length_cons, List.length_nil]
  simp [lits_int ha, lits_int hb]
theorem formed_pair (a b : Int) : Value.formed Tryd.prog 53 (.agg #[.int .i64 a, .int .i64 b]) = true := by kernel_rfl
theorem pair_same {a b : Int} (ha : (Lit.int .i64 a).wf = true) (hb : (Lit.int .i64 b).wf = true) (W : World) : (binOp .neq 53 (.agg #[.int .i64 a, .int .i64 b]) (.agg #[.int .i64 a, .int .i64 b])).run Tryd.prog W = .ok (.bool false) W := by
  obtain ⟨r, hr, hiff⟩ := run_equalIn_deep (P := Tryd.prog) 9997 3 53 key_pair W 3 3 (.agg #[.int .i64 a, .int .i64 b]) (.agg #[.int .i64 a, .int .i64 b]) _ _ (formed_pair a b) (formed_pair a b) (lits_pair ha hb) (lits_pair ha hb)
  have : r = true := hiff.2 rfl
  subst this
  rw [run_neq_struct, hr]
  rfl
theorem wf_small {n : Nat} (h : n ≤ 5000) : (Lit.int .i64 (n : Int)).wf = true := by
  have m1 : IntKind.i64.min = -9223372036854775808 := rfl
  have m2 : IntKind.i64.max = 9223372036854775807 := rfl
  simp only [Lit.wf, Bool.and_eq_true, decide_eq_true_eq]
  omega
set_option maxRecDepth 100000 in
set_option maxHeartbeats 4000000 in
theorem alike_any (b n b' g' : Nat) (T : Nat → Bool) (w : World) (hM : MapAt w b T n) (hR : RefAt w b' g' n T) (hF : FMOk T n) : Calls Tryd.prog 20 #[.pointer (some ⟨b, 0, none⟩), .pointer (some ⟨b', 0, none⟩)] w fun e w' => e = .returned (.bool true) ∧ Below w.heap.size w w' := by
  have hn := hF.hi
  have HB0 := Below.refl w.heap.size w
  have c := hR.ptr
  go_enter Tryd.func20, Tryd.ntmps20
  go_wp2_with fail
  go_region_held3 (fun w' => w'.cell? ⟨b', 0, none⟩ = some (.slice (some ⟨g', 0, none⟩) n n) ∧ Below w.heap.size w w') (first | (refine And.intro ?_ ?_ <;> first | go_keep | (exact HB0.drew) | (exact (‹_ ∧ Below w.heap.size w _›).2.trans (hB1.mono (‹_ ∧ Below w.heap.size w _›).2.size)) | (exact (‹_ ∧ Below w.heap.size w _›).2.trans (hB2.mono (‹_ ∧ Below w.heap.size w _›).2.size)) | (exact keep_cell hB1 (‹_ ∧ Below w.heap.size w _›).1) | (exact keep_cell hB2 (‹_ ∧ Below w.heap.size w _›).1))) (first | (go_at_call 27; obtain ⟨_, hbS⟩ := ‹_ ∧ Below w.heap.size w _›; refine (len_any b n T _ (hM.below hbS)).mono ?_; rintro e w1 ⟨rfl, rfl⟩) | (go_at_call 12; obtain ⟨_, hbS⟩ := ‹_ ∧ Below w.heap.size w _›; refine (left_any b n T _ (hM.below hbS) hF).mono ?_; rintro e w1 ⟨rfl, rfl⟩) | (go_at_call 23; obtain ⟨_, hbS⟩ := ‹_ ∧ Below w.heap.size w _›; refine (rleft_any b' g' n T _ (hR.below hbS) hn).mono ?_; rintro e w1 ⟨rfl, rfl⟩) | (go_at_call 26; obtain ⟨_, hbS⟩ := ‹_ ∧ Below w.heap.size w _›; refine (put_any b n T _ (hM.below hbS) hF).mono ?_; rintro e w1 ⟨rfl, hB1⟩) | (go_at_call 34; obtain ⟨_, hbS⟩ := ‹_ ∧ Below w.heap.size w _›; refine (rput_any b' g' n T _ (hR.below hbS) hF).mono ?_; rintro e w1 ⟨rfl, hB2⟩))
  obtain ⟨_, hbS⟩ := ‹_ ∧ Below w.heap.size w _›
  have HBS := Lib.hid hbS
  clear c HB0 hbS
  go_wp2_with fail
  refine (runs_any b n T _ (hM.below HBS.out) hF).mono ?_
  rintro e w4 ⟨v4, rfl, ho4, hB4⟩
  have HB4 := Lib.hid (HBS.out.trans (hB4.mono HBS.out.size))
  go_wp2_with fail
  refine (rruns_any b' g' n T _ (hR.below HB4.out) hF).mono ?_
  rintro e w5 ⟨v5, rfl, ho5, hB5⟩
  have HB5 := Lib.hid (HB4.out.trans (hB5.mono HB4.out.size))
  obtain ⟨a4, c4, rfl, hc4, hr4⟩ := (RdR.own ho4).below hB5
  obtain ⟨a5, c5, rfl, hc5, hr5⟩ := RdR.own ho5
  have HR4 := Lib.hid hr4
  have HR5 := Lib.hid hr5
  have HRI := Lib.hid (runsI T n)
  have hrl := runs_len T n
  clear ho4 ho5 hB4 hB5 hr4 hr5 HBS HB4
  obtain ⟨L, hL⟩ : ∃ L, runs T n = L := ⟨_, rfl⟩
  rw [hL] at HR4 HR5 HRI hrl hc4 hc5 ⊢
  clear hL
  go_wp2_with fail
  go_loopw [7] (fun i wr => ∃ k : Nat, k ≤ L.length ∧ i = .int .i64 k ∧ Hid (Below w5.heap.size w5 wr)) (fun i _ => L.length - (intOf i).toNat)
  case atStart => exact ⟨0, by omega, rfl, Below.refl _ _⟩
  case round =>
    obtain ⟨k, hk, rfl, HI⟩ := hrel
    by_cases hkl : k < L.length
    · obtain ⟨x, hx⟩ : ∃ x, L[k]? = some x := ⟨_, List.getElem?_eq_getElem hkl⟩
      obtain ⟨b4, rfl, x0, x1⟩ := HR4.out k x hx
      obtain ⟨b5, rfl, y0, y1⟩ := HR5.out k x hx
      have p0 := keep_cell HI.out x0
      have p1 := keep_cell HI.out x1
      have q0 := keep_cell HI.out y0
      have q1 := keep_cell HI.out y1
      obtain ⟨o1, o2, _⟩ := HRI.out.one k x hx
      have hne := fun W => pair_same (wf_small (show x.1 ≤ 5000 by omega)) (wf_small (show x.2 ≤ 5000 by omega)) W
      obtain ⟨xa, xb⟩ := x
      dsimp only at p0 p1 q0 q1 hne
      clear hx x0 x1 y0 y1 o1 o2
      go_wp2_with fail
      go_quiet (fail)
      go_wp2
      go_roundw
      case rel => exact ⟨k + 1, by omega, by go_num, below_drewN HI.out _⟩
      case measure => simp [intOf]; omega
    · have HB6 := Lib.hid (HB5.out.trans (HI.out.mono HB5.out.size))
      have hM6 := hM.below HB6.out
      have hR6 := hR.below HB6.out
      have c := hR6.ptr
      obtain ⟨wo, rfl⟩ : ∃ wo : World, wo = wr := ⟨_, rfl⟩
      go_wp2_with fail
      go_loop [8] (fun i => ∃ j : Nat, j ≤ n + 2 ∧ i = .int .i64 ((j : Int) - 1)) (fun i => n + 3 - (intOf i + 1).toNat)
      case atStart => exact ⟨0, by omega, rfl⟩
      case round =>
        obtain ⟨j, hj, rfl⟩ := hrel
        by_cases hjn : j < n + 2
        · obtain ⟨v, hv⟩ : ∃ v, hasB T n ((j : Int) - 1) = v := ⟨_, rfl⟩
          have HV := Lib.hid hv
          clear hv
          cases v
          all_goals
            go_wp2_with fail
            have q := has_any b n T ((j : Int) - 1) wo hM6 hF
            rw [HV.out] at q
            refine q.mono ?_
            clear q
            rintro e w7 ⟨rfl, rfl⟩
            go_wp2_with fail
            have q := rhas_any b' g' n T ((j : Int) - 1) wo hR6
            rw [HV.out] at q
            refine q.mono ?_
            clear q
            rintro e w7 ⟨rfl, rfl⟩
            go_wp2_with fail
            go_round
            case rel => exact ⟨j + 1, by omega, by go_num⟩
            case measure => simp [intOf]; omega
        · go_wp2_with fail
          go_ret
          exact ⟨rfl, HB6.out⟩
end Go.Proofs.YtdaeibbjoefofaaDoor
