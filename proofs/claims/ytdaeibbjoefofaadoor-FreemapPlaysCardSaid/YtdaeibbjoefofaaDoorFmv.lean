/- FreemapPlays: the walk. -/
import Derived.Test.YtdaeibbjoefofaaDoorFms
import Derived.Test.YtdaeibbjoefofaaDoorFmt
import Derived.Test.YtdaeibbjoefofaaDoorFmu
namespace Go.Proofs.YtdaeibbjoefofaaDoor
open Go.RowKit
set_option linter.unusedVariables false
set_option linter.unusedSimpArgs false

/-- What holds at the loop's head. -/
structure HeadP (w : World) (b b' g n : Nat) (T : Nat → Bool) (wr : World) : Prop where
  m : MapAt wr b T n
  r : RefAt wr b' g n T
  ok : FMOk T n
  bel : Below w.heap.size w wr
  lo : w.heap.size ≤ b
  log : w.heap.size ≤ g
  lt : g < wr.heap.size
  n1 : b ≠ b'
  n2 : b ≠ g
theorem HeadP.below {w w1 w2 : World} {b b' g n : Nat} {T : Nat → Bool} (h : HeadP w b b' g n T w1) (hB : Below w1.heap.size w1 w2) : HeadP w b b' g n T w2 :=
  ⟨h.m.below hB, h.r.below hB, h.ok, h.bel.trans (hB.mono h.bel.size), h.lo, h.log, Nat.lt_of_lt_of_le h.lt hB.size, h.n1, h.n2⟩
theorem HeadP.turn {w w1 w2 w3 : World} {b b' g n : Nat} {T T' : Nat → Bool} (h : HeadP w b b' g n T w1) (hT : FMOk T' n) (hM : MapAt w2 b T' n) (hg : w1.grownBy w2 (some b)) (hR : RefAt w3 b' g n T') (hg' : w2.grownBy w3 (some g)) : HeadP w b b' g n T' w3 := by
  have h1 := below_grown h.bel hg h.lo h.m.lt
  have h2 := hg.size
  exact ⟨hM.grown hg' (by simpa using h.n2), hR, hT, below_grown h1 hg' h.log (Nat.lt_of_lt_of_le h.lt h2), h.lo, h.log, Nat.lt_of_lt_of_le h.lt (Nat.le_trans h2 hg'.size), h.n1, h.n2⟩
theorem HeadP.side {w w1 w2 : World} {b b' g n c : Nat} {T : Nat → Bool} (h : HeadP w b b' g n T w1) (hg : w1.grownBy w2 (some c)) (h0 : w.heap.size ≤ c) (hc : c < w1.heap.size) (h1 : b ≠ c) (h2 : b' ≠ c) (h3 : g ≠ c) : HeadP w b b' g n T w2 :=
  ⟨h.m.grown hg (by simpa using h1), h.r.grown hg (by simpa using h2) (by simpa using h3), h.ok, below_grown h.bel hg h0 hc, h.lo, h.log, Nat.lt_of_lt_of_le h.lt hg.size, h.n1, h.n2⟩
theorem HeadP.copy {w w1 w2 : World} {b b' g n b2 : Nat} {T : Nat → Bool} (h : HeadP w b b' g n T w1) (hb : b2 = w1.heap.size) (hM : MapAt w2 b2 T n) (hB : Below w1.heap.size w1 w2) : HeadP w b2 b' g n T w2 := by
  have h1 := h.bel.size
  have h2 := h.r.lt
  have h3 := h.lt
  exact ⟨hM, h.r.below hB, h.ok, h.bel.trans (hB.mono h1), by omega, h.log, Nat.lt_of_lt_of_le h.lt hB.size, by omega, by omega⟩
theorem copy_all (b n : Nat) (T : Nat → Bool) (w : World) (h : MapAt w b T n) : Calls Tryd.prog 19 #[.pointer (some ⟨b, 0, none⟩)] w fun e w' => ∃ b2, b2 = w.heap.size ∧ e = .returned (.pointer (some ⟨b2, 0, none⟩)) ∧ MapAt w' b2 T n ∧ Below w.heap.size w w' := by
  refine (copy_any b n T w h).mono ?_
  rintro e w1 ⟨rfl, hw1⟩
  exact ⟨_, rfl, rfl, MapAt.new (by rw [hw1]; exact heap_alloc_new w _), by rw [hw1]; exact (Below.refl _ _).alloc (Nat.le_refl _) _⟩
theorem take_side (b n : Nat) (T : Nat → Bool) (w : World) (hM : MapAt w b T n) (hF : FMOk T n) (hT : TabD w) : Calls Tryd.prog 11 #[.pointer (some ⟨b, 0, none⟩)] w fun e w' =>
    ∃ (T' : Nat → Bool) (i c : Int), e = .returned (.tuple #[.int .i64 i, .int .i64 c]) ∧ FMOk T' n ∧ MapAt w' b T' n ∧ w.grownBy w' (some b) := by
  refine (take_any b n T w hM hF hT).mono ?_
  rintro e w3 (⟨i, hL, hi, rfl, hM3, hg3⟩ | ⟨_, rfl, rfl⟩)
  · exact ⟨_, _, _, rfl, hF.turn _ _, hM3, hg3⟩
  · exact ⟨T, _, _, rfl, hF, hM, grown_refl _ _⟩
theorem give_side (b n : Nat) (T : Nat → Bool) (i : Int) (w : World) (hM : MapAt w b T n) (hF : FMOk T n) : Calls Tryd.prog 14 #[.pointer (some ⟨b, 0, none⟩), .int .i64 i] w fun e w' =>
    ∃ (c : Int), e = .returned (.int .i64 c) ∧ w.grownBy w' (some b) := by
  refine (give_any b n T i w hM hF).mono ?_
  rintro e w3 ⟨rfl, _, hg⟩
  exact ⟨_, rfl, hg⟩
theorem use_side (b n : Nat) (T : Nat → Bool) (i : Int) (w : World) (hM : MapAt w b T n) (hF : FMOk T n) : Calls Tryd.prog 10 #[.pointer (some ⟨b, 0, none⟩), .int .i64 i] w fun e w' =>
    ∃ (T' : Nat → Bool) (c : Int), e = .returned (.int .i64 c) ∧ FMOk T' n ∧ MapAt w' b T' n ∧ w.grownBy w' (some b) := by
  refine (use_any b n T i w hM hF).mono ?_
  rintro e w3 ⟨rfl, h2, hg⟩
  exact ⟨_, _, rfl, hF.turn _ _, h2, hg⟩
set_option maxRecDepth 100000 in
set_option maxHeartbeats 4000000 in
theorem plays_any (n0 : Int) (l : List (Int × Int)) (v1 : Value) (w : World) (h1 : RdQ w v1 l) (hl1 : l.length ≤ maxLen) (hT : TabD w) :
    Calls Tryd.prog 4 #[.int .i64 n0, v1] w fun e w' => e = .returned (.bool true) ∧ Below w.heap.size w w' := by
  obtain ⟨a1, c1, rfl, hc1, hr1⟩ := h1
  have HR1 := Lib.hid hr1
  unfold maxLen at hl1
  have HT := Lib.hid hT
  clear hr1 hT
  by_cases hz : sizeB n0 = true
  case neg =>
    have hz' : sizeB n0 = false := by simpa using hz
    clear hz
    go_enter Tryd.func4, Tryd.ntmps4
    go_wp2_with fail
    refine (new_no n0 w hz').mono ?_
    rintro e w1 ⟨rfl, rfl⟩
    go_wp2_with fail
    refine (rnew_no n0 w hz').mono ?_
    rintro e w1 ⟨rfl, rfl⟩
    go_wp2_with fail
    refine (works_any w HT.out).mono ?_
    rintro e w1 ⟨rfl, hB⟩
    go_wp2_with fail
    go_ret
    exact ⟨rfl, hB⟩
  obtain ⟨n, rfl, hn1, hn2⟩ := size_nat hz
  clear hz
  go_enter Tryd.func4, Tryd.ntmps4
  go_wp2_with fail
  refine (new_yes n w hn1 hn2).mono ?_
  rintro e w1 ⟨rfl, hw1⟩
  have hM1 : MapAt w1 w.heap.size (fun _ => false) n := MapAt.new (by rw [hw1]; exact heap_alloc_new w _)
  have hB1 : Below w.heap.size w w1 := by rw [hw1]; exact (Below.refl _ _).alloc (Nat.le_refl _) _
  have hs1 := hM1.lt
  clear hw1
  go_wp2_with fail
  refine (rnew_yes n w1 hn1 hn2).mono ?_
  rintro e w2 ⟨rfl, hR, hB⟩
  have HH0 : Hid (HeadP w w.heap.size (w1.heap.size + 1) w1.heap.size n (fun _ => false) w2) :=
    ⟨hM1.below hB, hR, ⟨hn1, hn2, fun _ _ => rfl⟩, hB1.trans (hB.mono hB1.size), Nat.le_refl _, hB1.size, Nat.lt_of_succ_lt hR.lt, by omega, by omega⟩
  clear hM1 hB1 hR hB
  generalize hg : w1.heap.size = g at HH0 ⊢
  generalize hb' : g + 1 = b' at HH0 ⊢
  clear hg hs1
  go_wp2_with fail
  go_loopw [5, 7] (fun a i wr => ∃ (k b : Nat) (T : Nat → Bool), k ≤ l.length ∧ k ≤ 60 ∧ a = .pointer (some ⟨b, 0, none⟩) ∧ i = .int .i64 k ∧ Hid (HeadP w b b' g n T wr)) (fun _ i _ => l.length - (intOf i).toNat)
  case atStart => exact ⟨0, _, _, by omega, by omega, rfl, rfl, HH0⟩
  case round =>
    clear HH0
    obtain ⟨k, b, T, hk, hk2, rfl, rfl, HH⟩ := hrel
    by_cases hlt : k < l.length ∧ k < 60
    · obtain ⟨hk1, hk3⟩ := hlt
      obtain ⟨⟨wh, x⟩, hx⟩ : ∃ x, l[k]? = some x := ⟨_, List.getElem?_eq_getElem hk1⟩
      obtain ⟨⟨⟨hx0, hx1⟩, hx2, hx3⟩, ba, o, rfl, hc0, hc1'⟩ := HR1.out k _ hx
      have cx := keep_cell HH.out.bel hc0
      have cy := keep_cell HH.out.bel hc1'
      clear hx hc0 hc1'
      dsimp only at hx0 hx1 hx2 hx3 cx cy
      obtain ⟨r, hr⟩ : ∃ r : Int, wh.tmod 5 = r := ⟨_, rfl⟩
      have hr5 : r = 0 ∨ r = 1 ∨ r = 2 ∨ r = 3 ∨ r = 4 := by
        rw [Int.tmod_eq_emod_of_nonneg hx0] at hr
        omega
      have HRR := Lib.hid hr
      clear hr
      go_wp2_with fail
      · obtain ⟨c, hcq⟩ : ∃ c, turnC T n x true 12 = c := ⟨_, rfl⟩
        have HC := Lib.hid hcq
        clear hcq
        have q := use_any b n T x _ HH.out.m HH.out.ok
        rw [HC.out] at q
        refine q.mono ?_
        clear q
        rintro e w3 ⟨rfl, hM, hg3⟩
        have HM := Lib.hid hM
        have HG := Lib.hid hg3
        clear hM hg3
        go_wp2_with fail
        have q := ruse_any b' g n T x w3 (HH.out.r.grown HG.out (by have := HH.out.n1; simp; omega) (by have := HH.out.n2; simp; omega))
        rw [HC.out] at q
        refine q.mono ?_
        clear q
        rintro e w4 ⟨rfl, hR, hg4⟩
        have HH2 : Hid (HeadP w b b' g n (turnT T n x true) w4) := HH.out.turn (HH.out.ok.turn _ _) HM.out HG.out hR hg4
        clear HM HG hR hg4 HC HH
        obtain ⟨v, hv⟩ : ∃ v, hasB (turnT T n x true) n x = v := ⟨_, rfl⟩
        have HV := Lib.hid hv
        clear hv
        obtain ⟨lf, hlf⟩ : ∃ v, leftN (turnT T n x true) n = v := ⟨_, rfl⟩
        have HL := Lib.hid hlf
        clear hlf
        go_wp2_with fail
        have q := has_any b n (turnT T n x true) x _ HH2.out.m HH2.out.ok
        rw [HV.out] at q
        refine q.mono ?_
        clear q
        rintro e wt ⟨rfl, rfl⟩
        cases v
        all_goals
          go_wp2_with fail
          have q := rhas_any b' g n (turnT T n x true) x _ HH2.out.r
          rw [HV.out] at q
          refine q.mono ?_
          clear q
          rintro e wt ⟨rfl, rfl⟩
          go_wp2_with fail
          have q := left_any b n (turnT T n x true) _ HH2.out.m HH2.out.ok
          rw [HL.out] at q
          refine q.mono ?_
          clear q
          rintro e wt ⟨rfl, rfl⟩
          go_wp2_with fail
          have q := rleft_any b' g n (turnT T n x true) _ HH2.out.r hn2
          rw [HL.out] at q
          refine q.mono ?_
          clear q
          rintro e wt ⟨rfl, rfl⟩
          go_wp2_with fail
          go_roundw
          case rel => exact ⟨k + 1, b, (turnT T n x true), by omega, by omega, rfl, by go_num, HH2⟩
          case measure => simp [intOf]; omega
      · obtain ⟨c, hcq⟩ : ∃ c, turnC T n x false 13 = c := ⟨_, rfl⟩
        have HC := Lib.hid hcq
        clear hcq
        have q := give_any b n T x _ HH.out.m HH.out.ok
        rw [HC.out] at q
        refine q.mono ?_
        clear q
        rintro e w3 ⟨rfl, hM, hg3⟩
        have HM := Lib.hid hM
        have HG := Lib.hid hg3
        clear hM hg3
        go_wp2_with fail
        have q := rgive_any b' g n T x w3 (HH.out.r.grown HG.out (by have := HH.out.n1; simp; omega) (by have := HH.out.n2; simp; omega))
        rw [HC.out] at q
        refine q.mono ?_
        clear q
        rintro e w4 ⟨rfl, hR, hg4⟩
        have HH2 : Hid (HeadP w b b' g n (turnT T n x false) w4) := HH.out.turn (HH.out.ok.turn _ _) HM.out HG.out hR hg4
        clear HM HG hR hg4 HC HH
        obtain ⟨v, hv⟩ : ∃ v, hasB (turnT T n x false) n x = v := ⟨_, rfl⟩
        have HV := Lib.hid hv
        clear hv
        obtain ⟨lf, hlf⟩ : ∃ v, leftN (turnT T n x false) n = v := ⟨_, rfl⟩
        have HL := Lib.hid hlf
        clear hlf
        go_wp2_with fail
        have q := has_any b n (turnT T n x false) x _ HH2.out.m HH2.out.ok
        rw [HV.out] at q
        refine q.mono ?_
        clear q
        rintro e wt ⟨rfl, rfl⟩
        cases v
        all_goals
          go_wp2_with fail
          have q := rhas_any b' g n (turnT T n x false) x _ HH2.out.r
          rw [HV.out] at q
          refine q.mono ?_
          clear q
          rintro e wt ⟨rfl, rfl⟩
          go_wp2_with fail
          have q := left_any b n (turnT T n x false) _ HH2.out.m HH2.out.ok
          rw [HL.out] at q
          refine q.mono ?_
          clear q
          rintro e wt ⟨rfl, rfl⟩
          go_wp2_with fail
          have q := rleft_any b' g n (turnT T n x false) _ HH2.out.r hn2
          rw [HL.out] at q
          refine q.mono ?_
          clear q
          rintro e wt ⟨rfl, rfl⟩
          go_wp2_with fail
          go_roundw
          case rel => exact ⟨k + 1, b, (turnT T n x false), by omega, by omega, rfl, by go_num, HH2⟩
          case measure => simp [intOf]; omega
      · refine (take_any b n T _ HH.out.m HH.out.ok (HT.out.below HH.out.bel)).mono ?_
        rintro e w3 (⟨i, hL, hi, rfl, hM, hg3⟩ | ⟨hF, rfl, rfl⟩)
        · have HM := Lib.hid hM
          have HG := Lib.hid hg3
          have HLo := Lib.hid hL
          clear hM hg3 hL
          go_wp2_with fail
          refine (rtake_any b' g n T w3 (HH.out.r.grown HG.out (by have := HH.out.n1; simp; omega) (by have := HH.out.n2; simp; omega)) hn2).mono ?_
          rintro e w4 (⟨j, hL, hj, rfl, hR, hg4⟩ | ⟨hF, rfl, rfl⟩)
          case inr => exact absurd (hF _ hi) (by rw [HLo.out.1]; decide)
          obtain rfl := low_eq HLo.out hL
          have HH2 : Hid (HeadP w b b' g n (turnT T n (i : Int) true) w4) := HH.out.turn (HH.out.ok.turn _ _) HM.out HG.out hR hg4
          clear HM HG hR hg4 HH hL
          obtain ⟨v, hv⟩ : ∃ v, hasB (turnT T n (i : Int) true) n x = v := ⟨_, rfl⟩
          have HV := Lib.hid hv
          clear hv
          obtain ⟨lf, hlf⟩ : ∃ v, leftN (turnT T n (i : Int) true) n = v := ⟨_, rfl⟩
          have HL := Lib.hid hlf
          clear hlf
          go_wp2_with fail
          have q := has_any b n (turnT T n (i : Int) true) x _ HH2.out.m HH2.out.ok
          rw [HV.out] at q
          refine q.mono ?_
          clear q
          rintro e wt ⟨rfl, rfl⟩
          cases v
          all_goals
            go_wp2_with fail
            have q := rhas_any b' g n (turnT T n (i : Int) true) x _ HH2.out.r
            rw [HV.out] at q
            refine q.mono ?_
            clear q
            rintro e wt ⟨rfl, rfl⟩
            go_wp2_with fail
            have q := left_any b n (turnT T n (i : Int) true) _ HH2.out.m HH2.out.ok
            rw [HL.out] at q
            refine q.mono ?_
            clear q
            rintro e wt ⟨rfl, rfl⟩
            go_wp2_with fail
            have q := rleft_any b' g n (turnT T n (i : Int) true) _ HH2.out.r hn2
            rw [HL.out] at q
            refine q.mono ?_
            clear q
            rintro e wt ⟨rfl, rfl⟩
            go_wp2_with fail
            go_roundw
            case rel => exact ⟨k + 1, b, (turnT T n (i : Int) true), by omega, by omega, rfl, by go_num, HH2⟩
            case measure => simp [intOf]; omega
        · have HFu := Lib.hid hF
          clear hF
          go_wp2_with fail
          refine (rtake_any b' g n T _ HH.out.r hn2).mono ?_
          rintro e w4 (⟨j, hL, hj, rfl, hR, hg4⟩ | ⟨hF, rfl, rfl⟩)
          case inl => exact absurd (HFu.out _ hj) (by rw [hL.1]; decide)
          clear hF
          obtain ⟨v, hv⟩ : ∃ v, hasB T n x = v := ⟨_, rfl⟩
          have HV := Lib.hid hv
          clear hv
          obtain ⟨lf, hlf⟩ : ∃ v, leftN T n = v := ⟨_, rfl⟩
          have HL := Lib.hid hlf
          clear hlf
          go_wp2_with fail
          have q := has_any b n T x _ HH.out.m HH.out.ok
          rw [HV.out] at q
          refine q.mono ?_
          clear q
          rintro e wt ⟨rfl, rfl⟩
          cases v
          all_goals
            go_wp2_with fail
            have q := rhas_any b' g n T x _ HH.out.r
            rw [HV.out] at q
            refine q.mono ?_
            clear q
            rintro e wt ⟨rfl, rfl⟩
            go_wp2_with fail
            have q := left_any b n T _ HH.out.m HH.out.ok
            rw [HL.out] at q
            refine q.mono ?_
            clear q
            rintro e wt ⟨rfl, rfl⟩
            go_wp2_with fail
            have q := rleft_any b' g n T _ HH.out.r hn2
            rw [HL.out] at q
            refine q.mono ?_
            clear q
            rintro e wt ⟨rfl, rfl⟩
            go_wp2_with fail
            go_roundw
            case rel => exact ⟨k + 1, b, T, by omega, by omega, rfl, by go_num, HH⟩
            case measure => simp [intOf]; omega
      · refine (copy_all b n T _ HH.out.m).mono ?_
        rintro e w3 ⟨b2, hb2, rfl, hM, hB⟩
        have HH1 : Hid (HeadP w b2 b' g n T w3) := HH.out.copy hb2 hM hB
        have hne : b2 ≠ b := by have := HH.out.m.lt; omega
        have hlo := HH.out.lo
        have hn1' := HH.out.n1
        have hn2' := HH.out.n2
        have hMb := HH.out.m.below hB
        have hok := HH.out.ok
        clear hM hB HH hb2
        go_wp2_with fail
        refine (take_side b n T w3 hMb hok (HT.out.below HH1.out.bel)).mono ?_
        rintro e w4 ⟨T4, i4, c4, rfl, hok4, hM4, hg4⟩
        have HH2 : Hid (HeadP w b2 b' g n T w4) := HH1.out.side hg4 hlo hMb.lt hne (Ne.symm hn1') (Ne.symm hn2')
        clear HH1 hMb hok hg4
        go_wp2_with fail
        refine (give_side b n T4 x w4 hM4 hok4).mono ?_
        rintro e w5 ⟨c5, rfl, hg5⟩
        have HH3 : Hid (HeadP w b2 b' g n T w5) := HH2.out.side hg5 hlo hM4.lt hne (Ne.symm hn1') (Ne.symm hn2')
        clear HH2 hM4 hok4 hg5 hlo hn1' hn2' hne
        obtain ⟨v, hv⟩ : ∃ v, hasB T n x = v := ⟨_, rfl⟩
        have HV := Lib.hid hv
        clear hv
        obtain ⟨lf, hlf⟩ : ∃ v, leftN T n = v := ⟨_, rfl⟩
        have HL := Lib.hid hlf
        clear hlf
        go_wp2_with fail
        have q := has_any b2 n T x _ HH3.out.m HH3.out.ok
        rw [HV.out] at q
        refine q.mono ?_
        clear q
        rintro e wt ⟨rfl, rfl⟩
        cases v
        all_goals
          go_wp2_with fail
          have q := rhas_any b' g n T x _ HH3.out.r
          rw [HV.out] at q
          refine q.mono ?_
          clear q
          rintro e wt ⟨rfl, rfl⟩
          go_wp2_with fail
          have q := left_any b2 n T _ HH3.out.m HH3.out.ok
          rw [HL.out] at q
          refine q.mono ?_
          clear q
          rintro e wt ⟨rfl, rfl⟩
          go_wp2_with fail
          have q := rleft_any b' g n T _ HH3.out.r hn2
          rw [HL.out] at q
          refine q.mono ?_
          clear q
          rintro e wt ⟨rfl, rfl⟩
          go_wp2_with fail
          go_roundw
          case rel => exact ⟨k + 1, b2, T, by omega, by omega, rfl, by go_num, HH3⟩
          case measure => simp [intOf]; omega
      · refine (copy_all b n T _ HH.out.m).mono ?_
        rintro e w3 ⟨b2, hb2, rfl, hM, hB⟩
        have HM := Lib.hid hM
        have hne := hb2
        have hne1 : b ≠ b2 := by have := HH.out.m.lt; omega
        have hne2 : b' ≠ b2 := by have := HH.out.r.lt; omega
        have hne3 : g ≠ b2 := by have := HH.out.lt; omega
        have hlo : w.heap.size ≤ b2 := by have := HH.out.bel.size; omega
        have HH1 : Hid (HeadP w b b' g n T w3) := HH.out.below hB
        clear hM hB HH hb2 hne
        go_wp2_with fail
        refine (alike_any b2 n b' g T w3 HM.out HH1.out.r HH1.out.ok).mono ?_
        rintro e w4 ⟨rfl, hB⟩
        have HH2 : Hid (HeadP w b b' g n T w4) := HH1.out.below hB
        have HM4 := Lib.hid (HM.out.below hB)
        clear HH1 HM hB
        go_wp2_with fail
        refine (use_side b2 n T x w4 HM4.out HH2.out.ok).mono ?_
        rintro e w5 ⟨T5, c5, rfl, hok5, hM5, hg5⟩
        have HH3 : Hid (HeadP w b b' g n T w5) := HH2.out.side hg5 hlo HM4.out.lt hne1 hne2 hne3
        clear HH2 HM4 hg5
        go_wp2_with fail
        refine (take_side b2 n T5 w5 hM5 hok5 (HT.out.below HH3.out.bel)).mono ?_
        rintro e w6 ⟨T6, i6, c6, rfl, hok6, hM6, hg6⟩
        have HH4 : Hid (HeadP w b b' g n T w6) := HH3.out.side hg6 hlo hM5.lt hne1 hne2 hne3
        clear HH3 hM5 hok5 hg6 hok6 hM6 hne1 hne2 hne3 hlo
        obtain ⟨v, hv⟩ : ∃ v, hasB T n x = v := ⟨_, rfl⟩
        have HV := Lib.hid hv
        clear hv
        obtain ⟨lf, hlf⟩ : ∃ v, leftN T n = v := ⟨_, rfl⟩
        have HL := Lib.hid hlf
        clear hlf
        go_wp2_with fail
        have q := has_any b n T x _ HH4.out.m HH4.out.ok
        rw [HV.out] at q
        refine q.mono ?_
        clear q
        rintro e wt ⟨rfl, rfl⟩
        cases v
        all_goals
          go_wp2_with fail
          have q := rhas_any b' g n T x _ HH4.out.r
          rw [HV.out] at q
          refine q.mono ?_
          clear q
          rintro e wt ⟨rfl, rfl⟩
          go_wp2_with fail
          have q := left_any b n T _ HH4.out.m HH4.out.ok
          rw [HL.out] at q
          refine q.mono ?_
          clear q
          rintro e wt ⟨rfl, rfl⟩
          go_wp2_with fail
          have q := rleft_any b' g n T _ HH4.out.r hn2
          rw [HL.out] at q
          refine q.mono ?_
          clear q
          rintro e wt ⟨rfl, rfl⟩
          go_wp2_with fail
          go_roundw
          case rel => exact ⟨k + 1, b, T, by omega, by omega, rfl, by go_num, HH4⟩
          case measure => simp [intOf]; omega
    · by_cases hk1 : k < l.length
      all_goals
        go_wp2_with fail
        refine (alike_any b n b' g T wr HH.out.m HH.out.r HH.out.ok).mono ?_
        rintro e w3 ⟨rfl, hB⟩
        have HH1 : Hid (HeadP w b b' g n T w3) := HH.out.below hB
        clear HH hB
        go_wp2_with fail
        refine (works_any w3 (HT.out.below HH1.out.bel)).mono ?_
        rintro e w4 ⟨rfl, hB⟩
        have HB := Lib.hid (HH1.out.bel.trans (hB.mono HH1.out.bel.size))
        clear HH1 hB
        go_wp2_with fail
        go_ret
        exact ⟨rfl, HB.out⟩
end Go.Proofs.YtdaeibbjoefofaaDoor
