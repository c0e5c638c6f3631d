/- HallBack: the walk. -/
import Derived.Test.YtpbfabcihoiiiaaHlB
import Derived.Test.YtpbfabcihoiiiaaHlC
namespace Go.Proofs.Ytpbfabcihoiiiaa
open Go.RowKit
set_option linter.unusedVariables false
set_option linter.unusedSimpArgs false

/-- May the first k rows be? -/
def mayK (R : List HRow) (k : Nat) : Bool := decide (0 < R.length) && (R.take k).all (fun r => decide (r.2 ≠ 0))
theorem mayK_all {l : List (Int × Int)} : okH (ofR l) = mayK (ofR l) (ofR l).length := by
  have h8 : (ofR l).length ≤ 8 := by unfold ofR; rw [List.length_map, List.length_take]; omega
  have hr : ∀ r ∈ ofR l, okR r = decide (r.2 ≠ 0) := by
    intro r hr
    unfold ofR at hr
    rw [List.mem_map] at hr
    obtain ⟨x, _, rfl⟩ := hr
    unfold okR row1
    have h1 : 0 ≤ x.1 % 3 := by omega
    have h2 : x.1 % 3 ≤ 2 := by omega
    simp [h1, h2]
  unfold okH mayK
  rw [List.take_length, Bool.eq_iff_iff]
  simp only [Bool.and_eq_true, decide_eq_true_eq, List.all_eq_true]
  constructor
  · rintro ⟨⟨h1, _⟩, h3⟩
    exact ⟨List.length_pos_iff.2 h1, fun r hr' => by have := h3 r hr'; rw [hr r hr'] at this; simpa using this⟩
  · rintro ⟨h1, h3⟩
    exact ⟨⟨List.length_pos_iff.1 h1, h8⟩, fun r hr' => by rw [hr r hr']; simpa using h3 r hr'⟩
theorem mayK_step {R : List HRow} {k : Nat} {r : HRow} (h : R[k]? = some r) : mayK R (k + 1) = (mayK R k && decide (r.2 ≠ 0)) := by
  unfold mayK
  rw [List.take_add_one, h, List.all_append, Bool.and_assoc]
  simp
theorem ofR_len (l : List (Int × Int)) : (ofR l).length ≤ 8 := by unfold ofR; rw [List.length_map, List.length_take]; omega
theorem string_toList (a b : List UInt8) (h : a = b) : (⟨a.toArray⟩ : ByteArray) = ⟨b.toArray⟩ := by rw [h]
theorem ba_eq (s : ByteArray) : (⟨s.data.toList.toArray⟩ : ByteArray) = s := rfl

set_option maxRecDepth 100000 in
set_option maxHeartbeats 8000000 in
theorem back_any (l : List (Int × Int)) (v : Value) (s : ByteArray) (w : World) (hv : RdU w v l) (hl : l.length ≤ maxLen) (hs : s.size ≤ 140737488351232) :
    Calls Try.prog 3 #[v, .string s] w fun e w' => e = .returned (.bool true) ∧ Below w.heap.size w w' := by
  have HV := Lib.hid hv
  clear hv
  go_enter Try.func3, Try.ntmps3
  go_wp2_with fail
  refine (works_any _).mono ?_
  rintro e w1 ⟨rfl, hB1⟩
  have HB := Lib.hid hB1
  clear hB1
  go_wp2_with fail
  refine (of_any l v w1 (HV.out.below HB.out) hl).mono ?_
  rintro e w2 ⟨v2, rfl, hR, hB2⟩
  replace HB := Lib.hid (trans' HB.out hB2)
  have hRl := ofR_len l
  have HMA := Lib.hid (mayK_all (l := l))
  clear hB2 HV
  obtain ⟨R, hRR⟩ : ∃ R, R = ofR l := ⟨_, rfl⟩
  rw [← hRR] at hR hRl HMA
  clear hRR
  obtain ⟨a, c, rfl, hc, hr⟩ := hR
  have HR : Hid (RdH w2 (.slice a R.length c) R) := ⟨a, c, rfl, hc, hr⟩
  clear hr
  go_wp2_with fail
  obtain ⟨W1, hW1⟩ : ∃ W1, W1 = w2.alloc (.cells #[.slice a R.length c] 26) := ⟨_, rfl⟩
  have hB3 : Below w2.heap.size w2 W1 := by rw [hW1]; exact (Below.refl _ _).alloc (Nat.le_refl _) _
  have ch : W1.cell? ⟨w2.heap.size, 0, none⟩ = some (.slice a R.length c) := by rw [hW1]; go_cell
  rw [← hW1]
  clear hW1
  replace HB := Lib.hid (trans' HB.out hB3)
  have HR1 := Lib.hid (HR.out.below hB3)
  clear hB3 HR
  generalize hhb : w2.heap.size = hb at ch ⊢
  clear hhb
  go_loop [6, 7] (fun m i => ∃ k : Nat, k ≤ R.length ∧ i = .int .i64 k ∧ m = .bool (mayK R k)) (fun _ i => R.length - (intOf i).toNat)
  case atStart =>
    refine ⟨0, Nat.zero_le _, rfl, ?_⟩
    unfold mayK
    simp
  case round =>
    obtain ⟨k, hk, rfl, rfl⟩ := hrel
    obtain ⟨v, hmv⟩ : ∃ v, mayK R k = v := ⟨_, rfl⟩
    have HMV := Lib.hid hmv
    rw [hmv]
    clear hmv
    by_cases hlt : k < R.length
    · obtain ⟨⟨c0, m0⟩, hx⟩ : ∃ x, R[k]? = some x := ⟨_, List.getElem?_eq_getElem hlt⟩
      have hst := mayK_step hx
      rw [HMV.out] at hst
      obtain ⟨a', c', he, hc', hr'⟩ := HR1.out
      obtain ⟨⟨hb0, hb1, hb2⟩, ba, o, hae, hc0, hc1⟩ := hr' k _ hx
      obtain ⟨rfl, _⟩ : a = a' ∧ True := by cases he; exact ⟨rfl, trivial⟩
      subst hae
      dsimp only at hc1 hst
      clear he hr' hx
      cases v
      · simp only [Bool.false_and] at hst
        have HST := Lib.hid hst
        clear hst
        go_wp2_with fail
        go_round
        case rel => exact ⟨k + 1, by omega, by go_num, by rw [HST.out]⟩
        case measure => simp [intOf]; omega
      · simp only [Bool.true_and] at hst
        by_cases hm0 : m0 = 0
        · subst hm0
          have HST : Hid (mayK R (k + 1) = false) := hst
          clear hst
          go_wp2_with fail
          go_round
          case rel => exact ⟨k + 1, by omega, by go_num, by rw [HST.out]⟩
          case measure => simp [intOf]; omega
        · have HST : Hid (mayK R (k + 1) = true) := by show mayK R (k + 1) = true; rw [hst]; simp [hm0]
          have hm0i : ((m0 : Int) != 0) = true := by rw [bne_iff_ne]; omega
          clear hst hm0
          go_wp2_with fail
          go_round
          case rel => exact ⟨k + 1, by omega, by go_num, by rw [HST.out]⟩
          case measure => simp [intOf]; omega
    · obtain rfl : k = R.length := by omega
      rw [HMV.out] at HMA
      have hf9 : R.length ≤ 140737488355328 := by omega
      go_wp2_with fail
      refine (put_any _ R W1 HR1.out hf9).mono ?_
      rintro e w3 ⟨rfl, hB⟩
      replace ch := keepC hB ch
      have HR3 := Lib.hid (HR1.out.below hB)
      replace HB := Lib.hid (trans' HB.out hB)
      clear hB
      obtain ⟨ce, hce⟩ : ∃ ce, chkE R = ce := ⟨_, rfl⟩
      obtain ⟨ps, hps⟩ : ∃ ps, putS R = ps := ⟨_, rfl⟩
      rw [hce, hps]
      have HCE := Lib.hid hce
      have HPS := Lib.hid hps
      clear hce hps
      go_wp2_with fail
      have q := check_any _ R w3 HR3.out hf9
      rw [HCE.out] at q
      refine q.mono ?_
      clear q
      rintro e w4 ⟨rfl, hB⟩
      replace ch := keepC hB ch
      have HR4 := Lib.hid (HR3.out.below hB)
      replace HB := Lib.hid (trans' HB.out hB)
      clear hB
      have hcev : ce = if v then 0 else 23 := by
        rw [← HCE.out]
        unfold chkE
        rw [HMA.out]
      cases v
      · obtain rfl : ce = 23 := hcev
        go_wp2_with fail
        generalize hu : s.extract 0 (min (s.size : Int) 120).toNat = u
        have hul : u.size ≤ 140737488351232 := by rw [← hu, ByteArray.size_extract]; omega
        clear hu
        refine (read_any u _ hul).mono ?_
        rintro e w8 ⟨(⟨c1, t1, a1, hrd, rfl, hF⟩ | ⟨rows, v5, hrd, rfl, hR5⟩), hB⟩
        · replace HB := Lib.hid (trans' HB.out hB)
          clear hB hF hrd
          unfold FV
          go_wp2_with fail
          go_ret
          exact ⟨rfl, HB.out.alloc HB.out.size _⟩
        · replace HB := Lib.hid (trans' HB.out hB)
          obtain ⟨pr1, pr2, pr3, pr4⟩ := put_read 8 0 _ _ hrd
          have hok : okH rows = true := by
            unfold okH
            simp only [Bool.and_eq_true, decide_eq_true_eq, List.all_eq_true]
            exact ⟨⟨pr2, pr3⟩, fun r hr => (pr4 r hr).1⟩
          have hps5 : putS rows = u := by rw [putS_yes hok, pr1]
          have HPS5 := Lib.hid hps5
          have HCE5 := Lib.hid (chk_yes hok)
          have hr5l : rows.length ≤ 140737488355328 := by omega
          clear hB hrd pr1 pr2 pr4 hok hps5
          obtain ⟨a5, c5, rfl, hc5, hr5⟩ := hR5
          have HR5 : Hid (RdH w8 (.slice a5 rows.length c5) rows) := ⟨a5, c5, rfl, hc5, hr5⟩
          clear hr5 hc5
          have hB5 : Below w8.heap.size w8 (w8.alloc (.cells #[.slice a5 rows.length c5] 26)) := (Below.refl _ _).alloc (Nat.le_refl _) _
          replace HR5 := Lib.hid (HR5.out.below hB5)
          replace HB := Lib.hid (trans' HB.out hB5)
          clear hB5
          go_wp2_with fail
          have q := put_any _ rows _ HR5.out hr5l
          rw [HPS5.out, HCE5.out] at q
          refine q.mono ?_
          clear q
          rintro e w9 ⟨rfl, hB⟩
          replace HB := Lib.hid (trans' HB.out hB)
          clear hB
          go_wp2_with fail
          go_ret
          exact ⟨rfl, HB.out⟩
      · obtain rfl : ce = 0 := hcev
        obtain ⟨hR0, _, hRok⟩ := okH_parts HMA.out
        have hrd := read_put R 8 0 hR0 hRl (fun r hr => ⟨hRok r hr, by
          obtain ⟨a', c', he, hc', hr'⟩ := HR4.out
          obtain ⟨k, hk⟩ := List.getElem?_of_mem hr
          exact (hr' k r hk).1.2.2⟩)
        have hpe := HPS.out
        rw [putS_yes HMA.out] at hpe
        have hpl : ps.data.toList = putL R := by rw [← hpe]
        have hpz : ps.data.toList.length = ps.size := by rw [Array.length_toList]; rfl
        have hlen := putL_len R hR0
        rw [← hpl, hpz] at hlen
        have hRp := List.length_pos_iff.2 hR0
        have hleni : ((ps.size : Int) != 10 * (R.length : Int) - 1) = false := by rw [bne_eq_false_iff_eq]; omega
        rw [← hpl] at hrd
        have HRD := Lib.hid hrd
        clear hrd hpe hpl hpz hR0 hRok
        have hpsz : ps.size ≤ 140737488351232 := by omega
        clear hlen hRp
        go_wp2_with fail
        refine (read_any ps _ hpsz).mono ?_
        rintro e w6 ⟨(⟨c1, t1, a1, hrd, rfl, hF⟩ | ⟨rows, v5, hrd, rfl, hR5⟩), hB⟩
        · have := HRD.out.symm.trans hrd
          cases this
        have hrows : R = rows := by
          have := HRD.out.symm.trans hrd
          injection this
        subst hrows
        replace ch := keepC hB ch
        replace HR4 := Lib.hid (HR4.out.below hB)
        replace HB := Lib.hid (trans' HB.out hB)
        clear hB hrd
        obtain ⟨a5, c5, rfl, hc5, hr5⟩ := hR5
        have HR5 : Hid (RdH w6 (.slice a5 R.length c5) R) := ⟨a5, c5, rfl, hc5, hr5⟩
        clear hr5 hc5
        have hB5 : Below w6.heap.size w6 (w6.alloc (.cells #[.slice a5 R.length c5] 26)) := (Below.refl _ _).alloc (Nat.le_refl _) _
        replace HR5 := Lib.hid (HR5.out.below hB5)
        replace HR4 := Lib.hid (HR4.out.below hB5)
        have ch2 := keepC hB5 ch
        replace HB := Lib.hid (trans' HB.out hB5)
        clear hB5
        have hbl : hb < w6.heap.size := World.block_lt_of_cell? _ _ ch
        go_wp2_with fail
        have q := same_any _ _ R R _ HR5.out HR4.out hf9 hf9
        rw [decide_eq_true rfl] at q
        refine q.mono ?_
        clear q
        rintro e w7 ⟨rfl, hB⟩
        have ch3 := keepC hB ch2
        replace HB := Lib.hid (trans' HB.out hB)
        clear hB
        go_wp2_with fail
        generalize hu : s.extract 0 (min (s.size : Int) 120).toNat = u
        have hul : u.size ≤ 140737488351232 := by rw [← hu, ByteArray.size_extract]; omega
        clear hu
        refine (read_any u _ hul).mono ?_
        rintro e w8 ⟨(⟨c1, t1, a1, hrd, rfl, hF⟩ | ⟨rows, v5, hrd, rfl, hR5⟩), hB⟩
        · replace HB := Lib.hid (trans' HB.out hB)
          clear hB hF hrd
          unfold FV
          go_wp2_with fail
          go_ret
          exact ⟨rfl, HB.out.alloc HB.out.size _⟩
        · replace HB := Lib.hid (trans' HB.out hB)
          obtain ⟨pr1, pr2, pr3, pr4⟩ := put_read 8 0 _ _ hrd
          have hok : okH rows = true := by
            unfold okH
            simp only [Bool.and_eq_true, decide_eq_true_eq, List.all_eq_true]
            exact ⟨⟨pr2, pr3⟩, fun r hr => (pr4 r hr).1⟩
          have hps5 : putS rows = u := by rw [putS_yes hok, pr1]
          have HPS5 := Lib.hid hps5
          have HCE5 := Lib.hid (chk_yes hok)
          have hr5l : rows.length ≤ 140737488355328 := by omega
          clear hB hrd pr1 pr2 pr4 hok hps5
          obtain ⟨a5, c5, rfl, hc5, hr5⟩ := hR5
          have HR5 : Hid (RdH w8 (.slice a5 rows.length c5) rows) := ⟨a5, c5, rfl, hc5, hr5⟩
          clear hr5 hc5
          have hB5 : Below w8.heap.size w8 (w8.alloc (.cells #[.slice a5 rows.length c5] 26)) := (Below.refl _ _).alloc (Nat.le_refl _) _
          replace HR5 := Lib.hid (HR5.out.below hB5)
          replace HB := Lib.hid (trans' HB.out hB5)
          clear hB5
          go_wp2_with fail
          have q := put_any _ rows _ HR5.out hr5l
          rw [HPS5.out, HCE5.out] at q
          refine q.mono ?_
          clear q
          rintro e w9 ⟨rfl, hB⟩
          replace HB := Lib.hid (trans' HB.out hB)
          clear hB
          go_wp2_with fail
          go_ret
          exact ⟨rfl, HB.out⟩
end Go.Proofs.Ytpbfabcihoiiiaa
