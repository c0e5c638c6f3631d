/- FreemapBack: the walk. -/
import Derived.Test.YtdaeibbjoefofaaDoorFmd
namespace Go.Proofs.YtdaeibbjoefofaaDoor
open Go.RowKit
set_option linter.unusedVariables false
set_option linter.unusedSimpArgs false

set_option maxRecDepth 100000 in
set_option maxHeartbeats 1000000 in
theorem read_len (n : Nat) (s : ByteArray) (w : World) (h1 : 1 ≤ n) (h2 : n ≤ 1024) (hl : ¬ s.size = (n + 7) / 8) : Calls Tryd.prog 24 #[.int .i64 n, .string s] w fun e w' =>
    e = .returned (.tuple #[.pointer none, .int .i64 5]) ∧ Below w.heap.size w w' := by
  have e0 : ((s.size : Int) != ((n : Int) + 7) / 8) = true := by simp; omega
  clear hl
  go_enter Tryd.func24, Tryd.ntmps24
  go_wp2_with fail
  refine (new_yes n w h1 h2).mono ?_
  rintro e w1 ⟨rfl, hw1⟩
  have hB1 : Below w.heap.size w w1 := by rw [hw1]; exact (Below.refl _ _).alloc (Nat.le_refl _) _
  clear hw1
  go_wp2_with fail
  go_ret2
  exact ⟨rfl, hB1⟩
theorem read_size (n : Int) (s : ByteArray) (w : World) (h : sizeB n = false) : Calls Tryd.prog 24 #[.int .i64 n, .string s] w fun e w' =>
    e = .returned (.tuple #[.pointer none, .int .i64 2]) ∧ w = w' := by
  go_enter Tryd.func24, Tryd.ntmps24
  go_wp2_with fail
  refine (new_no n w h).mono ?_
  rintro e w1 ⟨rfl, rfl⟩
  go_wp2_with fail
  go_ret2
  exact ⟨rfl, rfl⟩
theorem size_snoc0 (S : ByteArray) : (S ++ (⟨#[0]⟩ : ByteArray)).size = S.size + 1 := ByteArray.size_append
theorem sum_le (l : List (Nat × Nat)) (k : Nat) : sumI l k ≤ (l.map (fun x => x.2)).sum := by
  have e : (l.map (fun x => x.2)).sum = ((l.take k).map (fun x => x.2)).sum + ((l.drop k).map (fun x => x.2)).sum := by
    rw [← List.sum_append, ← List.map_append, List.take_append_drop]
  unfold sumI
  omega
/-- What holds at the first loop's head. -/
structure HeadB (w : World) (b n : Nat) (T : Nat → Bool) (wr : World) : Prop where
  m : MapAt wr b T n
  ok : FMOk T n
  bel : Below w.heap.size w wr
set_option maxRecDepth 100000 in
set_option maxHeartbeats 4000000 in
theorem back_any (sz : Int) (l1 : List Int) (v1 : Value) (w : World) (hsz : 0 ≤ sz ∧ sz < 65536) (h1 : RdH w v1 l1) (hl1 : l1.length ≤ maxLen) (hT : TabD w) :
    Calls Tryd.prog 6 #[.int .u16 sz, v1] w fun e w' => e = .returned (.bool true) ∧ Below w.heap.size w w' := by
  obtain ⟨a1, c1, rfl, hc1, hr1⟩ := h1
  have HR1 := Lib.hid hr1
  unfold maxLen at hl1
  have HT := Lib.hid hT
  clear hr1 hT
  obtain ⟨n, hn⟩ : ∃ n : Nat, (n : Int) = 1 + sz % 1024 := ⟨(1 + sz % 1024).toNat, by omega⟩
  have hn1 : 1 ≤ n := by omega
  have hn2 : n ≤ 1024 := by omega
  have HN := Lib.hid hn
  clear hn
  go_enter Tryd.func6, Tryd.ntmps6
  go_wp2_with fail
  refine (works_any _ HT.out).mono ?_
  rintro e w1 ⟨rfl, hB⟩
  have HB := hB
  clear hB HT
  have hs1 := HB.size
  go_wp2_with fail
  rw [← HN.out]
  refine (new_yes n _ hn1 hn2).mono ?_
  rintro e w2 ⟨rfl, hw2⟩
  have hM2 : MapAt w2 w1.heap.size (fun _ => false) n := MapAt.new (by rw [hw2]; exact heap_alloc_new w1 _)
  have hB2 : Below w1.heap.size w1 w2 := by rw [hw2]; exact (Below.refl _ _).alloc (Nat.le_refl _) _
  replace HB := HB.trans (hB2.mono HB.size)
  have HH0 : Hid (HeadB w w1.heap.size n (fun _ => false) w2) := ⟨hM2, ⟨hn1, hn2, fun _ _ => rfl⟩, HB⟩
  clear hw2 hB2 hM2 HB HN
  go_wp2_with fail
  go_loopw [7] (fun i wr => ∃ (k : Nat) (T : Nat → Bool), k ≤ l1.length ∧ k ≤ 300 ∧ i = .int .i64 k ∧ Hid (HeadB w w1.heap.size n T wr)) (fun i _ => l1.length - (intOf i).toNat)
  case atStart => exact ⟨0, fun _ => false, by omega, by omega, rfl, HH0⟩
  case round =>
    clear HH0
    obtain ⟨k, T, hk, hk2, rfl, HH⟩ := hrel
    by_cases hlt : k < l1.length ∧ k < 300
    · obtain ⟨hk1, hk3⟩ := hlt
      obtain ⟨x, hx⟩ : ∃ x, l1[k]? = some x := ⟨_, List.getElem?_eq_getElem hk1⟩
      obtain ⟨⟨hx0, hx1⟩, b, o, rfl, hc⟩ := HR1.out k x hx
      have cx := keep_cell HH.out.bel hc
      obtain ⟨d, hdi⟩ : ∃ d : Nat, x % (n : Int) = (d : Int) := ⟨(x % (n : Int)).toNat, by rw [Int.toNat_of_nonneg (Int.emod_nonneg _ (by omega))]⟩
      have HDI := Lib.hid hdi
      clear hx hc hdi
      go_wp2_with fail
      rw [HDI.out]
      refine (use_any w1.heap.size n T (d : Int) _ HH.out.m HH.out.ok).mono ?_
      rintro e w3 ⟨rfl, hM', hg⟩
      have HH2 : Hid (HeadB w w1.heap.size n (turnT T n (d : Int) true) w3) := ⟨hM', HH.out.ok.turn _ _, below_grown HH.out.bel hg hs1 HH.out.m.lt⟩
      clear hM' hg
      go_wp2_with fail
      go_roundw
      case rel => exact ⟨k + 1, _, by omega, by omega, by go_num, HH2⟩
      case measure => simp [intOf]; omega
    · obtain ⟨wo, rfl⟩ : ∃ wo : World, wo = wr := ⟨_, rfl⟩
      have hll : l1.length ≤ k ∨ (k < l1.length ∧ k = 300) := by omega
      clear hlt hk2
      have hb1 : w1.heap.size < wo.heap.size := HH.out.m.lt
      obtain ⟨S, hS⟩ : ∃ S, putS T n = S := ⟨_, rfl⟩
      have hss : S.size = (n + 7) / 8 := by rw [← hS]; exact putS_size T n
      have hsi : (S.size : Int) = ((n : Int) + 7) / 8 := by omega
      have hcl : Clean S.data.toList n := by rw [← hS]; exact put_clean HH.out.ok
      have hpt : partT S.data.toList n = T := by rw [← hS]; exact put_part HH.out.ok
      have HS := Lib.hid hS
      have HSS := Lib.hid hss
      have HCL := Lib.hid hcl
      have HPT := Lib.hid hpt
      clear hS hss hcl hpt
      rcases hll with hll | ⟨hll, rfl⟩
      all_goals
        go_wp2_with fail
        have q := put_any w1.heap.size n T wo HH.out.m HH.out.ok
        rw [HS.out] at q
        refine q.mono ?_
        clear q
        rintro e w3 ⟨rfl, hB⟩
        have HB3 := Lib.hid (HH.out.bel.trans (hB.mono HH.out.bel.size))
        have HM3 := Lib.hid (HH.out.m.below hB)
        have hz3 := hB.size
        clear hB
        go_wp2_with fail
        have q := read_any n S w3 hn1 hn2 HSS.out
        refine q.mono ?_
        clear q
        rintro e w4 ⟨hor, hB⟩
        have hyes : e = .returned (.tuple #[.pointer (some ⟨w3.heap.size, 0, none⟩), .int .i64 0]) ∧ MapAt w4 w3.heap.size T n := by
          rcases hor with ⟨_, q1, q2⟩ | ⟨q, _⟩
          · rw [HPT.out] at q2
            exact ⟨q1, q2⟩
          · exact absurd HCL.out q
        obtain ⟨rfl, hMo⟩ := hyes
        have HMo := Lib.hid hMo
        have HM4 := Lib.hid (HM3.out.below hB)
        have HB4 := Lib.hid (HB3.out.trans (hB.mono HB3.out.size))
        clear hor hMo hB HM3 HB3
        go_wp2_with fail
        have q := put_any w3.heap.size n T w4 HMo.out HH.out.ok
        rw [HS.out] at q
        refine q.mono ?_
        clear q
        rintro e w5 ⟨rfl, hB⟩
        have HB5 := Lib.hid (HB4.out.trans (hB.mono HB4.out.size))
        have HM5 := Lib.hid (HM4.out.below hB)
        have HMo5 := Lib.hid (HMo.out.below hB)
        clear hB HB4 HM4 HMo
        go_wp2_with fail
        refine (len_any w3.heap.size n T w5 HMo5.out).mono ?_
        rintro e w6 ⟨rfl, rfl⟩
        go_wp2_with fail
        refine (left_any w3.heap.size n T w5 HMo5.out HH.out.ok).mono ?_
        rintro e w6 ⟨rfl, rfl⟩
        go_wp2_with fail
        refine (left_any w1.heap.size n T w5 HM5.out HH.out.ok).mono ?_
        rintro e w6 ⟨rfl, rfl⟩
        go_wp2_with fail
        refine (read_len n (S.extract 0 ((n + 7) / 8 - 1)) w5 hn1 hn2 (by rw [ByteArray.size_extract, HSS.out]; omega)).mono ?_
        rintro e w6 ⟨rfl, hB⟩
        have HB6 := Lib.hid (HB5.out.trans (hB.mono HB5.out.size))
        have HM6 := Lib.hid (HM5.out.below hB)
        have HMo6 := Lib.hid (HMo5.out.below hB)
        clear hB HB5 HM5 HMo5
        go_wp2_with fail
        have q := read_len n (S ++ (⟨#[0]⟩ : ByteArray)) w6 hn1 hn2 (by rw [size_snoc0, HSS.out]; omega)
        refine q.mono ?_
        clear q
        rintro e w7 ⟨rfl, hB⟩
        have HB7 := Lib.hid (HB6.out.trans (hB.mono HB6.out.size))
        have HM7 := Lib.hid (HM6.out.below hB)
        have HMo7 := Lib.hid (HMo6.out.below hB)
        clear hB HB6 HM6 HMo6
        go_wp2_with fail
        refine (runs_any w3.heap.size n T w7 HMo7.out HH.out.ok).mono ?_
        rintro e w8 ⟨v, rfl, ho, hB⟩
        have HB8 := Lib.hid (HB7.out.trans (hB.mono HB7.out.size))
        have HM8 := Lib.hid (HM7.out.below hB)
        have HMo8 := Lib.hid (HMo7.out.below hB)
        obtain ⟨ar, cr, rfl, hcr, hrr⟩ := RdR.own ho
        have HRR := Lib.hid hrr
        have HRI := Lib.hid (runsI T n)
        have hrl := runs_len T n
        have HOK := Lib.hid HH.out.ok
        clear hB HB7 HM7 HMo7 ho hrr HH hsi
        obtain ⟨L, hL⟩ : ∃ L, runs T n = L := ⟨_, rfl⟩
        rw [hL] at HRR HRI hrl hcr ⊢
        have HL := Lib.hid hL
        clear hL
        go_wp2_with fail
        go_loopw [15, 16, 18, 19] (fun sv lv iv _ wr => ∃ (i sm : Nat) (la : Int), i ≤ L.length ∧ iv = .int .i64 i ∧ sv = .int .i64 sm ∧ lv = .int .i64 la ∧ sm ≤ 1024 ∧ Hid (sm = sumI L i) ∧ Hid (la = lastI L i) ∧ -2 ≤ la ∧ la ≤ 1024 ∧ Hid (Below w8.heap.size w8 wr)) (fun _ _ iv _ _ => L.length - (intOf iv).toNat)
        case atStart => exact ⟨0, 0, -2, by omega, rfl, rfl, rfl, by omega, by simp [Hid, sumI], by simp [Hid, lastI], by omega, by omega, Below.refl _ _⟩
        case round =>
          obtain ⟨i, sm, la, hi, rfl, rfl, rfl, hsm, HSM, HLA, hla1, hla2, HI⟩ := hrel
          by_cases hil : i < L.length
          · obtain ⟨x, hx⟩ : ∃ x, L[i]? = some x := ⟨_, List.getElem?_eq_getElem hil⟩
            obtain ⟨bb, rfl, k0, k1⟩ := HRR.out i x hx
            have d0 := keep_cell HI.out k0
            have d1 := keep_cell HI.out k1
            obtain ⟨o1, o2, o3⟩ := HRI.out.one i x hx
            have hlt : la < (x.1 : Int) := by rw [HLA.out, ← HL.out]; exact last_lt (by rw [HL.out]; exact hx)
            have HS1 := Lib.hid (sum_snoc hx)
            have HL1 := Lib.hid (last_snoc hx)
            have hs2 : sm + x.2 ≤ 1024 := by
              have q1 := sum_le L (i + 1)
              have q2 := HRI.out.sum
              rw [HS1.out] at q1
              rw [HSM.out]
              omega
            have HX := Lib.hid hx
            have HO3 := Lib.hid o3
            obtain ⟨xa, xb⟩ := x
            dsimp only at *
            clear hx o3 k0 k1
            go_wp2_with fail
            obtain ⟨wq, rfl⟩ : ∃ wq : World, wq = wr := ⟨_, rfl⟩
            go_loopw [19] (fun kv wi => ∃ k : Nat, xa ≤ k ∧ k ≤ xa + xb ∧ kv = .int .i64 k ∧ Hid (Below w8.heap.size w8 wi)) (fun kv _ => xa + xb - (intOf kv).toNat)
            case atStart => exact ⟨xa, Nat.le_refl _, by omega, rfl, HI⟩
            case round =>
              clear d0 d1
              obtain ⟨k, hk1, hk2, rfl, HJ⟩ := hrel
              obtain ⟨bb2, hbe, k0, k1⟩ := HRR.out i _ HX.out
              obtain rfl : bb = bb2 := by simpa using hbe
              have d0 := keep_cell HJ.out k0
              have d1 := keep_cell HJ.out k1
              clear k0 k1 hbe
              by_cases hkl : k < xa + xb
              · have hT := HO3.out k hk1 hkl
                have HH1 := Lib.hid (hasB_in (n := n) (show k < n by omega) hT)
                clear hT
                go_wp2_with fail
                go_quiet (fail)
                go_wp2_with fail
                have q := fun nq => has_any w3.heap.size n T (k : Int) (wr.drewN nq) ((HMo8.out.below HJ.out).drewN nq) HOK.out
                rw [HH1.out] at q
                refine (q _).mono ?_
                clear q
                rintro e w9 ⟨rfl, rfl⟩
                go_wp2_with fail
                have q := fun nq => has_any w1.heap.size n T (k : Int) (wr.drewN nq) ((HM8.out.below HJ.out).drewN nq) HOK.out
                rw [HH1.out] at q
                refine (q _).mono ?_
                clear q
                rintro e w9 ⟨rfl, rfl⟩
                go_wp2_with fail
                go_roundw
                case rel => exact ⟨k + 1, by omega, by omega, by go_num, below_drewN HJ.out _⟩
                case measure => simp [intOf]; omega
              · have HSN : Hid (sm + xb = sumI L (i + 1)) := by show sm + xb = sumI L (i + 1); rw [HS1.out, HSM.out]
                have HLN : Hid ((xa : Int) + xb = lastI L (i + 1)) := by show (xa : Int) + xb = lastI L (i + 1); rw [HL1.out]
                go_wp2_with fail
                go_quiet (fail)
                go_wp2_with fail
                go_quiet (fail)
                go_wp2
                go_roundw
                case rel => exact ⟨i + 1, sm + xb, (xa : Int) + xb, by omega, by go_num, by go_num, rfl, by omega, HSN, HLN, by omega, by omega, below_drewN HJ.out _⟩
                case measure => simp [intOf]; omega
          · obtain rfl : i = L.length := by omega
            have hsl : leftN T n = (sm : Int) := by rw [HSM.out, ← HL.out]; exact sum_all.symm
            have HSL := Lib.hid hsl
            clear hsl
            go_wp2_with fail
            have q := left_any w1.heap.size n T wr (HM8.out.below HI.out) HOK.out
            rw [HSL.out] at q
            refine q.mono ?_
            clear q
            rintro e w9 ⟨rfl, rfl⟩
            go_wp2_with fail
            go_ret
            exact ⟨rfl, HB8.out.trans (HI.out.mono HB8.out.size)⟩
end Go.Proofs.YtdaeibbjoefofaaDoor
