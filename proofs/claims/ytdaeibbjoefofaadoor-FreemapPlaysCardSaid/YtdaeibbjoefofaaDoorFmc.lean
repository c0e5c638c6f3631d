/- A map is read: the walk. -/
import Derived.Test.YtdaeibbjoefofaaDoorFmb
namespace Go.Proofs.YtdaeibbjoefofaaDoor
open Go.RowKit
set_option linter.unusedVariables false
set_option linter.unusedSimpArgs false

theorem MapAt.drewN {w : World} {b n : Nat} {T : Nat → Bool} (h : MapAt w b T n) (k : Nat) : MapAt (w.drewN k) b T n := ⟨h.wd, h.len, h.fz⟩
set_option maxRecDepth 100000 in
set_option maxHeartbeats 8000000 in
theorem read_any (n : Nat) (s : ByteArray) (w : World) (h1 : 1 ≤ n) (h2 : n ≤ 1024) (hl : s.size = (n + 7) / 8) : Calls Tryd.prog 24 #[.int .i64 n, .string s] w fun e w' =>
    ((Clean s.data.toList n ∧ e = .returned (.tuple #[.pointer (some ⟨w.heap.size, 0, none⟩), .int .i64 0]) ∧ MapAt w' w.heap.size (partT s.data.toList n) n) ∨ (¬ Clean s.data.toList n ∧ e = .returned (.tuple #[.pointer none, .int .i64 5]))) ∧ Below w.heap.size w w' := by
  have hsz : s.data.toList.length = s.size := by rw [Array.length_toList]; rfl
  have HL := Lib.hid hl
  have HSZ := Lib.hid hsz
  have hs2 : s.size ≤ 128 := by omega
  have hd : ((n : Int) + 7) / 8 = (s.size : Int) := by omega
  clear hl hsz
  go_enter Tryd.func24, Tryd.ntmps24
  go_wp2_with fail
  refine (new_yes n w h1 h2).mono ?_
  rintro e w1 ⟨rfl, hw1⟩
  have hM1 : MapAt w1 w.heap.size (partT s.data.toList 0) n := by rw [part_zero]; exact MapAt.new (by rw [hw1]; exact heap_alloc_new w _)
  have hB1 : Below w.heap.size w w1 := by rw [hw1]; exact (Below.refl _ _).alloc (Nat.le_refl _) _
  have hz1 : w1.heap.size = w.heap.size + 1 := by rw [hw1, World.size_alloc]
  clear hw1
  have c0 := hM1.wd 0 (by omega)
  have c1 := hM1.wd 1 (by omega)
  have c2 := hM1.wd 2 (by omega)
  have c3 := hM1.wd 3 (by omega)
  have c4 := hM1.wd 4 (by omega)
  have c5 := hM1.wd 5 (by omega)
  have c6 := hM1.wd 6 (by omega)
  have c7 := hM1.wd 7 (by omega)
  have c8 := hM1.wd 8 (by omega)
  have c9 := hM1.wd 9 (by omega)
  have c10 := hM1.wd 10 (by omega)
  have c11 := hM1.wd 11 (by omega)
  have c12 := hM1.wd 12 (by omega)
  have c13 := hM1.wd 13 (by omega)
  have c14 := hM1.wd 14 (by omega)
  have c15 := hM1.wd 15 (by omega)
  have c16 := hM1.len
  have HZ1 := Lib.hid hz1
  have hlt1 : w.heap.size < w1.heap.size := hM1.lt
  clear hz1
  go_wp2_with fail
  rw [hd]
  clear hd
  have hW0 : MapAt (w1.alloc (.cells (mapC (partT s.data.toList 0) n) 58)) w1.heap.size (partT s.data.toList (8 * 0)) n := MapAt.new (heap_alloc_new w1 _)
  have hB2 := hB1.alloc hB1.size (.cells (mapC (partT s.data.toList 0) n) 58)
  have hM2 := hM1.below ((Below.refl w1.heap.size w1).alloc (Nat.le_refl _) (.cells (mapC (partT s.data.toList 0) n) 58))
  unfold mapC at hW0 hB2 hM2
  have HW0 := Lib.hid hW0
  have HB2 := Lib.hid hB2
  have HM2 := Lib.hid hM2
  clear c0 c1 c2 c3 c4 c5 c6 c7 c8 c9 c10 c11 c12 c13 c14 c15 c16 hW0 hB2 hM2 hM1 hB1
  go_loopw [8, 26] (fun _ i wr => ∃ k : Nat, k ≤ s.size ∧ i = .int .i64 k ∧ Hid (MapAt wr w1.heap.size (partT s.data.toList (8 * k)) n) ∧ Hid (MapAt wr w.heap.size (partT s.data.toList 0) n) ∧ Hid (Below w.heap.size w wr)) (fun _ i _ => s.size - (intOf i).toNat)
  case atStart => exact ⟨0, by omega, rfl, HW0, HM2, HB2⟩
  case round =>
    obtain ⟨k, hk, rfl, HW, HM, HB⟩ := hrel
    by_cases hlt : k < s.size
    · as_aux_lemma =>
        have hw := HW.out.wd (k * 8 / 64) (by omega)
        have hf := HW.out.fz (k * 8 / 64) (by omega)
        have hsk : s[k].toNat = (s.data.toList.getD k 0).toNat := by
          rw [List.getD_eq_getElem?_getD, List.getElem?_eq_getElem (by rw [HSZ.out]; exact hlt)]
          rfl
        have HV := Lib.hid (byte_wrap hsk)
        clear hsk
        go_wp2_with fail
        go_region
        go_wp2
        go_roundw
        case rel =>
          rw [HV.out]
          exact ⟨k + 1, by omega, by go_num, (HW.out.ored (by omega)).drew, (HM.out.other (by show w1.heap.size ≠ w.heap.size; omega) _).drew, (HB.out.setCell (by show w.heap.size ≤ w1.heap.size; omega) _).drew⟩
        case measure => simp [intOf]; omega
    · obtain rfl : k = s.size := by omega
      clear hlt hk
      obtain ⟨wo, rfl⟩ : ∃ wo : World, wo = wr := ⟨_, rfl⟩
      rw [← HSZ.out] at HW
      have hnl : n ≤ 8 * s.data.toList.length := by rw [HSZ.out, HL.out]; omega
      have HNL := Lib.hid hnl
      clear hnl
      go_wp2_with fail
      go_loopw [10, 48] (fun _ i wr => ∃ k : Nat, k ≤ n ∧ i = .int .i64 k ∧ Hid (MapAt wr w1.heap.size (partT s.data.toList (8 * s.data.toList.length)) n) ∧ Hid (MapAt wr w.heap.size (partT s.data.toList k) n) ∧ Hid (Below w.heap.size w wr)) (fun _ i _ => n - (intOf i).toNat)
      case atStart => exact ⟨0, by omega, rfl, HW, HM, HB⟩
      case round =>
        clear HW HM HB
        obtain ⟨k, hk, rfl, HW, HM, HB⟩ := hrel
        by_cases hkn : k < n
        · have hpb := part_bit hkn HNL.out
          have hok := part_ok (l := s.data.toList) (k := k) h1 h2 hk
          cases hbs : bitS s.data.toList k with
          | true => as_aux_lemma =>
            rw [hbs] at hpb
            have HPB := Lib.hid hpb
            have HPS := Lib.hid (part_snoc_use hkn hbs)
            clear hpb hbs
            go_wp2_with fail
            have q := has_any0 w1.heap.size n _ (k : Int) wr HW.out h1 h2
            rw [HPB.out] at q
            refine q.mono ?_
            clear q
            rintro e w3 ⟨rfl, rfl⟩
            go_wp2_with fail
            have q := use_any w.heap.size n _ (k : Int) wr HM.out hok
            rw [HPS.out] at q
            refine q.mono ?_
            clear q
            rintro e w3 ⟨rfl, hM3, hg⟩
            have HW3 := Lib.hid (HW.out.grown hg (by simp; omega))
            have HB3 := Lib.hid (below_grown HB.out hg (Nat.le_refl _) HM.out.lt)
            have HM3 := Lib.hid hM3
            clear hM3 hg HW HM HB
            go_wp2_with fail
            go_roundw
            case rel => exact ⟨k + 1, by omega, by go_num, HW3, HM3, HB3⟩
            case measure => simp [intOf]; omega
          | false => as_aux_lemma =>
            rw [hbs] at hpb
            have HPB := Lib.hid hpb
            have hps := part_snoc_not hbs
            have HM3 : Hid (MapAt wr w.heap.size (partT s.data.toList (k + 1)) n) := by rw [← hps]; exact HM
            clear hpb hbs hps
            go_wp2_with fail
            have q := has_any0 w1.heap.size n _ (k : Int) wr HW.out h1 h2
            rw [HPB.out] at q
            refine q.mono ?_
            clear q
            rintro e w3 ⟨rfl, rfl⟩
            go_wp2_with fail
            go_roundw
            case rel => exact ⟨k + 1, by omega, by go_num, HW, HM3, HB⟩
            case measure => simp [intOf]; omega
        · obtain rfl : k = n := by omega
          have hlen : s.data.toList.length = (k + 7) / 8 := by rw [HSZ.out, HL.out]
          have hiff := same_clean (l := s.data.toList) h2 hlen
          have HMR := HM
          have HBR := HB
          have hMo := HM.out
          have hWo := HW.out
          obtain ⟨S, hS⟩ : ∃ S, partT s.data.toList (8 * s.data.toList.length) = S := ⟨_, rfl⟩
          obtain ⟨T, hT⟩ : ∃ T, partT s.data.toList k = T := ⟨_, rfl⟩
          rw [hS] at hWo hiff
          rw [hT] at hMo hiff HMR
          have HTT := Lib.hid hT
          clear hS hT
          have d0 := hMo.wd 0 (by omega)
          have d1 := hMo.wd 1 (by omega)
          have d2 := hMo.wd 2 (by omega)
          have d3 := hMo.wd 3 (by omega)
          have d4 := hMo.wd 4 (by omega)
          have d5 := hMo.wd 5 (by omega)
          have d6 := hMo.wd 6 (by omega)
          have d7 := hMo.wd 7 (by omega)
          have d8 := hMo.wd 8 (by omega)
          have d9 := hMo.wd 9 (by omega)
          have d10 := hMo.wd 10 (by omega)
          have d11 := hMo.wd 11 (by omega)
          have d12 := hMo.wd 12 (by omega)
          have d13 := hMo.wd 13 (by omega)
          have d14 := hMo.wd 14 (by omega)
          have d15 := hMo.wd 15 (by omega)
          have e0 := hWo.wd 0 (by omega)
          have e1 := hWo.wd 1 (by omega)
          have e2 := hWo.wd 2 (by omega)
          have e3 := hWo.wd 3 (by omega)
          have e4 := hWo.wd 4 (by omega)
          have e5 := hWo.wd 5 (by omega)
          have e6 := hWo.wd 6 (by omega)
          have e7 := hWo.wd 7 (by omega)
          have e8 := hWo.wd 8 (by omega)
          have e9 := hWo.wd 9 (by omega)
          have e10 := hWo.wd 10 (by omega)
          have e11 := hWo.wd 11 (by omega)
          have e12 := hWo.wd 12 (by omega)
          have e13 := hWo.wd 13 (by omega)
          have e14 := hWo.wd 14 (by omega)
          have e15 := hWo.wd 15 (by omega)
          clear hMo hWo HW HM HB hlen
          by_cases hcl : Clean s.data.toList k
          · as_aux_lemma =>
              have hne := fun W => arr_same (hiff.2 hcl) W
              have HCL := Lib.hid hcl
              clear hiff hcl
              go_wp2_with fail
              go_quiet (fail)
              go_wp2
              go_ret2
              exact ⟨.inl ⟨HCL.out, rfl, by rw [HTT.out]; exact HMR.out.drewN _⟩, below_drewN HBR.out _⟩
          · as_aux_lemma =>
              have hne := fun W => arr_diff (fun h => hcl (hiff.1 h)) W
              have HCL := Lib.hid hcl
              clear hiff hcl
              go_wp2_with fail
              go_quiet (fail)
              go_wp2
              go_ret2
              exact ⟨.inr ⟨HCL.out, rfl⟩, below_drewN HBR.out _⟩
end Go.Proofs.YtdaeibbjoefofaaDoor
