/- The reference's map is read; two maps are alike. -/
import Derived.Test.YtdaeibbjoefofaaDoorFmp
namespace Go.Proofs.YtdaeibbjoefofaaDoor
open Go.RowKit
set_option linter.unusedVariables false
set_option linter.unusedSimpArgs false

/-- The string is just what its first bits laid give. -/
theorem put_iff {l : List UInt8} {n : Nat} : putL (partT l n) n = l ↔ l.length = (n + 7) / 8 ∧ Clean l n := by
  constructor
  · intro h
    have hl : l.length = (n + 7) / 8 := by rw [← h]; exact putL_len _ _
    refine ⟨hl, fun i hi => ?_⟩
    by_cases h8 : i < 8 * ((n + 7) / 8)
    · rw [← h, bits_put h8]
      unfold partT
      simp
      omega
    · exact bitS_out (by omega)
  · rintro ⟨hl, hc⟩
    apply List.ext_getElem?
    intro j
    by_cases hj : j < (n + 7) / 8
    · have e1 : (putL (partT l n) n)[j]? = some (UInt8.ofNat (bT (partT l n) j)) := by simp [putL, hj]
      have e2 : l[j]? = some (l.getD j 0) := by rw [List.getD_eq_getElem?_getD, List.getElem?_eq_getElem (by omega)]; rfl
      rw [e1, e2]
      refine congrArg some (UInt8.toNat_inj.1 ?_)
      have hb := bT_lt (partT l n) j
      rw [show (UInt8.ofNat (bT (partT l n) j)).toNat = bT (partT l n) j by simp; omega]
      have hx := (l.getD j 0).toNat_lt
      apply Nat.eq_of_testBit_eq
      intro i
      rw [bT_eq, mkW_test]
      by_cases hi : i < 8
      · have q : partT l n (8 * j + i) = bitS l (8 * j + i) := by
          unfold partT
          by_cases e : 8 * j + i < n
          · simp [e]
          · rw [hc _ (by omega)]; simp
        rw [q]
        unfold bitS
        rw [show (8 * j + i) / 8 = j by omega, show (8 * j + i) % 8 = i by omega]
        simp [hi]
      · rw [Nat.testBit_lt_two_pow (Nat.lt_of_lt_of_le (by omega : (l.getD j 0).toNat < 2 ^ 8) (Nat.pow_le_pow_right (by omega) (by omega)))]
        simp [hi]
    · rw [List.getElem?_eq_none (by rw [putL_len]; omega), List.getElem?_eq_none (by omega)]
theorem part_snoc {l : List UInt8} {n k : Nat} (hk : k < n) : turnT (partT l k) n (k : Int) (bitS l k) = partT l (k + 1) := by
  funext j
  rw [turnT_at hk]
  unfold partT
  by_cases e : j = k
  · subst e; simp
  · have : decide (j < k) = decide (j < k + 1) := by simp; omega
    simp [e, this]
theorem part_full {l : List UInt8} {n k : Nat} (hk : 8 * l.length ≤ k) (hkn : k ≤ n) : partT l k = partT l n := by
  funext j
  unfold partT
  by_cases e : j < k
  · have : j < n := by omega
    simp [e, this]
  · rw [bitS_out (by omega)]; simp
theorem str_ext {a b : ByteArray} (h : a.data.toList = b.data.toList) : a = b := ByteArray.ext (Array.toList_inj.1 h)
theorem bit_u8 {l : List UInt8} {k : Nat} {x : UInt8} (h : x.toNat = (l.getD (k / 8) 0).toNat) : (bits .and .u8 ((x.toNat : Int) / (2 : Int) ^ (k % 8)) 1 == 1) = bitS l k := by
  have hx := x.toNat_lt
  have e : (x.toNat : Int) / (2 : Int) ^ (k % 8) = ((x.toNat / 2 ^ (k % 8) : Nat) : Int) := by simp
  have hd : x.toNat / 2 ^ (k % 8) < 256 := Nat.lt_of_le_of_lt (Nat.div_le_self _ _) (by omega)
  rw [e, show (1 : Int) = ((1 : Nat) : Int) from rfl, u8_and_nat _ _ hd (by omega), nat_mask1]
  unfold bitS
  rw [Nat.testBit_eq_decide_div_mod_eq, ← h]
  generalize x.toNat / 2 ^ (k % 8) % 2 = z
  rw [Bool.eq_iff_iff]
  simp
  omega
set_option maxRecDepth 100000 in
set_option maxHeartbeats 4000000 in
theorem rread_any (n : Nat) (s : ByteArray) (w : World) (h1 : 1 ≤ n) (h2 : n ≤ 1024) (hs : s.size ≤ 100000) : Calls Tryd.prog 25 #[.int .i64 n, .string s] w fun e w' =>
    ((s.size = (n + 7) / 8 ∧ Clean s.data.toList n ∧ e = .returned (.tuple #[.pointer (some ⟨w.heap.size + 1, 0, none⟩), .int .i64 0]) ∧ RefAt w' (w.heap.size + 1) w.heap.size n (partT s.data.toList n)) ∨ (¬ (s.size = (n + 7) / 8 ∧ Clean s.data.toList n) ∧ e = .returned (.tuple #[.pointer none, .int .i64 5]))) ∧ Below w.heap.size w w' := by
  have hsz : s.data.toList.length = s.size := by rw [Array.length_toList]; rfl
  have HSZ := Lib.hid hsz
  clear hsz
  go_enter Tryd.func25, Tryd.ntmps25
  go_wp2_with fail
  refine (rnew_yes n w h1 h2).mono ?_
  rintro e w1 ⟨rfl, hR, hB⟩
  have HR : Hid (RefAt w1 (w.heap.size + 1) w.heap.size n (partT s.data.toList 0)) := by rw [part_zero]; exact hR
  have HB := Lib.hid hB
  clear hR hB
  go_wp2_with fail
  go_loopw [7] (fun i wr => ∃ k : Nat, k ≤ n ∧ i = .int .i64 k ∧ Hid (RefAt wr (w.heap.size + 1) w.heap.size n (partT s.data.toList k)) ∧ Hid (Below w.heap.size w wr)) (fun i _ => n - (intOf i).toNat)
  case atStart => exact ⟨0, by omega, rfl, HR, HB⟩
  case round =>
    clear HR HB
    obtain ⟨k, hk, rfl, HR, HB⟩ := hrel
    have c := HR.out.ptr
    by_cases hkl : k < n ∧ k / 8 < s.size
    · obtain ⟨hkn, hks⟩ := hkl
      have hf := HR.out.row.frozen k
      have hc := HR.out.row.cell hkn
      have hsk : s[k / 8].toNat = (s.data.toList.getD (k / 8) 0).toNat := by
        rw [List.getD_eq_getElem?_getD, List.getElem?_eq_getElem (by rw [HSZ.out]; exact hks)]
        rfl
      have HBI := Lib.hid (bit_u8 hsk)
      have HPS := Lib.hid (part_snoc (l := s.data.toList) hkn)
      clear hsk
      have hki : (k : Int) / 8 < (s.size : Int) := by omega
      have hki0 : 0 ≤ (k : Int) / 8 := by omega
      go_wp2_with fail
      go_region
      go_wp2
      go_roundw
      case rel =>
        rw [HBI.out]
        have q := (HR.out.turn hkn (bitS s.data.toList k)).drew
        rw [HPS.out] at q
        exact ⟨k + 1, by omega, by go_num, q, (HB.out.setCell (Nat.le_refl _) _).drew⟩
      case measure => simp [intOf]; omega
    · have hex : Hid (partT s.data.toList k = partT s.data.toList n) := by
        by_cases e : k = n
        · rw [e]; rfl
        · exact part_full (by rw [HSZ.out]; omega) hk
      have HR2 : Hid (RefAt wr (w.heap.size + 1) w.heap.size n (partT s.data.toList n)) := by rw [← hex.out]; exact HR
      have hok := part_ok (l := s.data.toList) h1 h2 (Nat.le_refl n)
      have hkk : n = k ∨ (k < n ∧ s.size ≤ k / 8) := by omega
      clear hkl hex
      rcases hkk with rfl | ⟨hkn, hks⟩
      all_goals
        go_wp2_with fail
        refine (rput_any _ _ _ _ wr HR2.out hok).mono ?_
        rintro e w2 ⟨rfl, hB⟩
        have HB2 := Lib.hid (HB.out.trans (hB.mono HB.out.size))
        have HR3 := Lib.hid (HR2.out.below hB)
        clear hB
        by_cases hy : (putS (partT s.data.toList n) n) = s
        · have HY : Hid (s.size = (n + 7) / 8 ∧ Clean s.data.toList n) := by
            show s.size = (n + 7) / 8 ∧ Clean s.data.toList n
            have q := put_iff.1 (show putL (partT s.data.toList n) n = s.data.toList by rw [← putS_list, hy])
            rw [HSZ.out] at q
            exact q
          rw [hy]
          clear hy
          go_wp2_with fail
          go_ret2
          exact ⟨.inl ⟨HY.out.1, HY.out.2, rfl, HR3.out⟩, HB2.out⟩
        · have HY : Hid (¬ (s.size = (n + 7) / 8 ∧ Clean s.data.toList n)) := by
            rintro ⟨q1, q2⟩
            apply hy
            apply str_ext
            rw [putS_list]
            exact put_iff.2 ⟨by rw [HSZ.out]; exact q1, q2⟩
          obtain ⟨S, hS⟩ : ∃ S, putS (partT s.data.toList n) n = S := ⟨_, rfl⟩
          rw [hS] at hy ⊢
          have hne : ¬ S.toList = s.toList := by
            rw [ByteArray.toList_eq, ByteArray.toList_eq]
            exact fun q => hy (str_ext q)
          have hb1 : (S.toList == s.toList) = false := by simpa using hne
          have hb2 : (S.toList != s.toList) = true := by simpa using hne
          clear hy hS
          go_wp2_with fail
          go_ret2
          exact ⟨.inr ⟨HY.out, rfl⟩, HB2.out⟩
end Go.Proofs.YtdaeibbjoefofaaDoor
