/- FixedLays: the walk. -/
import Derived.Test.YtbnnemiiodhjbaaDoorFx5
namespace Go.Proofs.YtbnnemiiodhjbaaDoor
open Go.RowKit
set_option linter.unusedVariables false
set_option linter.unusedSimpArgs false

theorem RdB.take {w : World} {A : Option (Nat × Nat)} {n c : Nat} {l : List UInt8} (h : RdB w (.slice (A.map fun p => ⟨p.1, p.2, none⟩) n c) l) (m : Nat) (hm : m ≤ l.length) : RdB w (.slice (A.map fun p => ⟨p.1, p.2, none⟩) m c) (l.take m) := by
  obtain ⟨A', c', e, h1, h2, h3⟩ := h
  injection e with e1 e2 e3
  have hA : A = A' := by
    cases A <;> cases A' <;> simp at e1 ⊢
    exact Prod.ext e1.1 e1.2
  subst hA e3
  refine ⟨A, c, by rw [List.length_take, Nat.min_eq_left hm], by rw [List.length_take]; omega, h2, fun p hp j u hu => h3 p hp j u ?_⟩
  unfold bv at hu ⊢
  rw [List.map_take, List.getElem?_take] at hu
  split at hu
  · exact hu
  · cases hu
theorem slice_len {P : Program} (t e : TypeId) (ht : P.underlying t = some (.slice e)) (hinfo : (P.info? e).map (fun i => (i.zero, i.size, i.bytes)) = some (some (.int .u8 0), 1, 1)) (A : Option Addr) (len n c : Nat) (hn : n ≤ c) (W : World) :
    (Instr.slice t (.slice A len c) none (some (.int .i64 (n : Int))) none).run P W = .ok (.slice A n c) W := by
  obtain ⟨i0, hi, hz0, hz1, hz2⟩ := info_parts hinfo
  have ht' : P.underlying t = some (.slice (P.elem t)) := by simp [Program.elem, ht]
  have he : P.elem t = e := by simp [Program.elem, ht]
  rw [run_slice_h W t A len c ht' .i64 (n : Int) (by omega) (by omega), he]
  have hz : (Go.sizeOf e).run P W = .ok 1 W := by simp [Go.sizeOf, typeInfo, hi, hz1]
  rw [hz]
  simp only [Result.andThen, sliced]
  congr 2
  · split
    · rfl
    · cases A <;> simp [Addr.add]
def mkB (l : List UInt8) : ByteArray := ⟨l.toArray⟩
theorem mkB_list (l : List UInt8) : (mkB l).data.toList = l := rfl
theorem mkB_app (a b : List UInt8) : mkB a ++ mkB b = mkB (a ++ b) := mk_app a b
theorem mkB_size (l : List UInt8) : (mkB l).size = l.length := by show l.toArray.size = _; simp
theorem textB_len (s : List UInt8) : (textB s).length ≤ 256 := by
  unfold textB
  split
  · rw [List.length_cons]; omega
  · simp
theorem rd_heap {w W : World} {v : Value} {l : List UInt8} (h : RdB w v l) (e : w.heap = W.heap) : RdB W v l := by
  obtain ⟨A, c, e1, h1, h2, h3⟩ := h
  exact ⟨A, c, e1, h1, h2, fun p hp j u hu => by
    have q := h3 p hp j u hu
    unfold World.cell? at q ⊢
    rw [← e]
    exact q⟩
theorem et_heap {w W : World} (h : EtP w) (e : w.heap = W.heap) : EtP W := by
  unfold EtP World.cell? at h ⊢
  rw [← e]
  exact h
theorem cv_H {w : World} {v : Value} {b : List UInt8} {H : ByteArray} (hH : H = mkB b) (h : RdB w v b) : (convert 22 9 v).run Tryd.prog w = .ok (.string H) w := by
  rw [hH]
  exact cv_str (X := mkB b) h
theorem put_b (k : Nat) (hk : k < 4) (v : Value) (b : List UInt8) (n : Int) (h0 : 0 ≤ n) (h1 : n < 18446744073709551616) (hb : b.length ≤ 100) (w : World) (hv : RdB w v b) : Calls Tryd.prog 8 #[v, .int .u64 n, .int .i64 ((2 ^ k : Nat) : Int)] w fun e w' => ∃ v1, e = .returned v1 ∧ RdB w' v1 (mkB (b ++ beB (2 ^ k) n.toNat)).data.toList ∧ Below w.heap.size w w' :=
  (put_any k hk _ b n w hv h0 h1 (by omega)).mono fun e w' ⟨v, he, hown, hB⟩ => ⟨v, he, RdB.own hown, hB⟩
theorem bytes_b (k : Nat) (hk : k < 4) (n : Int) (h0 : 0 ≤ n) (h1 : n < 18446744073709551616) (w : World) : Calls Tryd.prog 9 #[.int .u64 n, .int .i64 ((2 ^ k : Nat) : Int)] w fun e w' => e = .returned (.string (mkB (beB (2 ^ k) n.toNat))) ∧ Below w.heap.size w w' :=
  bytes_any (2 ^ k) n w h0 h1 (by rcases (show k = 0 ∨ k = 1 ∨ k = 2 ∨ k = 3 by omega) with rfl | rfl | rfl | rfl <;> decide)
theorem ptext_b (v : Value) (b : List UInt8) (s : ByteArray) (hb : b.length ≤ 100) (hs : s.size ≤ 140737488351232) (w : World) (hv : RdB w v b) : Calls Tryd.prog 10 #[v, .string s] w fun e w' => ∃ v1, e = .returned v1 ∧ RdB w' v1 (mkB (b ++ textB s.data.toList)).data.toList ∧ Below w.heap.size w w' :=
  (PText_any _ b s w hv hs (by omega)).mono fun e w' ⟨v, he, hown, hB⟩ => ⟨v, he, RdB.own hown, hB⟩
theorem rtext_b (s : ByteArray) (hs : s.size ≤ 140737488351232) (w : World) : Calls Tryd.prog 11 #[.string s] w fun e w' => e = .returned (.string (mkB (textB s.data.toList))) ∧ Below w.heap.size w w' := rtext_any s w hs
set_option maxRecDepth 100000 in
set_option maxHeartbeats 8000000 in
theorem lays_any (v : Value) (l : List UInt8) (n : Int) (s0 : ByteArray) (w : World) (hE : EtP w) (hv : RdB w v l) (hn : 0 ≤ n ∧ n < 18446744073709551616) (hs0 : s0.size ≤ 140737488351232) (hl : l.length ≤ maxLen) : Calls Tryd.prog 3 #[v, .int .u64 n, .string s0] w fun e w' => e = .returned (.bool true) ∧ Below w.heap.size w w' := by
  obtain ⟨m, hm⟩ : ∃ m : Nat, m = min s0.size 300 := ⟨_, rfl⟩
  obtain ⟨m1, hm1⟩ : ∃ m : Nat, m = min l.length 100 := ⟨_, rfl⟩
  have hl' : l.length ≤ 9223372036854775807 := hl
  have hmi : (if (300 : Int) < (s0.size : Int) then (300 : Int) else (s0.size : Int)) = (m : Int) := by split <;> omega
  have hmi1 : (if (100 : Int) < (l.length : Int) then (100 : Int) else (l.length : Int)) = (m1 : Int) := by split <;> omega
  have hsl := fun W => run_takeB (P := Tryd.prog) 9 Tryd.underlying9 s0 m (by omega) W
  have hss : (takeB s0 m).size = m := takeB_size s0 m (by omega)
  obtain ⟨s, hs⟩ : ∃ s, s = takeB s0 m := ⟨_, rfl⟩
  rw [← hs] at hsl hss
  have hsz : s.size ≤ 300 := by omega
  obtain ⟨A, c, rfl, hc, hA, hr⟩ := hv
  have hm1c : m1 ≤ c := by omega
  have hvb : RdB w (.slice (A.map fun p => ⟨p.1, p.2, none⟩) m1 c) (l.take m1) := RdB.take (l := l) ⟨A, c, rfl, hc, hA, hr⟩ m1 (by omega)
  have hsl1 := fun W => slice_len (P := Tryd.prog) 22 5 Tryd.underlying22 info_u8 (A.map fun p => (⟨p.1, p.2, none⟩ : Addr)) l.length m1 c hm1c W
  obtain ⟨b, hb⟩ : ∃ b, b = l.take m1 := ⟨_, rfl⟩
  have hbl : b.length ≤ 100 := by rw [hb, List.length_take]; omega
  rw [← hb] at hvb
  obtain ⟨Aa, hAa⟩ : ∃ Aa : Option Addr, Aa = A.map fun p => (⟨p.1, p.2, none⟩ : Addr) := ⟨_, rfl⟩
  rw [← hAa] at hvb hsl1 ⊢
  clear hs hm hss hb hc hA hr hm1c hm1 hAa
  have hcvb : (convert 22 9 (.slice Aa m1 c)).run Tryd.prog w = .ok (.string (mkB b)) w := cv_str (X := mkB b) hvb
  have HV := Lib.hid hvb
  clear hvb
  go_enter Tryd.func3, Tryd.ntmps3
  go_wp2_with fail
  obtain ⟨H, hH⟩ : ∃ H, H = mkB b := ⟨_, rfl⟩
  have HH := Lib.hid hH
  rw [← hH]
  clear hcvb hH
  obtain ⟨vb, hvb⟩ : ∃ vb : Value, vb = .slice Aa m1 c := ⟨_, rfl⟩
  rw [← hvb] at HV ⊢
  clear hvb hsl hsl1 hmi hmi1
  go_loopw [8] (fun kv wr => ∃ k : Nat, k ≤ 4 ∧ kv = .int .i64 k ∧ Hid (Below w.heap.size w wr)) (fun kv _ => 4 - (intOf kv).toNat)
  case atStart => exact ⟨0, by omega, rfl, Below.refl _ _⟩
  case round =>
    obtain ⟨k, hk, rfl, HB⟩ := hrel
    have hvr : RdB wr vb b := HV.out.below HB.out
    by_cases hlt : k < 4
    · rcases (show k = 0 ∨ k = 1 ∨ k = 2 ∨ k = 3 by omega) with rfl | rfl | rfl | rfl
      · have HP := Lib.hid (put_b 0 (by decide) vb b n hn.1 hn.2 (by omega))
        have HY := Lib.hid (bytes_b 0 (by decide) n hn.1 hn.2)
        obtain ⟨X, hX⟩ : ∃ X, X = mkB (b ++ beB (2 ^ 0) n.toNat) := ⟨_, rfl⟩
        obtain ⟨Z, hZ⟩ : ∃ Z, Z = mkB (beB (2 ^ 0) n.toNat) := ⟨_, rfl⟩
        have hadd : ∀ W, (Op.stringOp .add H Z).run Tryd.prog W = .ok (.string X) W := fun W => by
          rw [run_string_add_sum W _ _ (by rw [HH.out, hZ, mkB_size, mkB_size, beB_len]; omega), HH.out, hZ, mkB_app, ← hX]
        rw [← hX] at HP
        rw [← hZ] at HY
        clear hX hZ
        have hvd : Hid (∀ W, wr.heap = W.heap → RdB W vb b) := fun W hW => rd_heap hvr hW
        have hwM : IntKind.i64.wrap 1 = 1 := rfl
        clear hvr
        go_wp2_with fail
        go_region_with (first | (go_at_call 8; first | (refine (HP.out _ hvb).mono ?_; rintro e w1 ⟨v1, rfl, hrx, hBx⟩; have hcx := cv_str hrx) | (refine (HP.out wr.drew (hvd.out wr.drew rfl)).mono ?_; rintro e w1 ⟨v1, rfl, hrx, hBx⟩; have hcx := cv_str hrx)) | (go_at_call 9; refine (HY.out _).mono ?_; rintro e w2 ⟨rfl, hBy⟩; try (replace hrx := RdB.below hrx hBy); try (have hcx := cv_str hrx); try (have hvb := RdB.below (hvd.out wr.drew rfl) hBy)))
        all_goals
          go_wp2_with fail
          go_roundw
          case rel => exact ⟨0 + 1, by omega, by go_num, by first | exact below2 HB.out.drew hBx hBy | exact below2 HB.out.drew hBy hBx | exact (below2 HB.out.drew hBx hBy).drew | exact (below2 HB.out.drew hBy hBx).drew⟩
          case measure => simp [intOf]
      · have HP := Lib.hid (put_b 1 (by decide) vb b n hn.1 hn.2 (by omega))
        have HY := Lib.hid (bytes_b 1 (by decide) n hn.1 hn.2)
        obtain ⟨X, hX⟩ : ∃ X, X = mkB (b ++ beB (2 ^ 1) n.toNat) := ⟨_, rfl⟩
        obtain ⟨Z, hZ⟩ : ∃ Z, Z = mkB (beB (2 ^ 1) n.toNat) := ⟨_, rfl⟩
        have hadd : ∀ W, (Op.stringOp .add H Z).run Tryd.prog W = .ok (.string X) W := fun W => by
          rw [run_string_add_sum W _ _ (by rw [HH.out, hZ, mkB_size, mkB_size, beB_len]; omega), HH.out, hZ, mkB_app, ← hX]
        rw [← hX] at HP
        rw [← hZ] at HY
        clear hX hZ
        have hvd : Hid (∀ W, wr.heap = W.heap → RdB W vb b) := fun W hW => rd_heap hvr hW
        have hwM : IntKind.i64.wrap 2 = 2 := rfl
        clear hvr
        go_wp2_with fail
        go_region_with (first | (go_at_call 8; first | (refine (HP.out _ hvb).mono ?_; rintro e w1 ⟨v1, rfl, hrx, hBx⟩; have hcx := cv_str hrx) | (refine (HP.out wr.drew (hvd.out wr.drew rfl)).mono ?_; rintro e w1 ⟨v1, rfl, hrx, hBx⟩; have hcx := cv_str hrx)) | (go_at_call 9; refine (HY.out _).mono ?_; rintro e w2 ⟨rfl, hBy⟩; try (replace hrx := RdB.below hrx hBy); try (have hcx := cv_str hrx); try (have hvb := RdB.below (hvd.out wr.drew rfl) hBy)))
        all_goals
          go_wp2_with fail
          go_roundw
          case rel => exact ⟨1 + 1, by omega, by go_num, by first | exact below2 HB.out.drew hBx hBy | exact below2 HB.out.drew hBy hBx | exact (below2 HB.out.drew hBx hBy).drew | exact (below2 HB.out.drew hBy hBx).drew⟩
          case measure => simp [intOf]
      · have HP := Lib.hid (put_b 2 (by decide) vb b n hn.1 hn.2 (by omega))
        have HY := Lib.hid (bytes_b 2 (by decide) n hn.1 hn.2)
        obtain ⟨X, hX⟩ : ∃ X, X = mkB (b ++ beB (2 ^ 2) n.toNat) := ⟨_, rfl⟩
        obtain ⟨Z, hZ⟩ : ∃ Z, Z = mkB (beB (2 ^ 2) n.toNat) := ⟨_, rfl⟩
        have hadd : ∀ W, (Op.stringOp .add H Z).run Tryd.prog W = .ok (.string X) W := fun W => by
          rw [run_string_add_sum W _ _ (by rw [HH.out, hZ, mkB_size, mkB_size, beB_len]; omega), HH.out, hZ, mkB_app, ← hX]
        rw [← hX] at HP
        rw [← hZ] at HY
        clear hX hZ
        have hvd : Hid (∀ W, wr.heap = W.heap → RdB W vb b) := fun W hW => rd_heap hvr hW
        have hwM : IntKind.i64.wrap 4 = 4 := rfl
        clear hvr
        go_wp2_with fail
        go_region_with (first | (go_at_call 8; first | (refine (HP.out _ hvb).mono ?_; rintro e w1 ⟨v1, rfl, hrx, hBx⟩; have hcx := cv_str hrx) | (refine (HP.out wr.drew (hvd.out wr.drew rfl)).mono ?_; rintro e w1 ⟨v1, rfl, hrx, hBx⟩; have hcx := cv_str hrx)) | (go_at_call 9; refine (HY.out _).mono ?_; rintro e w2 ⟨rfl, hBy⟩; try (replace hrx := RdB.below hrx hBy); try (have hcx := cv_str hrx); try (have hvb := RdB.below (hvd.out wr.drew rfl) hBy)))
        all_goals
          go_wp2_with fail
          go_roundw
          case rel => exact ⟨2 + 1, by omega, by go_num, by first | exact below2 HB.out.drew hBx hBy | exact below2 HB.out.drew hBy hBx | exact (below2 HB.out.drew hBx hBy).drew | exact (below2 HB.out.drew hBy hBx).drew⟩
          case measure => simp [intOf]
      · have HP := Lib.hid (put_b 3 (by decide) vb b n hn.1 hn.2 (by omega))
        have HY := Lib.hid (bytes_b 3 (by decide) n hn.1 hn.2)
        obtain ⟨X, hX⟩ : ∃ X, X = mkB (b ++ beB (2 ^ 3) n.toNat) := ⟨_, rfl⟩
        obtain ⟨Z, hZ⟩ : ∃ Z, Z = mkB (beB (2 ^ 3) n.toNat) := ⟨_, rfl⟩
        have hadd : ∀ W, (Op.stringOp .add H Z).run Tryd.prog W = .ok (.string X) W := fun W => by
          rw [run_string_add_sum W _ _ (by rw [HH.out, hZ, mkB_size, mkB_size, beB_len]; omega), HH.out, hZ, mkB_app, ← hX]
        rw [← hX] at HP
        rw [← hZ] at HY
        clear hX hZ
        have hvd : Hid (∀ W, wr.heap = W.heap → RdB W vb b) := fun W hW => rd_heap hvr hW
        have hwM : IntKind.i64.wrap 8 = 8 := rfl
        clear hvr
        go_wp2_with fail
        go_region_with (first | (go_at_call 8; first | (refine (HP.out _ hvb).mono ?_; rintro e w1 ⟨v1, rfl, hrx, hBx⟩; have hcx := cv_str hrx) | (refine (HP.out wr.drew (hvd.out wr.drew rfl)).mono ?_; rintro e w1 ⟨v1, rfl, hrx, hBx⟩; have hcx := cv_str hrx)) | (go_at_call 9; refine (HY.out _).mono ?_; rintro e w2 ⟨rfl, hBy⟩; try (replace hrx := RdB.below hrx hBy); try (have hcx := cv_str hrx); try (have hvb := RdB.below (hvd.out wr.drew rfl) hBy)))
        all_goals
          go_wp2_with fail
          go_roundw
          case rel => exact ⟨3 + 1, by omega, by go_num, by first | exact below2 HB.out.drew hBx hBy | exact below2 HB.out.drew hBy hBx | exact (below2 HB.out.drew hBx hBy).drew | exact (below2 HB.out.drew hBy hBx).drew⟩
          case measure => simp [intOf]
    · obtain rfl : k = 4 := by omega
      have HP := Lib.hid (ptext_b vb b s (by omega) (by omega))
      have HY := Lib.hid (rtext_b s (by omega))
      obtain ⟨X, hX⟩ : ∃ X, X = mkB (b ++ textB s.data.toList) := ⟨_, rfl⟩
      obtain ⟨Z, hZ⟩ : ∃ Z, Z = mkB (textB s.data.toList) := ⟨_, rfl⟩
      have hadd : ∀ W, (Op.stringOp .add H Z).run Tryd.prog W = .ok (.string X) W := fun W => by
        have := textB_len s.data.toList
        rw [run_string_add_sum W _ _ (by rw [HH.out, hZ, mkB_size, mkB_size]; omega), HH.out, hZ, mkB_app, ← hX]
      rw [← hX] at HP
      rw [← hZ] at HY
      clear hX hZ
      have hvd : Hid (∀ W, wr.heap = W.heap → RdB W vb b) := fun W hW => rd_heap hvr hW
      have HEt := Lib.hid (hE.below HB.out)
      clear hvr
      go_wp2_with fail
      go_region_with (first | (go_at_call 10; first | (refine (HP.out _ hvb).mono ?_; rintro e w1 ⟨v1, rfl, hrx, hBx⟩; have hcx := cv_str hrx; replace hvb := RdB.below hvb hBx; have hcb := cv_H HH.out hvb; have hee := EtP.below hee hBx) | (refine (HP.out wr.drew (hvd.out wr.drew rfl)).mono ?_; rintro e w1 ⟨v1, rfl, hrx, hBx⟩; have hcx := cv_str hrx; have hvb := RdB.below (hvd.out wr.drew rfl) hBx; have hcb := cv_H HH.out hvb; have hee := EtP.below (et_heap (W := wr.drew) HEt.out rfl) hBx)) | (go_at_call 11; first | (refine (HY.out _).mono ?_; rintro e w2 ⟨rfl, hBy⟩; replace hrx := RdB.below hrx hBy; have hcx := cv_str hrx; replace hvb := RdB.below hvb hBy; have hcb := cv_H HH.out hvb; replace hee := EtP.below hee hBy) | (refine (HY.out _).mono ?_; rintro e w2 ⟨rfl, hBy⟩; have hvb := RdB.below (hvd.out wr.drew rfl) hBy; have hee := EtP.below (et_heap (W := wr.drew) HEt.out rfl) hBy)) | (go_at_call 12; refine (works_any _ hee).mono ?_; rintro e w3 ⟨rfl, hBw⟩))
      all_goals
        go_wp2_with fail
        go_ret
        exact ⟨rfl, by first | exact trans' (below2 HB.out.drew hBx hBy) hBw | exact trans' (below2 HB.out.drew hBy hBx) hBw | exact (trans' (below2 HB.out.drew hBx hBy) hBw).drew | exact (trans' (below2 HB.out.drew hBy hBx) hBw).drew⟩
end Go.Proofs.YtbnnemiiodhjbaaDoor
