/- The law's turned: bytes, of which one is turned. -/
import Derived.Test.YtemngdhbicndlaaDoorVc4
import Derived.Test.YtemngdhbicndlaaDoorVc5
import Derived.BigQuiet
import Derived.Deep.QuietTactic
import Derived.Deep.RegionHeld3
import Derived.Laws.BitsAllLaws
namespace Go.Proofs.YtemngdhbicndlaaDoor
open Go.RowKit
set_option linter.unusedVariables false
set_option linter.unusedSimpArgs false

theorem u8_mod (a : Int) (n : Nat) (h0 : 0 ≤ a) (hn : 0 < n) : ∃ i : Nat, a.tmod (n : Int) = (i : Int) ∧ a % (n : Int) = (i : Int) ∧ i < n := by
  refine ⟨(a % (n : Int)).toNat, ?_, ?_, ?_⟩
  · rw [Int.tmod_eq_emod_of_nonneg h0]
    have := Int.emod_nonneg a (show (n : Int) ≠ 0 by omega)
    omega
  · have := Int.emod_nonneg a (show (n : Int) ≠ 0 by omega)
    omega
  · have := Int.emod_lt_of_pos a (show (0 : Int) < (n : Int) by omega)
    have := Int.emod_nonneg a (show (n : Int) ≠ 0 by omega)
    omega
/-- A byte in a slice that reads as bytes is written. -/
theorem RdB.write {w : World} {l : List UInt8} {g o n c : Nat} (h : RdB w (.slice (some ⟨g, o, none⟩) n c) l) {i : Nat} (hi : i < l.length) (b : UInt8) :
    RdB (w.setCell ⟨g, o + i, none⟩ (.int .u8 (b.toNat : Int))) (.slice (some ⟨g, o, none⟩) n c) (l.set i b) := by
  obtain ⟨A, c', e, h1, h2, h3⟩ := h
  simp only [Value.slice.injEq] at e
  obtain ⟨e1, e2, e3⟩ := e
  subst e3
  cases A with
  | none => cases e1
  | some q =>
    simp only [Option.map_some, Option.some.injEq, Addr.mk.injEq, and_true] at e1
    obtain ⟨rfl, rfl⟩ := e1
    refine ⟨some q, c, by rw [List.length_set, e2]; rfl, by rw [List.length_set]; exact h1, (fun h => by cases h), fun p hp j u hu => ?_⟩
    obtain rfl : q = p := by simpa using hp
    have hci := h3 q rfl i (.int .u8 (l[i].toNat : Int)) (by simp [bv, hi])
    simp only [bv, List.getElem?_map, Option.map_eq_some_iff] at hu
    obtain ⟨x, hx, rfl⟩ := hu
    by_cases hij : i = j
    · subst hij
      rw [List.getElem?_set_self hi] at hx
      obtain rfl : b = x := by simpa using hx
      exact World.cell?_setCell_same _ _ _ hci
    · rw [List.getElem?_set_ne hij] at hx
      have hcj := h3 q rfl j (.int .u8 (x.toNat : Int)) (by simp [bv, hx])
      rw [World.cell?_setCell_other]
      · exact hcj
      · intro e
        simp only [Addr.mk.injEq] at e
        omega
theorem drew_cell {w : World} {a : Addr} {v : Value} (h : w.cell? a = some v) : w.drew.cell? a = some v := h
theorem RdB.drewT {w : World} {v : Value} {l : List UInt8} (h : RdB w v l) : RdB w.drew v l := h
theorem below_drewT {b : Nat} {w w' : World} (h : Below b w w') : Below b w w'.drew := ⟨h.os, h.tape, h.output, h.size, h.block⟩
theorem xor_byte (x : UInt8) (y : Int) (h0 : 0 ≤ y) (h1 : y < 256) : ∃ b : UInt8, bits .xor .u8 (x.toNat : Int) y = (b.toNat : Int) := by
  have hx := x.toNat_lt
  refine ⟨UInt8.ofNat (x.toNat ^^^ y.toNat), ?_⟩
  rw [u8_xor _ _ (by omega) (by omega) h0 h1]
  have h : x.toNat ^^^ y.toNat < 2 ^ 8 := Nat.xor_lt_two_pow (by omega) (by omega)
  rw [toNat_of _ h]
  simp
theorem row3 {w : World} {b : Nat} {v0 v1 v2 : Value} {t : TypeId} (h : w.heap[b]? = some (.cells #[v0, v1, v2] t (0, 0))) : w.cell? ⟨b, 0, none⟩ = some v0 ∧ w.cell? ⟨b, 1, none⟩ = some v1 ∧ w.cell? ⟨b, 2, none⟩ = some v2 :=
  ⟨cell_of_row _ _ 0 _ _ _ h, cell_of_row _ _ 1 _ _ _ h, cell_of_row _ _ 2 _ _ _ h⟩
/-- v[:n]. -/
theorem bytes_to {w : World} {a : Option Addr} {c : Nat} {l : List UInt8} {i : Nat} (hv : RdB w (.slice a l.length c) l) (hi : i ≤ l.length) : RdB w (.slice a i c) (l.take i) := by
  have hl : (l.take i).length = i := by rw [List.length_take]; omega
  obtain ⟨A, c', e, h1, h2, h3⟩ := hv
  simp only [Value.slice.injEq] at e
  obtain ⟨rfl, _, rfl⟩ := e
  refine ⟨A, c, by rw [hl], by omega, h2, fun p hp j u hu => h3 p hp j u ?_⟩
  have hj : j < i := by
    have := (List.getElem?_eq_some_iff.1 hu).1
    rw [bv_length, hl] at this
    exact this
  simp only [bv] at hu ⊢
  rw [← hu, List.map_take, List.getElem?_take, if_pos hj]
set_option maxRecDepth 100000 in
set_option maxHeartbeats 1000000 in
theorem turned_any (s : ByteArray) (at_ by_ stay : Int) (w : World) (hs : s.size ≤ 140737488351232) (ha0 : 0 ≤ at_) (ha1 : at_ < 65536) (hb0 : 0 ≤ by_) (hb1 : by_ < 256) (hs0 : -32768 ≤ stay) (hs1 : stay < 32768) :
    Calls Tryd.prog 10 #[.string s, .agg #[.int .u16 at_, .int .u8 by_, .int .i16 stay]] w fun e w' => ∃ R : ByteArray, e = .returned (.string R) ∧ R.size ≤ s.size ∧ Below w.heap.size w w' := by
  have hx := heap_alloc_new w (.cells #[.int .u16 at_, .int .u8 by_, .int .i16 stay] 26)
  obtain ⟨x0, x1, x2⟩ := row3 hx
  have HB0 : Hid (Below w.heap.size w (w.alloc (.cells #[.int .u16 at_, .int .u8 by_, .int .i16 stay] 26))) := (Below.refl _ _).alloc (Nat.le_refl _) _
  have hc0 := Lib.run_convert_string_bytes (P := Tryd.prog) (w.alloc (.cells #[.int .u16 at_, .int .u8 by_, .int .i16 stay] 26)) 9 60 5 s Tryd.underlying9 Tryd.underlying60 Tryd.underlying5
  have hrd := bytes_rd (w.alloc (.cells #[.int .u16 at_, .int .u8 by_, .int .i16 stay] 26)) s (grownCap (w.alloc (.cells #[.int .u16 at_, .int .u8 by_, .int .i16 stay] 26)) s.size 0 5) (grownCap_ge (w.alloc (.cells #[.int .u16 at_, .int .u8 by_, .int .i16 stay] 26)) s.size 0 5)
  have hB1 := bytesWorld_below (w.alloc (.cells #[.int .u16 at_, .int .u8 by_, .int .i16 stay] 26)) 5 s
  have hfz := bytesWorld_frozen (w.alloc (.cells #[.int .u16 at_, .int .u8 by_, .int .i16 stay] 26)) 5 s
  have hge := grownCap_ge (w.alloc (.cells #[.int .u16 at_, .int .u8 by_, .int .i16 stay] 26)) s.size 0 5
  have k0 := keepC hB1 x0
  have k1 := keepC hB1 x1
  have k2 := keepC hB1 x2
  rw [World.size_alloc] at hrd hfz
  have HBX := Lib.hid (bstep7 HB0.out hB1)
  obtain ⟨L, hL⟩ : ∃ L, L = s.data.toList := ⟨_, rfl⟩
  have hLs : L.length = s.size := by rw [hL, size_list]
  rw [← hL] at hrd
  have HRD := Lib.hid hrd
  have HFZ := Lib.hid hfz
  clear hrd hfz x0 x1 x2 HB0 hB1 hx hL
  obtain ⟨cp, hcp⟩ : ∃ cp, cp = grownCap (w.alloc (.cells #[.int .u16 at_, .int .u8 by_, .int .i16 stay] 26)) s.size 0 5 := ⟨_, rfl⟩
  rw [← hcp] at hge hc0 HRD
  obtain ⟨W1, hW1⟩ : ∃ W1, W1 = (Lib.bytesWorld (w.alloc (.cells #[.int .u16 at_, .int .u8 by_, .int .i16 stay] 26)) 5 s) := ⟨_, rfl⟩
  rw [← hW1] at hc0 HRD HFZ k0 k1 k2 HBX
  clear hcp hW1
  go_enter Tryd.func10, Tryd.ntmps10
  rcases Nat.eq_zero_or_pos s.size with hz | hz
  · have hzi : ¬ (0 : Int) < (s.size : Int) := by omega
    have hcp0 : s.size ≤ cp := hge
    have hst : ¬ (0 ≤ stay ∧ stay < (s.size : Int)) := by omega
    clear hz
    have hq := HRD.out
    rw [← hLs] at hq
    have hcv1 := hq.str (P := Tryd.prog) 60 9 5 Tryd.underlying60 Tryd.underlying5 Tryd.underlying9
    have hsz2 : (⟨L.toArray⟩ : ByteArray).size ≤ s.size := by rw [mk_size, hLs]; exact Nat.le_refl _
    rw [hLs] at hcv1
    generalize (⟨L.toArray⟩ : ByteArray) = Q at hcv1 hsz2
    clear hq hLs
    by_cases hst0 : 0 ≤ stay
    · have hst1 : ¬ stay < (s.size : Int) := fun e => hst ⟨hst0, e⟩
      clear hst
      go_wp2_with fail
      go_ret
      exact ⟨Q, rfl, hsz2, HBX.out⟩
    · clear hst
      go_wp2_with fail
      go_ret
      exact ⟨Q, rfl, hsz2, HBX.out⟩
  · have hzi : (0 : Int) < (s.size : Int) := by omega
    obtain ⟨i, hi1, hi2, hi3⟩ := u8_mod at_ s.size ha0 hz
    obtain ⟨x, hx⟩ : ∃ x, L[i]? = some x := ⟨L[i]'(by omega), List.getElem?_eq_getElem _⟩
    have hg : ∃ o c, RdB W1 (.slice (some ⟨w.heap.size + 1, 0, none⟩) s.size cp) L ∧ o = 0 ∧ c = 0 := ⟨0, 0, HRD.out, rfl, rfl⟩
    have hcx : W1.cell? ⟨w.heap.size + 1, i, none⟩ = some (.int .u8 (x.toNat : Int)) := by
      obtain ⟨A, c, e, _, _, h3⟩ := HRD.out
      cases A with
      | none => cases e
      | some q =>
        simp only [Option.map_some, Value.slice.injEq, Option.some.injEq, Addr.mk.injEq, and_true] at e
        have := h3 q rfl i (.int .u8 (x.toNat : Int)) (by simp [bv, hx])
        rwa [← e.1.1, ← e.1.2, Nat.zero_add] at this
    have hfi := HFZ.out i hi3
    obtain ⟨b, hb⟩ := xor_byte x by_ hb0 hb1
    have hi4 : (i : Int) < (s.size : Int) := by omega
    have hi5 : (0 : Int) ≤ (i : Int) := by omega
    have HRD2 := Lib.hid (HRD.out.write (i := i) (by omega) b)
    rw [Nat.zero_add] at HRD2
    have hLs2 : (L.set i b).length = s.size := by rw [List.length_set]; exact hLs
    clear hg hx
    have hne : w.heap.size ≠ w.heap.size + 1 := by omega
    have m0 := keep_off (j := i) (v := .int .u8 (b.toNat : Int)) k0 hne
    have m1 := keep_off (j := i) (v := .int .u8 (b.toNat : Int)) k1 hne
    have m2 := keep_off (j := i) (v := .int .u8 (b.toNat : Int)) k2 hne
    have HBX2 := Lib.hid (below_set (j := i) (v := .int .u8 (b.toNat : Int)) HBX.out (show w.heap.size ≤ w.heap.size + 1 by omega))
    clear hz
    have dr := HRD2.out.drewT
    have hb2 := below_drewT HBX2.out
    have d0 := drew_cell m0
    have d1 := drew_cell m1
    have d2 := drew_cell m2
    obtain ⟨W2, hW2⟩ : ∃ W2, W2 = (W1.setCell ⟨w.heap.size + 1, i, none⟩ (.int .u8 (b.toNat : Int))).drew := ⟨_, rfl⟩
    rw [← hW2] at dr hb2 d0 d1 d2
    have HRD3 := Lib.hid dr
    have HBX3 := Lib.hid hb2
    have HW2 := Lib.hid hW2
    clear dr hb2 hW2 HRD2 HBX2 HRD HBX HFZ
    go_wp2_with fail
    go_region
    rw [← HW2.out]
    obtain ⟨L2, hL2⟩ : ∃ L2, L2 = L.set i b := ⟨_, rfl⟩
    rw [← hL2] at HRD3 hLs2
    clear hL2 HW2 m0 m1 m2 hcx hfi hb hc0 k0 k1 k2 hne
    by_cases hst : 0 ≤ stay ∧ stay < (s.size : Int)
    · obtain ⟨hst0, hst1⟩ := hst
      obtain ⟨n, rfl⟩ : ∃ n : Nat, stay = (n : Int) := ⟨stay.toNat, by omega⟩
      have hq := HRD3.out
      rw [← hLs2] at hq
      have hcv1 := (bytes_to hq (i := n) (by omega)).str (P := Tryd.prog) 60 9 5 Tryd.underlying60 Tryd.underlying5 Tryd.underlying9
      have hcl : (n : Int) ≤ (cp : Int) := by omega
      have hsz2 : (⟨(L2.take n).toArray⟩ : ByteArray).size ≤ s.size := by rw [mk_size, List.length_take]; omega
      generalize (⟨(L2.take n).toArray⟩ : ByteArray) = Q at hcv1 hsz2
      clear hq hLs2
      go_wp2_with fail
      go_ret
      exact ⟨Q, rfl, hsz2, HBX3.out⟩
    · have hq := HRD3.out
      rw [← hLs2] at hq
      have hcv1 := hq.str (P := Tryd.prog) 60 9 5 Tryd.underlying60 Tryd.underlying5 Tryd.underlying9
      have hsz2 : (⟨L2.toArray⟩ : ByteArray).size ≤ s.size := by rw [mk_size, hLs2]; exact Nat.le_refl _
      rw [hLs2] at hcv1
      generalize (⟨L2.toArray⟩ : ByteArray) = Q at hcv1 hsz2
      clear hq hLs2
      by_cases hst0 : 0 ≤ stay
      · have hst1 : ¬ stay < (s.size : Int) := fun e => hst ⟨hst0, e⟩
        clear hst
        go_wp2_with fail
        go_ret
        exact ⟨Q, rfl, hsz2, HBX3.out⟩
      · clear hst
        go_wp2_with fail
        go_ret
        exact ⟨Q, rfl, hsz2, HBX3.out⟩
end Go.Proofs.YtemngdhbicndlaaDoor
