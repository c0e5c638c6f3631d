/- The reference's halls: bit, row, Check, Put, Same. -/
import Derived.Test.YtpbfabcihoiiiaaDoorHl5
import Derived.Test.YtpbfabcihoiiiaaDoorHl9
namespace Go.Proofs.YtpbfabcihoiiiaaDoor
open Go.RowKit
set_option linter.unusedVariables false
set_option linter.unusedSimpArgs false

/-- Some bool comes back, and nothing has turned. -/
def SomeB (w : World) (e : Ending) (w' : World) : Prop := ∃ b, e = .returned (.bool b) ∧ w = w'
set_option maxHeartbeats 1000000 in
theorem rbit_any (m : Int) (p : Nat) (w : World) (h0 : 0 ≤ m) (h1 : m < 256) (hp : p ≤ 8) : Calls Tryd.prog 31 #[.int .u8 m, .int .i64 (p : Nat)] w (SomeB w) := by
  go_enter Tryd.func31, Tryd.ntmps31
  go_wp2_with fail
  go_loop [0, 5] (fun x i => ∃ (k : Nat) (y : Int), k ≤ p ∧ i = .int .i64 k ∧ x = .int .u8 y ∧ 0 ≤ y ∧ y < 256) (fun _ i => p - (intOf i).toNat)
  case atStart => exact ⟨0, m, by omega, rfl, rfl, h0, h1⟩
  case round =>
    obtain ⟨k, y, hk, rfl, rfl, hy0, hy1⟩ := hrel
    by_cases hlt : k < p
    · go_wp2_with fail
      go_round
      case rel => exact ⟨k + 1, y / 2, by omega, by go_num, by congr 1 <;> omega, by omega, by omega⟩
      case measure => simp [intOf]; omega
    · go_wp2_with fail
      go_ret
      exact ⟨_, rfl, rfl⟩
/-- Some string of so many bytes comes back. -/
def SomeS (n : Nat) (w : World) (e : Ending) (w' : World) : Prop := ∃ st : ByteArray, e = .returned (.string st) ∧ st.size = n ∧ Below w.heap.size w w'
set_option maxRecDepth 100000 in
set_option maxHeartbeats 1000000 in
theorem rrow_any (c : Int) (m : Nat) (w : World) (hc0 : 0 ≤ c) (hc1 : c ≤ 2) (hm : m < 256) : Calls Tryd.prog 21 #[.agg #[.int .i64 c, .int .u8 (m : Nat)]] w (SomeS 9 w) := by
  have hcc := cls8 c hc0 hc1
  obtain ⟨b0, hb0⟩ : ∃ b0, UInt8.ofNat (48 + c.toNat) = b0 := ⟨_, rfl⟩
  rw [hb0] at hcc
  clear hb0
  have hcell : ((w.alloc (.cells #[.int .i64 c, .int .u8 (m : Nat)] 47)).alloc (.cells #[.int .u8 (48 + c)] 5)).cell? ⟨w.heap.size + 1, 0, none⟩ = some (.int .u8 (b0.toNat : Int)) := by rw [hcc]; go_cell
  have hcv := (tip_new (base := 0) (e := 5) hcell).rd.str (P := Tryd.prog) 31 9 5 Tryd.underlying31 Tryd.underlying5 Tryd.underlying9
  have HCC := Lib.hid hcc
  clear hcc hcell
  go_enter Tryd.func21, Tryd.ntmps21
  go_wp2_with fail
  obtain ⟨W1, hW1⟩ : ∃ W1, W1 = (w.alloc (.cells #[.int .i64 c, .int .u8 (m : Nat)] 47)).alloc (.cells #[.int .u8 (48 + c)] 5) := ⟨_, rfl⟩
  have hB1 : Below w.heap.size w W1 := by rw [hW1]; exact ((Below.refl _ _).alloc (Nat.le_refl _) _).alloc (by simp) _
  have cm : W1.cell? ⟨w.heap.size, 1, none⟩ = some (.int .u8 (m : Nat)) := by rw [hW1]; go_cell
  rw [← hW1]
  have HB1 := Lib.hid hB1
  clear hW1 hB1 hcv
  go_loop [3, 4] (fun s i => ∃ (k : Nat) (st : ByteArray), k ≤ 8 ∧ i = .int .i64 k ∧ s = .string st ∧ st.size = k + 1) (fun _ i => 8 - (intOf i).toNat)
  case atStart => exact ⟨0, _, by omega, rfl, rfl, rfl⟩
  case round =>
    obtain ⟨k, st, hk, rfl, rfl, hst⟩ := hrel
    have HST := Lib.hid hst
    have hsb : st.size ≤ 100 := by omega
    clear hst
    by_cases hlt : k < 8
    · go_wp2_with fail
      refine (rbit_any (m : Int) k W1 (by omega) (by omega) (by omega)).mono ?_
      rintro e w2 ⟨v, rfl, rfl⟩
      cases v
      all_goals
        go_wp2_with fail
        go_round
        case rel => exact ⟨k + 1, _, by omega, by go_num, rfl, by rw [ByteArray.size_append, HST.out]; rfl⟩
        case measure => simp [intOf]; omega
    · obtain rfl : k = 8 := by omega
      go_wp2_with fail
      go_ret
      exact ⟨_, rfl, HST.out, HB1.out⟩

set_option maxHeartbeats 2000000 in
theorem rcheck_any (v : Value) (l : List HRow) (w : World) (hv : RdH w v l) (hl : l.length ≤ 140737488355328) : Calls Tryd.prog 20 #[.agg #[v]] w fun e w' => e = .returned (.int .i64 (chkE l)) ∧ Below w.heap.size w w' := by
  obtain ⟨a, c, rfl, hc, hr⟩ := hv
  have HR := Lib.hid hr
  clear hr
  by_cases h0 : l.length = 0
  · obtain rfl := List.eq_nil_of_length_eq_zero h0
    have HO : Hid (chkE [] = 23) := chk_no rfl
    clear h0
    go_enter Tryd.func20, Tryd.ntmps20
    go_wp2_with fail
    go_ret
    exact ⟨congrArg (fun z => Ending.returned (.int .i64 z)) HO.out.symm, by go_grown⟩
  have h1 : 1 ≤ l.length := by omega
  by_cases h8 : 8 < l.length
  · have HO : Hid (chkE l = 23) := by
      refine chk_no ?_
      unfold okH
      simp
      omega
    clear h0
    go_enter Tryd.func20, Tryd.ntmps20
    go_wp2_with fail
    go_ret
    exact ⟨congrArg (fun z => Ending.returned (.int .i64 z)) HO.out.symm, by go_grown⟩
  have h8' : l.length ≤ 8 := by omega
  have HO : Hid (okH l = l.all okR) := by
    show okH l = l.all okR
    unfold okH
    have : l ≠ [] := fun e => h0 (by rw [e]; rfl)
    simp [this, h8']
  clear h0 h8
  go_enter Tryd.func20, Tryd.ntmps20
  go_wp2_with fail
  obtain ⟨W1, hW1⟩ : ∃ W1, W1 = w.alloc (.cells #[.slice a l.length c] 24) := ⟨_, rfl⟩
  have hB1 : Below w.heap.size w W1 := by rw [hW1]; exact (Below.refl _ _).alloc (Nat.le_refl _) _
  have ch : W1.cell? ⟨w.heap.size, 0, none⟩ = some (.slice a l.length c) := by rw [hW1]; go_cell
  rw [← hW1]
  have HB := Lib.hid hB1
  clear hW1 hB1
  go_loop [3] (fun i => ∃ k : Nat, k ≤ l.length ∧ i = .int .i64 k ∧ Hid (∀ j r, j < k → l[j]? = some r → okR r = true)) (fun i => l.length - (intOf i).toNat)
  case atStart => exact ⟨0, by omega, rfl, fun j r h => absurd h (by omega)⟩
  case round =>
    obtain ⟨k, hk, rfl, HK⟩ := hrel
    by_cases hlt : k < l.length
    · obtain ⟨⟨c0, m0⟩, hx⟩ : ∃ x, l[k]? = some x := ⟨_, List.getElem?_eq_getElem hlt⟩
      obtain ⟨⟨hb0, hb1, hb2⟩, ba, o, rfl, hc0, hc1⟩ := HR.out k _ hx
      have cx := keepC HB.out hc0
      have cy := keepC HB.out hc1
      have HX := Lib.hid hx
      clear hc0 hc1 hx
      dsimp only at hb0 hb1 hb2 cx cy
      have hno : okR (c0, m0) = false → chkE l = 23 := fun h => chk_no (by rw [HO.out]; exact List.all_eq_false.2 ⟨_, List.mem_of_getElem? HX.out, by rw [h]; decide⟩)
      have HNO := Lib.hid hno
      clear hno
      by_cases g0 : c0 < 0
      · have HE := Lib.hid (HNO.out (by unfold okR; simp; omega))
        go_wp2_with fail
        go_ret
        exact ⟨congrArg (fun z => Ending.returned (.int .i64 z)) HE.out.symm, HB.out⟩
      · by_cases g2 : 2 < c0
        · have HE := Lib.hid (HNO.out (by unfold okR; simp; omega))
          go_wp2_with fail
          go_ret
          exact ⟨congrArg (fun z => Ending.returned (.int .i64 z)) HE.out.symm, HB.out⟩
        · by_cases gm : m0 = 0
          · have HE := Lib.hid (HNO.out (by unfold okR; simp [gm]))
            subst gm
            go_wp2_with fail
            go_ret
            exact ⟨congrArg (fun z => Ending.returned (.int .i64 z)) HE.out.symm, HB.out⟩
          · have gmi : ((m0 : Int) == 0) = false := beq_eq_false_iff_ne.2 (by omega)
            have HOK : Hid (okR (c0, m0) = true) := by
              show okR (c0, m0) = true
              unfold okR
              simp [gm]
              omega
            clear gm
            go_wp2_with fail
            go_round
            case rel => exact ⟨k + 1, by omega, by go_num, fun j r hj hr => by
                rcases Nat.lt_or_ge j k with h | h
                · exact HK.out j r h hr
                · obtain rfl : j = k := by omega
                  rw [HX.out] at hr
                  cases hr
                  exact HOK.out⟩
            case measure => simp [intOf]; omega
    · go_wp2_with fail
      go_ret
      refine ⟨?_, HB.out⟩
      have : chkE l = 0 := chk_yes (by
        rw [HO.out, List.all_eq_true]
        intro r hr
        obtain ⟨j, hj⟩ := List.getElem?_of_mem hr
        exact HK.out j r (by have := (List.getElem?_eq_some_iff.1 hj).1; omega) hj)
      rw [this]
      rfl
/-- Some string of not too many bytes comes back, and a code. -/
def SomeP (w : World) (e : Ending) (w' : World) : Prop := ∃ (st : ByteArray) (c : Int), e = .returned (.tuple #[.string st, .int .i64 c]) ∧ st.size ≤ 100 ∧ Below w.heap.size w w'
set_option maxRecDepth 100000 in
set_option maxHeartbeats 2000000 in
theorem rput_any (v : Value) (l : List HRow) (w : World) (hv : RdH w v l) (hl : l.length ≤ 140737488355328) : Calls Tryd.prog 5 #[.agg #[v]] w (SomeP w) := by
  obtain ⟨a, c, rfl, hc, hr⟩ := hv
  have HV : Hid (RdH w (.slice a l.length c) l) := ⟨a, c, rfl, hc, hr⟩
  clear hr
  obtain ⟨v, hv⟩ : ∃ v, okH l = v := ⟨_, rfl⟩
  have hB1 : Below w.heap.size w (w.alloc (.cells #[.slice a l.length c] 24)) := (Below.refl _ _).alloc (Nat.le_refl _) _
  have HV1 := Lib.hid (HV.out.below hB1)
  have HB1 := Lib.hid hB1
  clear hB1 HV
  cases v
  · have HE : Hid (chkE l = 23) := chk_no hv
    clear hv
    go_enter Tryd.func5, Tryd.ntmps5
    go_wp2_with fail
    have q := rcheck_any _ l _ HV1.out hl
    rw [HE.out] at q
    refine q.mono ?_
    clear q
    rintro e w1 ⟨rfl, hB⟩
    have HB2 := Lib.hid (HB1.out.trans (hB.mono HB1.out.size))
    clear hB
    go_wp2_with fail
    go_ret2
    exact ⟨_, _, rfl, by decide, HB2.out⟩
  · have HE : Hid (chkE l = 0) := chk_yes hv
    obtain ⟨hl0, hl8, hlr⟩ := okH_parts hv
    have HL := Lib.hid hlr
    have hl1 : 0 < l.length := List.length_pos_iff.2 hl0
    clear hv hlr hl0
    go_enter Tryd.func5, Tryd.ntmps5
    go_wp2_with fail
    have q := rcheck_any _ l _ HV1.out hl
    rw [HE.out] at q
    refine q.mono ?_
    clear q
    rintro e w1 ⟨rfl, hB⟩
    have cb : w1.cell? ⟨w.heap.size, 0, none⟩ = some (.slice a l.length c) := keepC hB (by go_cell)
    have HB2 := Lib.hid (HB1.out.trans (hB.mono HB1.out.size))
    obtain ⟨a', c', he, hc', hr'⟩ := HV1.out.below hB
    obtain ⟨rfl, _⟩ : a = a' ∧ True := by cases he; exact ⟨rfl, trivial⟩
    have HR := Lib.hid hr'
    obtain ⟨⟨c0, m0⟩, hx⟩ : ∃ x, l[0]? = some x := ⟨_, List.getElem?_eq_getElem hl1⟩
    obtain ⟨⟨hb0, hb1, hb2⟩, ba, o, rfl, hc0, hc1⟩ := HR.out 0 _ hx
    obtain ⟨ho0, ho1, ho2⟩ := okR_parts (HL.out _ (List.mem_of_getElem? hx))
    dsimp only at hb2 hc0 hc1 ho0 ho1
    rw [Nat.zero_mul, Nat.add_zero] at hc0 hc1
    clear hB he hr' hx HV1 ho2
    go_wp2_with fail
    refine (rrow_any c0 m0 w1 ho0 ho1 hb2).mono ?_
    rintro e w2 ⟨st, rfl, hst, hB⟩
    have cb2 := keepC hB cb
    have HR2 : Hid (∀ (k : Nat) (r : HRow), l[k]? = some r → rwB r ∧ w2.cell? ⟨ba, o + k * 2, none⟩ = some (.int .i64 r.1) ∧ w2.cell? ⟨ba, o + k * 2 + 1, none⟩ = some (.int .u8 (r.2 : Nat))) := fun k r hk => by
      obtain ⟨q0, b', o', e', q1, q2⟩ := HR.out k r hk
      cases e'
      exact ⟨q0, keepC hB q1, keepC hB q2⟩
    have HB3 := Lib.hid (HB2.out.trans (hB.mono HB2.out.size))
    have HST := Lib.hid hst
    clear hB cb hc0 hc1 hst
    go_wp2_with fail
    go_loopw [4, 5] (fun s i wr => ∃ (k : Nat) (st : ByteArray), k + 1 ≤ l.length ∧ i = .int .i64 ((k : Int) + 1) ∧ s = .string st ∧ Hid (st.size = 10 * k + 9) ∧ Hid (Below w2.heap.size w2 wr)) (fun _ i _ => l.length + 1 - (intOf i).toNat)
    case atStart => exact ⟨0, _, by omega, rfl, rfl, HST.out, Below.refl _ _⟩
    case round =>
      obtain ⟨k, st2, hk, rfl, rfl, HS, HBw⟩ := hrel
      have cbw := keepC HBw.out cb2
      have hsb : st2.size ≤ 1000 := by have := HS.out; omega
      by_cases hlt : k + 1 < l.length
      · obtain ⟨⟨x, m⟩, hx⟩ : ∃ x, l[k + 1]? = some x := ⟨_, List.getElem?_eq_getElem hlt⟩
        obtain ⟨⟨_, _, hm2⟩, q1, q2⟩ := HR2.out _ _ hx
        obtain ⟨p0, p1, _⟩ := okR_parts (HL.out _ (List.mem_of_getElem? hx))
        have q1 := keepC HBw.out q1
        have q2 := keepC HBw.out q2
        dsimp only at hm2 q1 q2 p0 p1
        clear hx
        go_wp2_with fail
        refine (rrow_any x m wr p0 p1 hm2).mono ?_
        rintro e w3 ⟨st3, rfl, hst3, hB⟩
        have HBx := Lib.hid (HBw.out.trans (hB.mono HBw.out.size))
        have HS3 := Lib.hid hst3
        have hsb3 : st3.size ≤ 1000 := by omega
        clear hB hst3
        go_wp2_with fail
        go_roundw
        case rel => exact ⟨k + 1, _, by omega, by go_num, rfl, Lib.hid (by rw [ByteArray.size_append, ByteArray.size_append, HS.out, HS3.out]; show 10 * k + 9 + 1 + 9 = _; omega), HBx⟩
        case measure => simp [intOf]; omega
      · go_wp2_with fail
        go_ret2
        exact ⟨_, _, rfl, by rw [HS.out]; omega, HB3.out.trans (HBw.out.mono HB3.out.size)⟩
end Go.Proofs.YtpbfabcihoiiiaaDoor
