/- Halls: rows in memory; may, text, Check, small. -/
import Derived.Test.YtpbfabcihoiiiaaHl1
import Derived.Test.YtpbfabcihoiiiaaAp
namespace Go.Proofs.Ytpbfabcihoiiiaa
open Go.RowKit
set_option linter.unusedVariables false
set_option linter.unusedSimpArgs false

theorem keepC {w w' : World} {a : Addr} {v : Value} (h : Below w.heap.size w w') (hc : w.cell? a = some v) : w'.cell? a = some v :=
  (h.cell (World.block_lt_of_cell? _ _ hc)).trans hc
/-- What a row of any sort may be. -/
def rwB (r : HRow) : Prop := -9223372036854775808 ≤ r.1 ∧ r.1 < 9223372036854775808 ∧ r.2 < 256
/-- The value v is a slice that reads as these rows. -/
def RdH (w : World) (v : Value) (l : List HRow) : Prop :=
  ∃ (a : Option Addr) (c : Nat), v = .slice a l.length c ∧ l.length ≤ c ∧ ∀ (k : Nat) (r : HRow), l[k]? = some r → rwB r ∧ ∃ b o, a = some ⟨b, o, none⟩ ∧ w.cell? ⟨b, o + k * 2, none⟩ = some (.int .i64 r.1) ∧ w.cell? ⟨b, o + k * 2 + 1, none⟩ = some (.int .u8 (r.2 : Nat))
theorem RdH.below {w w1 : World} {v : Value} {l : List HRow} (h : RdH w v l) (hb : Below w.heap.size w w1) : RdH w1 v l := by
  obtain ⟨a, c, e, h1, h2⟩ := h
  exact ⟨a, c, e, h1, fun k x hx => by obtain ⟨hr, b, o, e1, e2, e3⟩ := h2 k x hx; exact ⟨hr, b, o, e1, keepC hb e2, keepC hb e3⟩⟩
theorem RdH.nil (w : World) : RdH w (.slice none 0 0) [] := ⟨none, 0, rfl, Nat.le_refl _, fun k r h => by simp at h⟩
def rowC (r : HRow) : List Value := [.int .i64 r.1, .int .u8 (r.2 : Nat)]
theorem RdH.own {w : World} {base : Nat} {e : TypeId} {v : Value} {l : List HRow} (h : w.ownsRow base e 2 v l.length (l.flatMap rowC)) (hb : ∀ r ∈ l, rwB r) : RdH w v l := by
  rcases own_cells h with ⟨h1, h2⟩ | ⟨g, c, h1, h2, _, h3⟩
  · obtain rfl := List.eq_nil_of_length_eq_zero h2
    subst h1
    exact RdH.nil w
  · refine ⟨some ⟨g, 0, none⟩, c, h1, h2, fun k x hx => ⟨hb x (List.mem_of_getElem? hx), g, 0, rfl, ?_, ?_⟩⟩
    · have f := flat_at rowC 2 (fun _ => rfl) 0 (by omega) l k x hx
      rw [Nat.zero_add]
      exact h3 _ _ f
    · have f := flat_at rowC 2 (fun _ => rfl) 1 (by omega) l k x hx
      rw [Nat.zero_add]
      exact h3 _ _ f

set_option maxHeartbeats 1000000 in
theorem may_any (c : Int) (m : Nat) (w : World) (hm : m < 256) : Calls Try.prog 21 #[.agg #[.int .i64 c, .int .u8 (m : Nat)]] w fun e w' => e = .returned (.bool (okR (c, m))) ∧ Below w.heap.size w w' := by
  have HE : Hid (okR (c, m) = (decide (0 ≤ c) && decide (c ≤ 2) && decide (m ≠ 0))) := by show okR (c, m) = _; rfl
  by_cases h0 : 0 ≤ c
  · by_cases h1 : c ≤ 2
    · by_cases h2 : m = 0
      · subst h2
        go_enter Try.func21, Try.ntmps21
        go_wp2_with fail
        go_ret
        exact ⟨by rw [HE.out]; simp, by go_grown⟩
      · go_enter Try.func21, Try.ntmps21
        go_wp2_with fail
        go_ret
        exact ⟨by rw [HE.out]; simp [h0, h1, h2], by go_grown⟩
    · go_enter Try.func21, Try.ntmps21
      go_wp2_with fail
      go_ret
      exact ⟨by rw [HE.out]; simp; omega, by go_grown⟩
  · go_enter Try.func21, Try.ntmps21
    go_wp2_with fail
    go_ret
    exact ⟨by rw [HE.out]; simp; omega, by go_grown⟩

theorem bit8 (m k : Nat) (hm : m < 256) : (bits .and .u8 ((m : Int) / 2 ^ k) 1 == 1) = m.testBit k := by
  have e : ((m : Nat) : Int) / (2 : Int) ^ k = ((m / 2 ^ k : Nat) : Int) := by simp
  have hd : m / 2 ^ k < 2 ^ 8 := Nat.lt_of_le_of_lt (Nat.div_le_self _ _) hm
  rw [e, show (1 : Int) = ((1 : Nat) : Int) from rfl, (bits_nat .u8 8 (by decide) wraps_u8 _ 1 hd (by decide)).1, Nat.and_one_is_mod, Nat.testBit_eq_decide_div_mod_eq]
  generalize m / 2 ^ k % 2 = z
  rw [Bool.eq_iff_iff]
  simp
  omega
theorem tip_new {W : World} {base : Nat} {e : TypeId} {b : UInt8} {g : Nat} (h : W.cell? ⟨g, 0, none⟩ = some (.int .u8 (b.toNat : Int))) : Tip W base e (.slice (some ⟨g, 0, none⟩) 1 1) [b] := by
  refine .inr ⟨some (g, 0), rfl, fun h => (by cases h), fun p hp j u hu => ?_⟩
  obtain rfl : (g, 0) = p := by simpa using hp
  cases j with
  | zero =>
    simp [bv] at hu
    subst hu
    exact h
  | succ j => simp [bv] at hu
theorem info_u8 : (Try.prog.info? 5).map (fun i => (i.zero, i.size, i.bytes)) = some (some (.int .u8 0), 1, 1) := by kernel_rfl
theorem cls8 (c : Int) (h0 : 0 ≤ c) (h1 : c ≤ 2) : 48 + c = ((UInt8.ofNat (48 + c.toNat)).toNat : Int) := by
  rw [UInt8.toNat_ofNat']
  omega
set_option maxHeartbeats 2000000 in
theorem text_any (c : Int) (m : Nat) (w : World) (hc0 : 0 ≤ c) (hc1 : c ≤ 2) (hm : m < 256) : Calls Try.prog 19 #[.agg #[.int .i64 c, .int .u8 (m : Nat)]] w fun e w' => e = .returned (.string ⟨(rowL (c, m)).toArray⟩) ∧ Below w.heap.size w w' := by
  have hcc := cls8 c hc0 hc1
  have hrow : rowL (c, m) = UInt8.ofNat (48 + c.toNat) :: seatsL m 0 8 := rfl
  obtain ⟨b0, hb0⟩ : ∃ b0, UInt8.ofNat (48 + c.toNat) = b0 := ⟨_, rfl⟩
  rw [hb0] at hcc hrow
  have HC := Lib.hid hcc
  have HR := Lib.hid hrow
  clear hcc hrow hb0
  go_enter Try.func19, Try.ntmps19
  go_wp2_with fail
  obtain ⟨W1, hW1⟩ : ∃ W1, W1 = (w.alloc (.cells #[.int .i64 c, .int .u8 (m : Nat)] 56)).alloc (.cells #[.int .u8 (48 + c)] 5) := ⟨_, rfl⟩
  have hB1 : Below w.heap.size w W1 := by rw [hW1]; exact ((Below.refl _ _).alloc (Nat.le_refl _) _).alloc (by simp) _
  have cm : W1.cell? ⟨w.heap.size, 1, none⟩ = some (.int .u8 (m : Nat)) := by rw [hW1]; go_cell
  have hT0 : Tip W1 (w.heap.size + 1) 5 (.slice (some ⟨w.heap.size + 1, 0, none⟩) 1 1) [b0] := tip_new (by rw [← HC.out, hW1]; go_cell)
  have hz : W1.heap.size = w.heap.size + 2 := by rw [hW1]; simp
  rw [← hW1]
  have HB1 := Lib.hid hB1
  have CM := Lib.hid cm
  have HT0 := Lib.hid hT0
  have HZ := Lib.hid hz
  clear hW1 hB1 cm hT0 hz
  go_loopw [3, 10] (fun b i wr => ∃ k : Nat, k ≤ 8 ∧ i = .int .i64 k ∧ Hid (Tip wr (w.heap.size + 1) 5 b (b0 :: seatsL m 0 k)) ∧ Hid (Below (w.heap.size + 1) W1 wr)) (fun _ i _ => 8 - (intOf i).toNat)
  case atStart => exact ⟨0, by omega, rfl, HT0, Below.refl _ _⟩
  case round =>
    obtain ⟨k, hk, rfl, HT, HB⟩ := hrel
    have cw : wr.cell? ⟨w.heap.size, 1, none⟩ = some (.int .u8 (m : Nat)) := (HB.out.cell (p := ⟨w.heap.size, 1, none⟩) (by simp)).trans CM.out
    by_cases hlt : k < 8
    · obtain ⟨v, hv⟩ : ∃ v, m.testBit k = v := ⟨_, rfl⟩
      have hbit := bit8 m k hm
      rw [hv] at hbit
      have HS : Hid (seatsL m 0 (k + 1) = seatsL m 0 k ++ [seatC v]) := by
        show seatsL m 0 (k + 1) = _
        rw [seatsL_snoc, Nat.zero_add, hv]
      have hlen := seatsL_len m k 0
      have hsz : w.heap.size + 1 ≤ wr.heap.size := by have := HB.out.size; have := HZ.out; omega
      clear hv
      have hl2 : (b0 :: seatsL m 0 k).length + 1 ≤ 140737488355328 := by rw [List.length_cons, hlen]; omega
      cases v
      case' false => go_wp2_with (at_builtin; go_loud (refine tip_append (w0 := W1) (w.heap.size + 1) rfl (.tmp 22) (.tmp 23) 67 5 rfl Try.underlying67 info_u8 _ _ _ (by omega) (by omega) rfl rfl HT.out HB.out hsz hl2 ?_); intro v1 w1 hown HBx hs1; replace HBx := Lib.hid HBx; replace hown := Lib.hid hown)
      case' true => go_wp2_with (at_builtin; go_loud (refine tip_append (w0 := W1) (w.heap.size + 1) rfl (.tmp 19) (.tmp 20) 67 5 rfl Try.underlying67 info_u8 _ _ _ (by omega) (by omega) rfl rfl HT.out HB.out hsz hl2 ?_); intro v1 w1 hown HBx hs1; replace HBx := Lib.hid HBx; replace hown := Lib.hid hown)
      all_goals
        go_roundw
        case rel => exact ⟨k + 1, by omega, by go_num, by rw [HS.out]; exact Tip.owned hown.out, HBx⟩
        case measure => simp [intOf]; omega
    · obtain rfl : k = 8 := by omega
      have hcv := HT.out.rd.str (P := Try.prog) 67 9 5 Try.underlying67 Try.underlying5 Try.underlying9
      go_wp2_with fail
      go_ret
      exact ⟨congrArg (fun z : List UInt8 => Ending.returned (.string ⟨z.toArray⟩)) HR.out.symm, HB1.out.trans (HB.out.mono (by omega))⟩

/-- What Check tells. -/
def chkE (l : List HRow) : Int := if okH l = true then 0 else 23
theorem chk_yes {l : List HRow} (h : okH l = true) : chkE l = 0 := by unfold chkE; rw [if_pos h]
theorem chk_no {l : List HRow} (h : okH l = false) : chkE l = 23 := by unfold chkE; rw [if_neg (by rw [h]; decide)]
set_option maxHeartbeats 2000000 in
theorem check_any (v : Value) (l : List HRow) (w : World) (hv : RdH w v l) (hl : l.length ≤ 140737488355328) : Calls Try.prog 8 #[.agg #[v]] w fun e w' => e = .returned (.int .i64 (chkE l)) ∧ Below w.heap.size w w' := by
  obtain ⟨a, c, rfl, hc, hr⟩ := hv
  have HR := Lib.hid hr
  clear hr
  by_cases h0 : l.length = 0
  · obtain rfl := List.eq_nil_of_length_eq_zero h0
    have HO : Hid (chkE [] = 23) := chk_no rfl
    clear h0
    go_enter Try.func8, Try.ntmps8
    go_wp2_with fail
    go_ret
    exact ⟨congrArg (fun z => Ending.returned (.int .i64 z)) HO.out.symm, by go_grown⟩
  by_cases h8 : 8 < l.length
  · have HO : Hid (chkE l = 23) := by
      refine chk_no ?_
      unfold okH
      simp
      omega
    have h0' : ((l.length : Int) == 0) = false := beq_eq_false_iff_ne.2 (by omega)
    clear h0
    go_enter Try.func8, Try.ntmps8
    go_wp2_with fail
    go_ret
    exact ⟨congrArg (fun z => Ending.returned (.int .i64 z)) HO.out.symm, by go_grown⟩
  have h8' : l.length ≤ 8 := by omega
  have HO : Hid (okH l = l.all okR) := by
    show okH l = l.all okR
    unfold okH
    have : l ≠ [] := fun e => h0 (by rw [e]; rfl)
    simp [this, h8']
  have h0' : ((l.length : Int) == 0) = false := beq_eq_false_iff_ne.2 (by omega)
  clear h0 h8
  go_enter Try.func8, Try.ntmps8
  go_wp2_with fail
  obtain ⟨W1, hW1⟩ : ∃ W1, W1 = w.alloc (.cells #[.slice a l.length c] 26) := ⟨_, rfl⟩
  have hB1 : Below w.heap.size w W1 := by rw [hW1]; exact (Below.refl _ _).alloc (Nat.le_refl _) _
  rw [← hW1]
  have HB1 := Lib.hid hB1
  clear hW1 hB1 h0'
  go_loopw [19] (fun i wr => ∃ k : Nat, k ≤ l.length ∧ i = .int .i64 k ∧ Hid (∀ j r, j < k → l[j]? = some r → okR r = true) ∧ Hid (Below w.heap.size w wr)) (fun i _ => l.length - (intOf i).toNat)
  case atStart => exact ⟨0, by omega, rfl, fun j r h => absurd h (by omega), HB1.out⟩
  case round =>
    clear HB1
    obtain ⟨k, hk, rfl, HK, HB⟩ := hrel
    by_cases hlt : k < l.length
    · obtain ⟨⟨c0, m0⟩, hx⟩ : ∃ x, l[k]? = some x := ⟨_, List.getElem?_eq_getElem hlt⟩
      obtain ⟨⟨hb0, hb1, hb2⟩, ba, o, rfl, hc0, hc1⟩ := HR.out k _ hx
      have cx := keepC HB.out hc0
      have cy := keepC HB.out hc1
      have HX := Lib.hid hx
      clear hc0 hc1 hx
      dsimp only at hb0 hb1 hb2 cx cy
      obtain ⟨v, hv⟩ : ∃ v, okR (c0, m0) = v := ⟨_, rfl⟩
      have HV := Lib.hid hv
      clear hv
      go_wp2_with fail
      have q := may_any c0 m0 (wr.alloc (.cells #[.int .i64 c0, .int .u8 (m0 : Nat)] 29)) hb2
      rw [HV.out] at q
      refine q.mono ?_
      clear q
      rintro e w2 ⟨rfl, hB2⟩
      have HB2 := Lib.hid ((HB.out.alloc HB.out.size _).trans (hB2.mono (by have := HB.out.size; simp; omega)))
      clear hB2
      cases v
      · go_wp2_with fail
        go_ret
        refine ⟨?_, HB2.out⟩
        have : chkE l = 23 := chk_no (by rw [HO.out]; exact List.all_eq_false.2 ⟨_, List.mem_of_getElem? HX.out, by rw [HV.out]; decide⟩)
        rw [this]
        rfl
      · go_wp2_with fail
        go_roundw
        case rel => exact ⟨k + 1, by omega, by go_num, fun j r hj hr => by
            rcases Nat.lt_or_ge j k with h | h
            · exact HK.out j r h hr
            · obtain rfl : j = k := by omega
              rw [HX.out] at hr
              cases hr
              exact HV.out, HB2⟩
        case measure => simp [intOf]; omega
    · go_wp2_with fail
      go_ret
      refine ⟨?_, HB.out⟩
      have : chkE l = 0 := chk_yes (by
        rw [HO.out, List.all_eq_true]
        intro r hr
        obtain ⟨j, hj⟩ := List.getElem?_of_mem hr
        exact HK.out j r (by have := (List.getElem?_eq_some_iff.1 hj).1; omega) hj)
      rw [this]
      rfl
end Go.Proofs.Ytpbfabcihoiiiaa
