/- IdentBack: the walk. -/
import Derived.Test.YteelccgaemmmpaaDoorId8
namespace Go.Proofs.YteelccgaemmmpaaDoor
open Go.RowKit
set_option linter.unusedVariables false
set_option linter.unusedSimpArgs false

theorem Ris.snoc : ∀ (l : List Int) (last y : Int), Ris last l → last < y → (∀ x ∈ l, x < y) → inS y = true → Ris last (l ++ [y])
  | [], last, y, _, h1, _, h3 => ⟨h1, h3, trivial⟩
  | x :: l, last, y, h, h1, h2, h3 => ⟨h.1, h.2.1, Ris.snoc l x y h.2.2 (h2 x (by simp)) (fun z hz => h2 z (by simp [hz])) h3⟩
theorem labs_ris_len {l : List Int} (h : Ris (-1) l) : (labsL l).length = 3 * l.length - 1 := by
  unfold labsL
  rw [h.filt, join_len2 l (Ris.ins l _ h)]
theorem run_take {P : Program} (t : TypeId) (ht : P.underlying t = some .string) (s : ByteArray) (m : Nat) (hm : m ≤ s.size) (W : World) : (Instr.slice t (.string s) none (some (.int .i64 (m : Int))) none).run P W = .ok (.string (s.extract 0 m)) W := by
  rw [run_slice_string_h W t s ht .i64 (m : Int) (by omega) (by omega)]
  simp
set_option maxRecDepth 100000 in
set_option maxHeartbeats 2000000 in
theorem back_any (mask : Int) (s : ByteArray) (w : World) (hG : GW w) (h0 : 0 ≤ mask) (h1 : mask < 18446744073709551616) : Calls Tryd.prog 5 #[.int .u64 mask, .string s] w fun e w' => e = .returned (.bool true) ∧ Below w.heap.size w w' := by
  obtain ⟨m, hm⟩ : ∃ m : Nat, m = min s.size 300 := ⟨_, rfl⟩
  have hmi : (if (300 : Int) < (s.size : Int) then (300 : Int) else (s.size : Int)) = (m : Int) := by split <;> omega
  have hmi2 : min (s.size : Int) 300 = (m : Int) := by omega
  have hms : m ≤ s.size := by omega
  have hsl := fun W => run_take (P := Tryd.prog) 9 Tryd.underlying9 s m hms W
  have hsz : (s.extract 0 m).size ≤ 300 := by rw [ByteArray.size_extract]; omega
  obtain ⟨S, hS⟩ : ∃ S, S = s.extract 0 m := ⟨_, rfl⟩
  rw [← hS] at hsl hsz
  have HG := Lib.hid hG
  clear hm hS hG
  go_enter Tryd.func5, Tryd.ntmps5
  go_wp2_with fail
  refine (works_any _ HG.out).mono ?_
  rintro e w0 ⟨rfl, hB0⟩
  have HB0 := Lib.hid hB0
  clear hB0
  go_wp2_with fail
  go_loopw [5, 6] (fun v i wr => ∃ (k : Nat) (out : List Int), k ≤ 64 ∧ i = .int .i64 k ∧ out.length ≤ k ∧ Hid (Ris (-1) out ∧ ∀ x ∈ out, x < (k : Int)) ∧ Hid (wr.ownsRow w.heap.size 3 1 v out.length (out.map idZ)) ∧ Hid (Below w.heap.size w wr)) (fun _ i _ => 64 - (intOf i).toNat)
  case atStart => exact ⟨0, [], Nat.zero_le _, rfl, by simp, ⟨trivial, fun x hx => by cases hx⟩, World.ownsRow_nil _ _ _ _, HB0.out⟩
  case round =>
    obtain ⟨k, out, hk, rfl, hol, hR, HO, HB⟩ := hrel
    by_cases hlt : k < 64
    · have hz := HB.out.size
      have hkb : (k : Int) < 64 := by omega
      go_wp2_with (at_builtin; refine own_append_box w.heap.size rfl (.tmp 23) (.tmp 25) 27 3 rfl Tryd.underlying27 info_int rfl (by decide) _ out.length _ #[.int .i64 (k : Int)] rfl (by simp [Value.oneCell']) rfl rfl HO.out HB.out hz (by omega) (by omega) ?_; intro v3 w3 hO3 hB3 hs3)
      · go_roundw
        case rel => exact ⟨k + 1, out ++ [(k : Int)], by omega, by go_num, by simp; omega, ⟨Ris.snoc out (-1) k hR.out.1 (by omega) hR.out.2 (by unfold inS; rw [decide_eq_true_eq]; omega), fun x hx => by
          rcases List.mem_append.1 hx with h | h
          · have := hR.out.2 x h
            omega
          · obtain rfl : x = (k : Int) := by simpa using h
            omega⟩, by rw [List.length_append, List.map_append]; exact hO3, hB3⟩
        case measure => simp [intOf]; omega
      · go_roundw
        case rel => exact ⟨k + 1, out, by omega, by go_num, by omega, ⟨hR.out.1, fun x hx => by have := hR.out.2 x hx; omega⟩, HO.out, HB.out⟩
        case measure => simp [intOf]; omega
    · obtain rfl : k = 64 := by omega
      rw [show ((64 : Nat) : Int) = (64 : Int) from rfl]
      have q := labels_any out _ wr (RdS.own HO.out) (by omega)
      have hse := seats_labs out hR.out.1
      have hle := labs_ris_len hR.out.1
      obtain ⟨T, hT⟩ : ∃ T : ByteArray, T = ⟨(labsL out).toArray⟩ := ⟨_, rfl⟩
      have hTl : T.data.toList = labsL out := by rw [hT]
      have hTs : T.size = 3 * out.length - 1 := by rw [← size_toList, hTl, hle]
      rw [← hT] at q
      have q2 := fun W hM => seats_any T W (by omega) hM
      rw [hTl, hse] at q2
      have Q2 := Lib.hid q2
      have hmax : max (0 : Int) (3 * (out.length : Int) - 1) = (T.size : Int) := by omega
      have hmax2 : (if (0 : Int) < 3 * (out.length : Int) - 1 then 3 * (out.length : Int) - 1 else 0) = (T.size : Int) := by split <;> omega
      have hTb : (T.size : Int) ≤ 191 := by omega
      have HO' := Lib.hid (RdS.own HO.out)
      obtain ⟨a, c, rfl, hc, _⟩ := HO'.out.opn
      clear hse hle hT hTl hTs q2 HO hR
      go_wp2_with fail
      refine q.mono ?_
      rintro e w1 ⟨rfl, hB1⟩
      have HR1 := Lib.hid (HO'.out.below hB1)
      have HB1 := Lib.hid (bstep HB.out hB1)
      clear hB1 HB q HO'
      go_wp2_with fail
      refine (Q2.out _ (HG.out.below HB1.out).m).mono ?_
      rintro e w2 ⟨v2, rfl, hr2, hB2⟩
      replace hr2 : RdS w2 v2 out := hr2
      rw [show (some out).isSome = true from rfl]
      have HR2 := Lib.hid hr2
      have HRo := Lib.hid (HR1.out.below hB2)
      have HB2 := Lib.hid (bstep HB1.out hB2)
      clear hB2 HB1 Q2 hr2 HR1
      go_wp2_with fail
      have q := ints_any out out _ v2 w2 HRo.out HR2.out (by unfold maxLen; omega)
      rw [show decide (out = out) = true from decide_eq_true rfl] at q
      refine q.mono ?_
      rintro e w3 ⟨rfl, hB3⟩
      have HB3 := Lib.hid (bstep HB2.out hB3)
      clear hB3 HB2 q HR2 HRo
      go_wp2_with fail
      refine (seats_any S w3 (by omega) (HG.out.below HB3.out).m).mono ?_
      rintro e w4 ⟨v4, rfl, hr4, hB4⟩
      have HR4 := Lib.hid hr4
      have HB4 := Lib.hid (bstep HB3.out hB4)
      clear hB4 HB3 hr4
      cases hO : seatsO S.data.toList with
      | none =>
        have hr := HR4.out
        rw [hO] at hr
        obtain ⟨a8, c8, rfl, _⟩ := hr.opn
        rw [show (none : Option (List Int)).isSome = false from rfl]
        clear hr hO HR4
        go_wp2_with fail
        go_ret
        exact ⟨rfl, HB4.out⟩
      | some l =>
        have hr := HR4.out
        rw [hO] at hr
        replace hr : RdS w4 v4 l := hr
        obtain ⟨hri, hll⟩ := labs_seats hO
        have hl3 := labs_ris_len hri
        rw [hll, size_toList] at hl3
        have q := labels_any l v4 w4 hr (by omega)
        rw [mk_of hll.symm] at q
        have hb : (S.toList == S.toList) = true := beq_self_eq_true _
        rw [show (some l).isSome = true from rfl]
        clear hr hO HR4 hri hll hl3
        go_wp2_with fail
        refine q.mono ?_
        rintro e w5 ⟨rfl, hB5⟩
        go_wp2_with fail
        go_ret
        exact ⟨rfl, bstep HB4.out hB5⟩
end Go.Proofs.YteelccgaemmmpaaDoor
