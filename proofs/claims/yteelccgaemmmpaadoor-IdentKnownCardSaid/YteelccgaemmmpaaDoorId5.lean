/- Slices of ints; Seat of the reference; ints; Labels. -/
import Derived.Test.YteelccgaemmmpaaDoorId4
import Derived.Test.YteelccgaemmmpaaDoorAp
import Derived.Test.YteelccgaemmmpaaDoorSj
import Derived.ScopeJumps
import Derived.WalkMore
namespace Go.Proofs.YteelccgaemmmpaaDoor
open Go.RowKit
set_option linter.unusedVariables false
set_option linter.unusedSimpArgs false

def idZ (n : Int) : Value := .int .i64 n
/-- The value v is a slice that reads as these numbers. -/
def RdS (w : World) (v : Value) (l : List Int) : Prop :=
  ∃ (A : Option (Nat × Nat)) (c : Nat), v = .slice (A.map fun p => ⟨p.1, p.2, none⟩) l.length c ∧ l.length ≤ c ∧ (A = none → c = 0) ∧ ∀ p, A = some p → ∀ (k : Nat) (n : Int), l[k]? = some n → w.cell? ⟨p.1, p.2 + k, none⟩ = some (.int .i64 n)
theorem RdS.nil (w : World) : RdS w (.slice none 0 0) [] := ⟨none, 0, rfl, Nat.le_refl _, fun _ => rfl, fun _ h => by cases h⟩
theorem RdS.below {w w1 : World} {v : Value} {l : List Int} (h : RdS w v l) (hb : Below w.heap.size w w1) : RdS w1 v l := by
  obtain ⟨A, c, e, h1, h2, h3⟩ := h
  exact ⟨A, c, e, h1, h2, fun p hp k n hn => keepC hb (h3 p hp k n hn)⟩
theorem RdS.own {w : World} {base : Nat} {e : TypeId} {v : Value} {l : List Int} (h : w.ownsRow base e 1 v l.length (l.map idZ)) : RdS w v l := by
  rcases own_cells h with ⟨h1, h2⟩ | ⟨g, c, h1, h2, _, h3⟩
  · obtain rfl := List.eq_nil_of_length_eq_zero h2
    subst h1
    exact RdS.nil w
  · refine ⟨some (g, 0), c, h1, h2, (fun h => by cases h), fun p hp k n hn => ?_⟩
    obtain rfl : (g, 0) = p := by simpa using hp
    rw [Nat.zero_add]
    exact h3 _ _ (by rw [List.getElem?_map, hn]; rfl)
theorem RdS.opn {w : World} {v : Value} {l : List Int} (h : RdS w v l) : ∃ (a : Option Addr) (c : Nat), v = .slice a l.length c ∧ l.length ≤ c ∧ ∀ (k : Nat) (n : Int), l[k]? = some n → ∃ b o, a = some ⟨b, o, none⟩ ∧ w.cell? ⟨b, o + k, none⟩ = some (.int .i64 n) := by
  obtain ⟨A, c, rfl, h1, h2, h3⟩ := h
  refine ⟨_, c, rfl, h1, fun k x hx => ?_⟩
  cases A with
  | none =>
    have := (List.getElem?_eq_some_iff.1 hx).1
    have := h2 rfl
    omega
  | some p => exact ⟨p.1, p.2, rfl, h3 p rfl k x hx⟩
/-- Numbers of a literal. -/
theorem RdS.lit (w : World) (l : List Int) (t : TypeId) : RdS (w.alloc (.cells (l.map idZ).toArray t)) (.slice (some ⟨w.heap.size, 0, none⟩) l.length l.length) l := by
  refine ⟨some (w.heap.size, 0), l.length, rfl, Nat.le_refl _, (fun h => by cases h), fun p hp k n hn => ?_⟩
  obtain rfl : (w.heap.size, 0) = p := by simpa using hp
  rw [cell_of_row _ _ _ _ _ _ (heap_alloc_new w _), Nat.zero_add]
  simp [hn, idZ]
theorem info_str : (Tryd.prog.info? 9).map (fun i => (i.zero, i.size, i.bytes)) = some (some (.string ByteArray.empty), 1, 16) := by kernel_rfl
theorem info_int : (Tryd.prog.info? 3).map (fun i => (i.zero, i.size, i.bytes)) = some (some (.int .i64 0), 1, 8) := by kernel_rfl
theorem below_alloc1 (w : World) (o : Obj) : Below w.heap.size w (w.alloc o) := (Below.refl _ _).alloc (Nat.le_refl _) _

set_option maxHeartbeats 1000000 in
theorem rseat_any (s : ByteArray) (w : World) : Calls Tryd.prog 21 #[.string s] w fun e w' => e = .returned (.tuple #[.int .i64 (seatV s.data.toList), .bool (seatB s.data.toList)]) ∧ Below w.heap.size w w' := by
  go_enter Tryd.func21, Tryd.ntmps21
  go_wp2_with fail
  go_loopw [4] (fun i wr => ∃ k : Nat, k ≤ 64 ∧ i = .int .i64 k ∧ Hid (∀ j : Nat, j < k → lab j ≠ s.data.toList) ∧ Hid (Below w.heap.size w wr)) (fun i _ => 64 - (intOf i).toNat)
  case atStart => exact ⟨0, Nat.zero_le _, rfl, (fun j hj => absurd hj (Nat.not_lt_zero _)), Below.refl _ _⟩
  case round =>
    obtain ⟨k, hk, rfl, hno, HB⟩ := hrel
    by_cases hlt : k < 64
    · have hl : labL (k : Int) = lab k := by unfold labL; rw [if_pos (by unfold inS; rw [decide_eq_true_eq]; omega)]; rfl
      have q := rlabel_any (k : Int) wr
      rw [hl] at q
      obtain ⟨L, hL⟩ : ∃ L : ByteArray, L = ⟨(lab k).toArray⟩ := ⟨_, rfl⟩
      rw [← hL] at q
      have HLl : L.data.toList = lab k := by rw [hL]
      by_cases he : lab k = s.data.toList
      · have h1 : (L.toList == s.toList) = true := by rw [ByteArray.toList_eq, ByteArray.toList_eq, HLl, he, beq_self_eq_true]
        have hs : seatI s.data.toList = k := by rw [← he]; exact seatI_lab k hlt
        obtain ⟨r1, r2⟩ := seat_yes (l := s.data.toList) (by omega)
        have HR : Hid (seatV s.data.toList = (k : Int) ∧ seatB s.data.toList = true) := ⟨r1.trans hs, r2⟩
        clear hL HLl he hl hno hs r1 r2
        go_wp2_with fail
        refine q.mono ?_
        rintro e w1 ⟨rfl, hB1⟩
        have HB1 := Lib.hid (bstep HB.out hB1)
        clear hB1 HB q
        go_wp2_with fail
        go_ret2
        exact ⟨by rw [HR.out.1, HR.out.2]; rfl, HB1.out⟩
      · have h1 : (L.toList == s.toList) = false := by rw [ByteArray.toList_eq, ByteArray.toList_eq, HLl, beq_eq_false_iff_ne]; exact he
        have HN : Hid (∀ j : Nat, j < k + 1 → lab j ≠ s.data.toList) := fun j hj => by
          by_cases e : j = k
          · subst e; exact he
          · exact hno.out j (by omega)
        clear hL HLl he hl hno
        go_wp2_with fail
        refine q.mono ?_
        rintro e w1 ⟨rfl, hB1⟩
        have HB1 := Lib.hid (bstep HB.out hB1)
        clear hB1 HB q
        go_wp2_with fail
        go_roundw
        case rel => exact ⟨k + 1, by omega, by go_num, HN.out, HB1.out⟩
        case measure => simp [intOf]; omega
    · have hs : seatI s.data.toList < 0 := by
        rcases Int.lt_or_le (seatI s.data.toList) 0 with h | h
        · exact h
        · have hb := (seatI_bd s.data.toList).2
          have e := lab_seatI h
          unfold labL at e
          rw [if_pos (inS_seatI h)] at e
          exact absurd e.symm (hno.out _ (by omega))
      have HR := Lib.hid (seat_no hs)
      clear hs hno
      go_wp2_with fail
      go_ret2
      exact ⟨by rw [HR.out.1, HR.out.2]; rfl, HB.out⟩

theorem take_eq_get {a b : List Int} {k : Nat} (h : a.take k = b.take k) (ha : k < a.length) (hb : k < b.length) (he : a[k] = b[k]) : a.take (k + 1) = b.take (k + 1) := by
  rw [List.take_succ_eq_append_getElem ha, List.take_succ_eq_append_getElem hb, h, he]
set_option maxHeartbeats 1000000 in
theorem ints_any (a b : List Int) (va vb : Value) (w : World) (ha : RdS w va a) (hb : RdS w vb b) (hml : a.length ≤ maxLen) : Calls Tryd.prog 22 #[va, vb] w fun e w' => e = .returned (.bool (decide (a = b))) ∧ Below w.heap.size w w' := by
  obtain ⟨x, c, rfl, hc, hr⟩ := ha.opn
  obtain ⟨y, d, rfl, hd, hq⟩ := hb.opn
  have HX := Lib.hid hr
  have HY := Lib.hid hq
  unfold maxLen at hml
  clear hr hq ha hb
  by_cases hl : a.length = b.length
  · have hn : ((a.length : Int) != (b.length : Int)) = false := by rw [hl]; simp
    have HL := Lib.hid hl
    clear hl
    go_enter Tryd.func22, Tryd.ntmps22
    go_wp2_with fail
    go_loopw [5] (fun i wr => ∃ k : Nat, k ≤ a.length ∧ i = .int .i64 k ∧ Hid (a.take k = b.take k) ∧ Hid (Below w.heap.size w wr)) (fun i _ => a.length - (intOf i).toNat)
    case atStart => exact ⟨0, Nat.zero_le _, rfl, rfl, Below.refl _ _⟩
    case round =>
      obtain ⟨k, hk, rfl, ht, HB⟩ := hrel
      by_cases hlt : k < a.length
      · have hlb : k < b.length := by have := HL.out; omega
        obtain ⟨b1, o1, rfl, c1⟩ := HX.out k a[k] (List.getElem?_eq_getElem hlt)
        obtain ⟨b2, o2, rfl, c2⟩ := HY.out k b[k] (List.getElem?_eq_getElem hlb)
        have i0 : (0 : Int) ≤ (k : Int) := by omega
        have i1 : (k : Int) < (a.length : Int) := by omega
        have i2 : (k : Int) < (b.length : Int) := by omega
        replace c1 := keepC HB.out c1
        replace c2 := keepC HB.out c2
        by_cases he : a[k] = b[k]
        · have HT := Lib.hid (take_eq_get ht.out hlt hlb he)
          have hne : (a[k] != b[k]) = false := by rw [he]; simp
          clear he ht
          go_wp2_with fail
          go_quiet (fail)
          go_wp2_with fail
          go_roundw
          case rel => exact ⟨k + 1, by omega, by go_num, HT.out, below_drewN HB.out _⟩
          case measure => simp [intOf]; omega
        · have hne : (a[k] != b[k]) = true := by simpa using he
          have HF : Hid (decide (a = b) = false) := by
            show decide (a = b) = false
            rw [decide_eq_false_iff_not]
            rintro rfl
            exact he rfl
          clear he ht
          go_wp2_with fail
          go_quiet (fail)
          go_wp2_with fail
          go_ret
          exact ⟨by rw [HF.out]; rfl, below_drewN HB.out _⟩
      · have HF : Hid (decide (a = b) = true) := by
          show decide (a = b) = true
          rw [decide_eq_true_eq]
          have h1 := ht.out
          have := HL.out
          rwa [List.take_of_length_le (by omega), List.take_of_length_le (by omega)] at h1
        clear ht
        go_wp2_with fail
        go_ret
        exact ⟨by rw [HF.out]; rfl, HB.out⟩
  · have hn : ((a.length : Int) != (b.length : Int)) = true := by simp; omega
    have HF : Hid (decide (a = b) = false) := by
      show decide (a = b) = false
      rw [decide_eq_false_iff_not]
      rintro rfl
      exact hl rfl
    clear hl
    go_enter Tryd.func22, Tryd.ntmps22
    go_wp2_with fail
    go_ret
    exact ⟨by rw [HF.out]; rfl, Below.refl _ _⟩

theorem wp_scope_round {P : Program} {a : Act} {w : World} {Q : Exit → Act → World → Prop} {c rest : Code} (l : Nat) (J : Act → World → Prop) (μ : Act → World → Nat) (hf : findLabel c l = some (Code.skip.seq rest))
    (pass : ∀ a w, J a w → rest.wp P (Exit.jump l (fun a' w' => J a' w' ∧ μ a' w' < μ a w) Q) a w)
    (first : (∀ a w, J a w → rest.wp P (Exit.jump l J Q) a w) → c.wp P (Exit.jump l J Q) a w) : (Code.scope c).wp P Q a w :=
  wp_scope_jumps l J μ hf (first fun a w hJ => wp_mono (pass a w hJ) (by
    intro e a' w' h
    cases e <;> first | exact h | exact ⟨h.1, h.2.1⟩)) (fun a w hJ => wp_seq (wp_skip (pass a w hJ)))

/-- A label, as bytes. -/
def lbB (x : Int) : ByteArray := ⟨(labL x).toArray⟩
def lbs (l : List Int) : List ByteArray := (l.filter inS).map lbB
theorem lbs_snoc (l : List Int) (x : Int) : lbs (l ++ [x]) = if inS x = true then lbs l ++ [lbB x] else lbs l := by
  unfold lbs
  rw [List.filter_append]
  by_cases h : inS x = true
  · rw [if_pos h, List.filter_cons, if_pos h, List.filter_nil, List.map_append]; rfl
  · rw [if_neg h, List.filter_cons, if_neg h, List.filter_nil, List.append_nil]
theorem lbs_len (l : List Int) : (lbs l).length ≤ l.length := by
  unfold lbs
  rw [List.length_map]
  exact List.length_filter_le _ _
theorem lbs_data (l : List Int) : (lbs l).map (·.data.toList) = (l.filter inS).map labL := by
  unfold lbs
  rw [List.map_map]
  rfl
theorem take_snocZ (l : List Int) (k : Nat) (h : k < l.length) : l.take (k + 1) = l.take k ++ [l[k]] := List.take_succ_eq_append_getElem h

set_option maxHeartbeats 4000000 in
theorem labels_any (l : List Int) (v : Value) (w : World) (hv : RdS w v l) (hml : l.length ≤ 1000) : Calls Tryd.prog 16 #[v] w fun e w' => e = .returned (.string ⟨(labsL l).toArray⟩) ∧ Below w.heap.size w w' := by
  obtain ⟨a, c, rfl, hc, hr⟩ := hv.opn
  have HR := Lib.hid hr
  clear hr hv
  go_enter Tryd.func16, Tryd.ntmps16
  go_wp2_with fail
  refine wp_scope_round 0 (fun a' w' => ∃ (k : Nat) (v i u5 u6 u7 u8 u9 u10 u11 u12 u13 u14 u15 u16 u17 u18 u19 u20 u21 u22 : Value), a' = { tmps := #[.slice a l.length c, undef, .string ⟨#[]⟩, v, i, u5, u6, u7, u8, u9, u10, u11, u12, u13, u14, u15, u16, u17, u18, u19, u20, u21, u22, undef, undef], defers := [] } ∧ i = .int .i64 (k : Int) ∧ k ≤ l.length ∧ Hid (w'.ownsRow w.heap.size 9 1 v (lbs (l.take k)).length ((lbs (l.take k)).map Value.string)) ∧ Hid (Below w.heap.size w w')) (fun a' _ => l.length - (intOf (a'.tmps.getD 4 undef)).toNat) rfl ?_ ?_
  · rintro a1 wr ⟨k, v, i, u5, u6, u7, u8, u9, u10, u11, u12, u13, u14, u15, u16, u17, u18, u19, u20, u21, u22, rfl, rfl, hk, HO, HB⟩
    have hki : (k : Int) ≤ 1000 := by omega
    by_cases hlt : k < l.length
    · obtain ⟨b, o, rfl, c1⟩ := HR.out k l[k] (List.getElem?_eq_getElem hlt)
      replace c1 := keepC HB.out c1
      have i0 : (0 : Int) ≤ (k : Int) := by omega
      have i1 : (k : Int) < (l.length : Int) := by omega
      have q := label_any l[k] wr
      have hsn := lbs_snoc (l.take k) l[k]
      rw [← take_snocZ l k hlt] at hsn
      have hll := lbs_len (l.take k)
      rw [List.length_take] at hll
      by_cases hin : inS l[k] = true
      · rw [if_pos hin] at hsn
        obtain ⟨L, hL⟩ : ∃ L : ByteArray, L = lbB l[k] := ⟨_, rfl⟩
        rw [show (⟨(labL l[k]).toArray⟩ : ByteArray) = L from hL.symm] at q
        rw [← hL] at hsn
        have hLd : L.data.toList = labL l[k] := by rw [hL]; rfl
        have hLn : L.toList.isEmpty = false := by
          rw [ByteArray.toList_eq, hLd, List.isEmpty_eq_false_iff]
          intro e
          have := labL_len _ hin
          rw [e] at this
          cases this
        have hLn' : (!L.toList.isEmpty) = true := by rw [hLn]; rfl
        have hLn2 : ¬ L.toList = [] := by simpa using hLn
        have HS := Lib.hid hsn
        obtain ⟨N, hN⟩ : ∃ N, N = (lbs (l.take k)).length := ⟨_, rfl⟩
        rw [← hN] at HO hll
        have HN := Lib.hid hN
        clear hsn hL hLd hin hN
        go_wp2_with fail
        refine q.mono ?_
        rintro e w1 ⟨rfl, hB1⟩
        have HB1 := Lib.hid (bstep HB.out hB1)
        have HO1 := Lib.hid (own_kept HO.out hB1)
        have hz := HB1.out.size
        clear hB1 HB HO q
        go_wp2_with (at_builtin; refine own_append_box w.heap.size rfl (.tmp 17) (.tmp 19) 23 9 rfl Tryd.underlying23 info_str rfl (by decide) _ N _ #[.string L] rfl (by simp [Value.oneCell']) rfl rfl HO1.out HB1.out hz (by omega) (by omega) ?_; intro v2 w2 hO2 hB2 hs2)
        go_step3
        refine ⟨rfl, ⟨k + 1, v2, _, _, _, _, _, _, _, _, _, _, _, _, _, _, _, _, _, _, _, rfl, by go_num, by omega, ?_, hB2⟩, ?_⟩
        · show w2.ownsRow _ _ _ _ _ _
          rw [HS.out, List.length_append, List.map_append, ← HN.out]
          exact hO2
        · simp [intOf]; omega
      · rw [if_neg hin] at hsn
        rw [labL_no _ (by simpa using hin)] at q
        have HS := Lib.hid hsn
        clear hsn hin hll
        go_wp2_with fail
        refine q.mono ?_
        rintro e w1 ⟨rfl, hB1⟩
        have HB1 := Lib.hid (bstep HB.out hB1)
        have HO1 := Lib.hid (own_kept HO.out hB1)
        clear hB1 HB HO q
        go_wp2_with fail
        go_step3
        refine ⟨rfl, ⟨k + 1, v, _, _, _, _, _, _, _, _, _, _, _, _, _, _, _, _, _, _, _, rfl, by go_num, by omega, ?_, HB1.out⟩, ?_⟩
        · show w1.ownsRow _ _ _ _ _ _
          rw [HS.out]
          exact HO1.out
        · simp [intOf]; omega
    · obtain rfl : k = l.length := by omega
      have HO' := HO.out
      rw [List.take_length] at HO'
      have hll := lbs_len l
      have hj : labsL l = Lib.join ((lbs l).map (·.data.toList)) [32] := by rw [lbs_data]; rfl
      have hjl : (Lib.join ((lbs l).map (·.data.toList)) [32]).length ≤ 140737488355328 := by
        rw [← hj]
        have := labsL_len l
        omega
      rcases own_cells HO' with ⟨rfl, h0⟩ | ⟨g, cc, rfl, hg, hbg, hcl⟩
      · have hz : Hid ((⟨#[]⟩ : ByteArray) = ⟨(labsL l).toArray⟩) := by
          show (⟨#[]⟩ : ByteArray) = ⟨(labsL l).toArray⟩
          rw [hj, List.eq_nil_of_length_eq_zero h0]
          rfl
        have q := Tryd.strings_Join_none none 0 ⟨#[32]⟩ wr
        clear hj hjl HO' HO h0 hll
        go_wp2_with fail
        refine q.mono ?_
        rintro e w1 ⟨rfl, rfl⟩
        go_wp2_with fail
        simp only [Exit.jump]
        go_ret
        exact ⟨by rw [← hz.out]; rfl, HB.out⟩
      · have q := Tryd.strings_Join g 0 cc (lbs l) ⟨#[32]⟩ wr (fun j x hx => by
          rw [Nat.zero_add]
          exact hcl j _ (by rw [List.getElem?_map, hx]; rfl)) (HO'.lt g rfl).2 (by omega) hg hjl
        rw [show (⟨#[32]⟩ : ByteArray).data.toList = [32] from rfl, ← hj] at q
        have HQ := Lib.hid q
        clear hj hjl HO' HO hcl hll q
        go_wp2_with fail
        refine HQ.out.mono ?_
        rintro e w1 ⟨rfl, hB1⟩
        go_wp2_with fail
        simp only [Exit.jump]
        go_ret
        exact ⟨rfl, bstep HB.out hB1⟩
  · intro hr
    go_wp2_with fail
    go_step3
    rename_i hK
    refine hK _ _ ?_
    exact hr _ _ ⟨0, _, .int .i64 0, _, _, _, _, _, _, _, _, _, _, _, _, _, _, _, _, _, _, rfl, rfl, Nat.zero_le _, World.ownsRow_nil _ _ _ _, Below.refl _ _⟩
end Go.Proofs.YteelccgaemmmpaaDoor
