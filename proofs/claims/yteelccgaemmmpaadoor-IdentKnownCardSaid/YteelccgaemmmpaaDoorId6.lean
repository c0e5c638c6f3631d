/- Labels of the reference; Seats, and those of the reference. -/
import Derived.Test.YteelccgaemmmpaaDoorId5
namespace Go.Proofs.YteelccgaemmmpaaDoor
open Go.RowKit
set_option linter.unusedVariables false
set_option linter.unusedSimpArgs false

theorem mk_of {S : ByteArray} {l : List UInt8} (h : S.data.toList = l) : (⟨l.toArray⟩ : ByteArray) = S := by
  cases S; subst h; simp
theorem app_list (a b : ByteArray) : (a ++ b).data.toList = a.data.toList ++ b.data.toList := by rw [show (a ++ b).data = a.data ++ b.data from ByteArray.data_append]; simp
set_option maxHeartbeats 2000000 in
theorem rlabels_any (l : List Int) (v : Value) (w : World) (hv : RdS w v l) (hml : l.length ≤ 2000) : Calls Tryd.prog 17 #[v] w fun e w' => e = .returned (.string ⟨(labsL l).toArray⟩) ∧ Below w.heap.size w w' := by
  obtain ⟨a, c, rfl, hc, hr⟩ := hv.opn
  have HR := Lib.hid hr
  clear hr hv
  go_enter Tryd.func17, Tryd.ntmps17
  go_wp2_with fail
  go_loopw [3, 4] (fun s i wr => ∃ (k : Nat) (S : ByteArray), k ≤ l.length ∧ i = .int .i64 k ∧ s = .string S ∧ Hid (S.data.toList = labsL (l.take k)) ∧ Hid (Below w.heap.size w wr)) (fun _ i _ => l.length - (intOf i).toNat)
  case atStart => exact ⟨0, ⟨#[]⟩, Nat.zero_le _, rfl, rfl, rfl, Below.refl _ _⟩
  case round =>
    obtain ⟨k, S, hk, rfl, rfl, hS, HB⟩ := hrel
    by_cases hlt : k < l.length
    · obtain ⟨b, o, rfl, c1⟩ := HR.out k l[k] (List.getElem?_eq_getElem hlt)
      replace c1 := keepC HB.out c1
      have i0 : (0 : Int) ≤ (k : Int) := by omega
      have i1 : (k : Int) < (l.length : Int) := by omega
      have q := rlabel_any l[k] wr
      have hsn := labsL_snoc (l.take k) l[k]
      rw [← take_snocZ l k hlt] at hsn
      have hSs : S.size ≤ 6000 := by
        rw [← size_toList, hS.out]
        have := labsL_len (l.take k)
        rw [List.length_take] at this
        omega
      have hSl := ByteArray.toList_eq S
      obtain ⟨L, hL⟩ : ∃ L : ByteArray, L = lbB l[k] := ⟨_, rfl⟩
      rw [show (⟨(labL l[k]).toArray⟩ : ByteArray) = L from hL.symm] at q
      have hLd : L.data.toList = labL l[k] := by rw [hL]; rfl
      have hLl := ByteArray.toList_eq L
      by_cases hin : inS l[k] = true
      · rw [if_pos hin] at hsn
        have hLs : L.size = 2 := by rw [← size_toList, hLd, labL_len _ hin]
        have hLn : L.toList.isEmpty = false := by
          rw [hLl, List.isEmpty_eq_false_iff]
          intro e
          rw [← size_toList, e] at hLs
          cases hLs
        have hLn2 : ¬ L.toList = [] := by simpa using hLn
        by_cases he : labsL (l.take k) = []
        · rw [if_pos he] at hsn
          have hS0 : S = ⟨#[]⟩ := by
            have := mk_of (hS.out.trans he)
            exact this.symm
          subst hS0
          have hadd : ∀ W, (Op.stringOp .add ⟨#[]⟩ L).run Tryd.prog W = .ok (.string L) W := fun W => by
            rw [run_string_add_sum W _ _ (by show 0 + L.size ≤ _; omega)]
            congr 2
            all_goals
              apply ByteArray.ext
              rw [show ((⟨#[]⟩ : ByteArray) ++ L).data = (⟨#[]⟩ : ByteArray).data ++ L.data from ByteArray.data_append]
              simp
          have HN : Hid (L.data.toList = labsL (l.take (k + 1))) := by show _ = _; rw [hLd, hsn]
          clear hsn hL hLd hin he hLs hSs hS hSl hLl
          go_wp2_with fail
          refine q.mono ?_
          rintro e w1 ⟨rfl, hB1⟩
          have HB1 := Lib.hid (bstep HB.out hB1)
          clear hB1 HB q
          go_wp2_with fail
          go_roundw
          case rel => exact ⟨k + 1, L, by omega, by go_num, rfl, HN.out, HB1.out⟩
          case measure => simp [intOf]; omega
        · rw [if_neg he] at hsn
          have hSn : S.toList.isEmpty = false := by rw [hSl, hS.out]; simpa using he
          have hSn2 : ¬ S.toList = [] := by simpa using hSn
          obtain ⟨S1, hS1⟩ : ∃ S1 : ByteArray, S1 = S ++ ⟨#[32]⟩ := ⟨_, rfl⟩
          have hz1 : S1.size = S.size + 1 := by rw [hS1, ByteArray.size_append]; rfl
          obtain ⟨S2, hS2⟩ : ∃ S2 : ByteArray, S2 = S1 ++ L := ⟨_, rfl⟩
          have hadd1 : ∀ W, (Op.stringOp .add S ⟨#[32]⟩).run Tryd.prog W = .ok (.string S1) W := fun W => by rw [hS1]; exact run_string_add_sum W _ _ (by show S.size + 1 ≤ _; omega)
          have hadd2 : ∀ W, (Op.stringOp .add S1 L).run Tryd.prog W = .ok (.string S2) W := fun W => by rw [hS2]; exact run_string_add_sum W _ _ (by omega)
          have HN : Hid (S2.data.toList = labsL (l.take (k + 1))) := by
            show _ = _
            rw [hS2, app_list, hS1, app_list, hLd, hsn, hS.out, List.append_assoc]
            rfl
          clear hsn hL hLd hin he hLs hSs hS hSl hLl hS1 hS2 hz1
          go_wp2_with fail
          refine q.mono ?_
          rintro e w1 ⟨rfl, hB1⟩
          have HB1 := Lib.hid (bstep HB.out hB1)
          clear hB1 HB q
          go_wp2_with fail
          go_roundw
          case rel => exact ⟨k + 1, S2, by omega, by go_num, rfl, HN.out, HB1.out⟩
          case measure => simp [intOf]; omega
      · rw [if_neg hin] at hsn
        have hL0 : L = ⟨#[]⟩ := by
          rw [labL_no _ (by simpa using hin)] at hLd
          exact (mk_of hLd).symm
        subst hL0
        have hadd : ∀ W, (Op.stringOp .add S ⟨#[]⟩).run Tryd.prog W = .ok (.string S) W := fun W => by
          rw [run_string_add_sum W _ _ (by show S.size + 0 ≤ _; omega)]
          congr 2
          apply ByteArray.ext
          rw [show (S ++ (⟨#[]⟩ : ByteArray)).data = S.data ++ (⟨#[]⟩ : ByteArray).data from ByteArray.data_append]
          simp
        have HN : Hid (S.data.toList = labsL (l.take (k + 1))) := by show _ = _; rw [hsn]; exact hS.out
        clear hsn hL hLd hin hSs hS hSl hLl
        go_wp2_with fail
        refine q.mono ?_
        rintro e w1 ⟨rfl, hB1⟩
        have HB1 := Lib.hid (bstep HB.out hB1)
        clear hB1 HB q
        go_wp2_with fail
        go_roundw
        case rel => exact ⟨k + 1, S, by omega, by go_num, rfl, HN.out, HB1.out⟩
        case measure => simp [intOf]; omega
    · obtain rfl : k = l.length := by omega
      have h2 := hS.out
      rw [List.take_length] at h2
      have HF := Lib.hid (mk_of h2)
      clear h2 hS
      go_wp2_with fail
      go_ret
      exact ⟨by rw [HF.out]; rfl, HB.out⟩

theorem rise_cons {last : Int} {p : List UInt8} {ps : List (List UInt8)} {out : List Int} {R : Option (List Int)} (h : R = (riseL last (p :: ps)).map (out ++ ·)) (hlt : last < seatI p) : R = (riseL (seatI p) ps).map ((out ++ [seatI p]) ++ ·) := by
  rw [h, riseL, if_pos hlt, Option.map_map]
  congr 1
  funext x
  simp
theorem rise_stop {last : Int} {p : List UInt8} {ps : List (List UInt8)} {out : List Int} {R : Option (List Int)} (h : R = (riseL last (p :: ps)).map (out ++ ·)) (hlt : ¬ last < seatI p) : R = none := by
  rw [h, riseL, if_neg hlt]
  rfl
set_option maxHeartbeats 4000000 in
theorem seats_any (s : ByteArray) (w : World) (hs : s.size ≤ 1000) (hM : GM w) : Calls Tryd.prog 18 #[.string s] w fun e w' => ∃ v, e = .returned (.tuple #[v, .bool (seatsO s.data.toList).isSome]) ∧ RdS w' v ((seatsO s.data.toList).getD []) ∧ Below w.heap.size w w' := by
  have htl := ByteArray.toList_eq s
  by_cases h0 : s.toList = []
  · have e0 : seatsO s.data.toList = some [] := by unfold seatsO; rw [← htl, if_pos h0]
    rw [e0]
    clear e0 htl
    go_enter Tryd.func18, Tryd.ntmps18
    go_wp2_with fail
    go_ret2
    exact ⟨_, rfl, RdS.nil _, Below.refl _ _⟩
  · have h0' : s.toList.isEmpty = false := by simpa using h0
    have e0 : seatsO s.data.toList = riseL (-1) (cutL 32 s.data.toList) := by unfold seatsO; rw [← htl, if_neg h0]
    obtain ⟨R, hR⟩ : ∃ R, R = seatsO s.data.toList := ⟨_, rfl⟩
    rw [← hR]
    obtain ⟨m, hm⟩ := hM
    have hsp := Tryd.strings_Split s ⟨#[32]⟩ m w (by omega) hm (Nat.le_refl 1)
    obtain ⟨ps, hps, h1, h2, h4⟩ := pieces s 32
    rw [← hps, h2] at hsp
    have hN : (ps.length : Int) ≤ 1001 := by omega
    have hst : Hid (R = (riseL (-1) ((ps.drop 0).map (·.data.toList))).map ([] ++ ·)) := by
      show R = _
      rw [hR, e0, List.drop_zero, h1]
      simp
    clear hps h1 h2 h4 hm htl h0 e0 hR hs
    go_enter Tryd.func18, Tryd.ntmps18
    go_wp2_with fail
    refine hsp.mono ?_
    rintro e w1 ⟨rfl, hw1⟩
    have hc : Hid (∀ k x, ps[k]? = some x → w1.cell? ⟨w.heap.size, k, none⟩ = some (.string x)) := by
      intro k x hx
      rw [hw1, cell_of_row _ _ k _ _ _ (heap_alloc_new w _)]
      simp [hx]
    have hB : Hid (Below w.heap.size w w1) := by rw [hw1]; exact (Below.refl _ _).alloc (Nat.le_refl _) _
    clear hw1 hsp
    go_wp2_with fail
    go_loopw [4, 5, 15] (fun v t i wr => ∃ (k : Nat) (out : List Int) (last : Int), k ≤ ps.length ∧ i = .int .i64 k ∧ t = .int .i64 last ∧ -1 ≤ last ∧ last < 64 ∧ out.length ≤ k ∧ Hid (R = (riseL last ((ps.drop k).map (·.data.toList))).map (out ++ ·)) ∧ Hid (wr.ownsRow w1.heap.size 3 1 v out.length (out.map idZ)) ∧ Hid (Below w1.heap.size w1 wr)) (fun _ _ i _ => ps.length - (intOf i).toNat)
    case atStart => exact ⟨0, [], -1, Nat.zero_le _, rfl, rfl, by omega, by omega, by simp, hst.out, World.ownsRow_nil _ _ _ _, Below.refl _ _⟩
    case round =>
      clear hst
      obtain ⟨k, out, last, hk, rfl, rfl, hl0, hl1, hol, hR, HO, HB⟩ := hrel
      by_cases hlt : k < ps.length
      · have hx := keepC HB.out (hc.out k ps[k] (List.getElem?_eq_getElem hlt))
        have i0 : (0 : Int) ≤ (k : Int) := by omega
        have i1 : (k : Int) < (ps.length : Int) := by omega
        have q := seat_any ps[k] wr
        have hR' := hR.out
        rw [List.drop_eq_getElem_cons hlt, List.map_cons] at hR'
        obtain ⟨p, hp⟩ : ∃ p, p = ps[k].data.toList := ⟨_, rfl⟩
        rw [← hp] at hR' q
        have hbd := seatI_bd p
        clear hp hR
        by_cases hge : 0 ≤ seatI p
        · obtain ⟨r1, r2⟩ := seat_yes hge
          rw [r1, r2] at q
          clear r1 r2
          obtain ⟨x, hx2⟩ : ∃ x, x = seatI p := ⟨_, rfl⟩
          by_cases hls : last < seatI p
          · have HR := Lib.hid (rise_cons hR' hls)
            rw [← hx2] at hbd hge hls q HR
            have hle : ¬ x ≤ last := by omega
            clear hR' hls hx2
            obtain ⟨hb1, hb2⟩ := hbd
            go_wp2_with fail
            refine q.mono ?_
            rintro e w2 ⟨rfl, hB2⟩
            have HB2 := Lib.hid (bstep HB.out hB2)
            have HO2 := Lib.hid (own_kept HO.out hB2)
            have hz := HB2.out.size
            clear hB2 HB HO q hx
            go_wp2_with (at_builtin; refine own_append_box w1.heap.size rfl (.tmp 31) (.tmp 33) 27 3 rfl Tryd.underlying27 info_int rfl (by decide) _ out.length _ #[.int .i64 x] rfl (by simp [Value.oneCell']) rfl rfl HO2.out HB2.out hz (by omega) (by omega) ?_; intro v3 w3 hO3 hB3 hs3)
            go_roundw
            case rel => exact ⟨k + 1, out ++ [x], x, by omega, by go_num, rfl, by omega, by omega, by simp; omega, HR.out, by rw [List.length_append, List.map_append]; exact hO3, hB3⟩
            case measure => simp [intOf]; omega
          · have HR := Lib.hid (rise_stop hR' hls)
            have hle : x ≤ last := by omega
            rw [← hx2] at q
            clear hR' hls hx2 hbd hge
            go_wp2_with fail
            refine q.mono ?_
            rintro e w2 ⟨rfl, hB2⟩
            have HB2 := Lib.hid (bstep hB.out (bstep HB.out hB2))
            clear hB2 HB HO q hx
            go_wp2_with fail
            go_ret2
            exact ⟨_, by rw [HR.out]; rfl, by rw [HR.out]; exact RdS.nil _, HB2.out⟩
        · obtain ⟨r1, r2⟩ := seat_no (show seatI p < 0 by omega)
          rw [r1, r2] at q
          have HR := Lib.hid (rise_stop hR' (by omega))
          clear hR' r1 r2 hbd hge
          go_wp2_with fail
          refine q.mono ?_
          rintro e w2 ⟨rfl, hB2⟩
          have HB2 := Lib.hid (bstep hB.out (bstep HB.out hB2))
          clear hB2 HB HO q hx
          go_wp2_with fail
          go_ret2
          exact ⟨_, by rw [HR.out]; rfl, by rw [HR.out]; exact RdS.nil _, HB2.out⟩
      · have h2 := hR.out
        rw [List.drop_eq_nil_of_le (by omega)] at h2
        have HR : Hid (R = some out) := by show R = some out; rw [h2]; simp [riseL]
        clear h2 hR
        go_wp2_with fail
        go_ret2
        exact ⟨_, by rw [HR.out]; rfl, by rw [HR.out]; exact RdS.own HO.out, bstep hB.out HB.out⟩

theorem refK_step {last : Int} {S : List UInt8} {i : Nat} {out : List Int} {R : Option (List Int)} {p : List UInt8} (h : R = (refK last (S.drop i)).map (out ++ ·)) (hp : p = (S.drop i).take 2) (hi : i + 2 ≤ S.length) (hlt : last < seatI p) : R = (refK (seatI p) (S.drop (i + 3))).map ((out ++ [seatI p]) ++ ·) := by
  have h3 : S.drop (i + 3) = (S.drop i).drop 3 := by rw [List.drop_drop]
  rw [h3]
  have hl : 2 ≤ (S.drop i).length := by rw [List.length_drop]; omega
  match hS : S.drop i, hl with
  | a :: b :: r, _ =>
    rw [hS] at h hp
    obtain rfl : p = [a, b] := hp
    rw [h, refK_cons, if_pos hlt, Option.map_map]
    show _ = Option.map _ (refK _ (r.drop 1))
    congr 1
    funext x
    simp
theorem refK_no {last : Int} {S : List UInt8} {i : Nat} {out : List Int} {R : Option (List Int)} {p : List UInt8} (h : R = (refK last (S.drop i)).map (out ++ ·)) (hp : p = (S.drop i).take 2) (hi : i + 2 ≤ S.length) (hlt : ¬ last < seatI p) : R = none := by
  have hl : 2 ≤ (S.drop i).length := by rw [List.length_drop]; omega
  match hS : S.drop i, hl with
  | a :: b :: r, _ =>
    rw [hS] at h hp
    obtain rfl : p = [a, b] := hp
    rw [h, refK_cons, if_neg hlt]
    rfl
theorem refK_end {last : Int} {S : List UInt8} {i : Nat} {out : List Int} {R : Option (List Int)} (h : R = (refK last (S.drop i)).map (out ++ ·)) (hi : S.length < i + 2) : R = some out := by
  have hl : (S.drop i).length < 2 := by rw [List.length_drop]; omega
  have e : refK last (S.drop i) = some [] := by
    match S.drop i, hl with
    | [], _ => rw [refK]; all_goals simp
    | [a], _ => rw [refK]; all_goals simp
  rw [h, e]
  simp
theorem part_list (s : ByteArray) (i : Nat) : (s.extract i (i + 2)).data.toList = (s.data.toList.drop i).take 2 := by
  rw [Lib.extract_data]
  simp [List.take_drop]
theorem run_part {P : Program} (t : TypeId) (ht : P.underlying t = some .string) (s : ByteArray) (i : Nat) (h2 : i + 2 ≤ s.size) (W : World) : (Instr.slice t (.string s) (some (.int .i64 (i : Int))) (some (.int .i64 ((i : Int) + 2))) none).run P W = .ok (.string (s.extract i (i + 2))) W := by
  rw [run_slice_string W t s .i64 .i64 (i : Int) ((i : Int) + 2) ht (by omega) (by omega) (by omega)]
  rfl
def LastIs (out : List Int) (last : Int) : Prop := (out = [] ∧ last = -1) ∨ ∃ pre, out = pre ++ [last]
set_option maxHeartbeats 4000000 in
theorem rseats_any (s : ByteArray) (w : World) (hs : s.size ≤ 1000) : Calls Tryd.prog 19 #[.string s] w fun e w' => ∃ v, e = .returned (.tuple #[v, .bool (seatsO s.data.toList).isSome]) ∧ RdS w' v ((seatsO s.data.toList).getD []) ∧ Below w.heap.size w w' := by
  obtain ⟨R, hR⟩ : ∃ R, R = refK (-1) s.data.toList := ⟨_, rfl⟩
  obtain ⟨O, hO⟩ : ∃ O, O = seatsO s.data.toList := ⟨_, rfl⟩
  have hOR := ref_seats s.data.toList
  rw [← hR, ← hO] at hOR
  rw [← hO]
  have HOR := Lib.hid hOR
  have hsz := size_toList s
  have hst : Hid (R = (refK (-1) (s.data.toList.drop 0)).map ([] ++ ·)) := by show R = _; rw [hR, List.drop_zero]; simp
  have HS := Lib.hid hsz
  clear hR hO hOR hsz
  go_enter Tryd.func19, Tryd.ntmps19
  go_wp2_with fail
  go_loopw [4, 5] (fun v t wr => ∃ (i : Nat) (out : List Int) (last : Int), i ≤ s.size + 2 ∧ t = .int .i64 i ∧ -1 ≤ last ∧ last < 64 ∧ out.length ≤ i ∧ LastIs out last ∧ Hid (R = (refK last (s.data.toList.drop i)).map (out ++ ·)) ∧ Hid (wr.ownsRow w.heap.size 3 1 v out.length (out.map idZ)) ∧ Hid (Below w.heap.size w wr)) (fun _ i _ => s.size + 2 - (intOf i).toNat)
  case atStart => exact ⟨0, [], -1, Nat.zero_le _, rfl, by omega, by omega, by simp, .inl ⟨rfl, rfl⟩, hst.out, World.ownsRow_nil _ _ _ _, Below.refl _ _⟩
  case round =>
    clear hst
    obtain ⟨i, out, last, hi, rfl, hl0, hl1, hol, hLI, hR, HO, HB⟩ := hrel
    by_cases hlt : i + 2 ≤ s.size
    · have hsl := run_part (P := Tryd.prog) 9 Tryd.underlying9 s i hlt
      have hpl := part_list s i
      obtain ⟨X, hX⟩ : ∃ X, X = s.extract i (i + 2) := ⟨_, rfl⟩
      rw [← hX] at hsl hpl
      obtain ⟨p, hp⟩ : ∃ p, p = X.data.toList := ⟨_, rfl⟩
      rw [← hp] at hpl
      have q := rseat_any X wr
      rw [← hp] at q
      have hbd := seatI_bd p
      have hl2 : i + 2 ≤ s.data.toList.length := by rw [HS.out]; exact hlt
      clear hX hp
      by_cases hge : 0 ≤ seatI p
      · obtain ⟨r1, r2⟩ := seat_yes hge
        rw [r1, r2] at q
        clear r1 r2
        obtain ⟨x, hx2⟩ : ∃ x, x = seatI p := ⟨_, rfl⟩
        by_cases hls : last < seatI p
        · have HR := Lib.hid (refK_step hR.out hpl hl2 hls)
          rw [← hx2] at hbd hge hls q HR
          have hle : ¬ x ≤ last := by omega
          clear hR hls hx2 hpl hl2
          obtain ⟨hb1, hb2⟩ := hbd
          rcases hLI with ⟨rfl, rfl⟩ | ⟨pre, rfl⟩
          · obtain ⟨rfl, _⟩ | ⟨g, cc, rfl, hg, _, _⟩ := own_cells HO.out
            all_goals
              rw [List.length_nil] at HO
              clear hol
              go_wp2_with fail
              refine q.mono ?_
              rintro e w2 ⟨rfl, hB2⟩
              have HB2 := Lib.hid (bstep HB.out hB2)
              have HO2 := Lib.hid (own_kept HO.out hB2)
              have hz := HB2.out.size
              clear hB2 HB HO q hsl
              go_wp2_with (at_builtin; refine own_append_box w.heap.size rfl (.tmp 41) (.tmp 43) 27 3 rfl Tryd.underlying27 info_int rfl (by decide) _ 0 _ #[.int .i64 x] rfl (by simp [Value.oneCell']) rfl rfl HO2.out HB2.out hz (by omega) (by omega) ?_; intro v3 w3 hO3 hB3 hs3)
              go_roundw
              case rel => exact ⟨i + 3, [x], x, by omega, by go_num, by omega, by omega, by simp, .inr ⟨[], rfl⟩, HR.out, hO3, hB3⟩
              case measure => simp [intOf]; omega
          · have hle2 : x ≤ last → False := by omega
            obtain ⟨n, hn⟩ : ∃ n, n = pre.length := ⟨_, rfl⟩
            have hcn : ((pre ++ [last]).map idZ)[n]? = some (.int .i64 last) := by rw [hn]; simp [idZ]
            obtain ⟨rfl, h0⟩ | ⟨g, cc, rfl, hg, _, hcl⟩ := own_cells HO.out
            · simp at h0
            · have hcell := hcl n _ hcn
              have hLn : (pre ++ [last]).length = n + 1 := by simp [hn]
              rw [hLn] at HO hol hg ⊢
              have hn0 : n ≤ 1002 := by omega
              have hgz := (World.block_lt_of_cell? _ _ hcell)
              obtain ⟨Q, hQ⟩ : ∃ Q, Q = pre ++ [last] := ⟨_, rfl⟩
              rw [← hQ] at HO HR
              have HQ := Lib.hid hQ
              have HQL : Hid (Q.length = n + 1) := by show Q.length = n + 1; rw [hQ, hLn]
              clear hcl hcn hn hLn hQ hle2
              go_wp2_with fail
              refine q.mono ?_
              rintro e w2 ⟨rfl, hB2⟩
              have hcell := keepC hB2 hcell
              have HB2 := Lib.hid (bstep HB.out hB2)
              have HO2 := Lib.hid (own_kept HO.out hB2)
              have hz := HB2.out.size
              clear hB2 HB HO q hsl
              go_wp2_with (at_builtin; refine own_append_box w.heap.size rfl (.tmp 41) (.tmp 43) 27 3 rfl Tryd.underlying27 info_int rfl (by decide) _ (n + 1) _ #[.int .i64 x] rfl (by simp [Value.oneCell']) rfl rfl HO2.out HB2.out hz (by omega) (by omega) ?_; intro v3 w3 hO3 hB3 hs3)
              go_roundw
              case rel => exact ⟨i + 3, Q ++ [x], x, by omega, by go_num, by omega, by omega, by rw [List.length_append, HQL.out]; simp; omega, .inr ⟨Q, rfl⟩, HR.out, by rw [List.length_append, HQL.out, List.map_append]; exact hO3, hB3⟩
              case measure => simp [intOf]; omega
        · have hRn := refK_no hR.out hpl hl2 hls
          have HO1 : Hid (O = none) := by show O = none; rw [HOR.out, hRn]
          rw [← hx2] at hbd hge hls q
          have hle : x ≤ last := by omega
          clear hR hls hx2 hpl hl2 hRn
          rcases hLI with ⟨rfl, rfl⟩ | ⟨pre, rfl⟩
          · omega
          · obtain ⟨n, hn⟩ : ∃ n, n = pre.length := ⟨_, rfl⟩
            have hcn : ((pre ++ [last]).map idZ)[n]? = some (.int .i64 last) := by rw [hn]; simp [idZ]
            obtain ⟨rfl, h0⟩ | ⟨g, cc, rfl, hg, _, hcl⟩ := own_cells HO.out
            · simp at h0
            · have hcell := hcl n _ hcn
              have hLn : (pre ++ [last]).length = n + 1 := by simp [hn]
              rw [hLn] at HO hol hg ⊢
              have hn0 : n ≤ 1002 := by omega
              clear hcl hcn hn hLn HO
              go_wp2_with fail
              refine q.mono ?_
              rintro e w2 ⟨rfl, hB2⟩
              have hcell := keepC hB2 hcell
              have HB2 := Lib.hid (bstep HB.out hB2)
              clear hB2 HB q hsl
              go_wp2_with fail
              go_ret2
              exact ⟨_, by rw [HO1.out]; rfl, by rw [HO1.out]; exact RdS.nil _, HB2.out⟩
      · obtain ⟨r1, r2⟩ := seat_no (show seatI p < 0 by omega)
        rw [r1, r2] at q
        have hRn := refK_no hR.out hpl hl2 (by omega)
        have HO1 : Hid (O = none) := by show O = none; rw [HOR.out, hRn]
        clear r1 r2 hR hpl hl2 hRn hbd hge
        go_wp2_with fail
        refine q.mono ?_
        rintro e w2 ⟨rfl, hB2⟩
        have HB2 := Lib.hid (bstep HB.out hB2)
        clear hB2 HB q hsl
        go_wp2_with fail
        go_ret2
        exact ⟨_, by rw [HO1.out]; rfl, by rw [HO1.out]; exact RdS.nil _, HB2.out⟩
    · have hRe := refK_end hR.out (by rw [HS.out]; omega)
      have hOe : O = if labsL out = s.data.toList then some out else none := by rw [HOR.out, hRe]
      have q := rlabels_any out _ wr (RdS.own HO.out) (by omega)
      obtain ⟨L, hL⟩ : ∃ L : ByteArray, L = ⟨(labsL out).toArray⟩ := ⟨_, rfl⟩
      rw [← hL] at q
      have HLl : L.data.toList = labsL out := by rw [hL]
      by_cases he : labsL out = s.data.toList
      · rw [if_pos he] at hOe
        have h1 : (L.toList == s.toList) = true := by rw [ByteArray.toList_eq, ByteArray.toList_eq, HLl, he, beq_self_eq_true]
        have h2 : (L.toList != s.toList) = false := by simp only [bne, h1]; rfl
        have HO1 := Lib.hid hOe
        clear hRe hOe hL HLl he hR
        go_wp2_with fail
        refine q.mono ?_
        rintro e w2 ⟨rfl, hB2⟩
        have HR2 := Lib.hid ((RdS.own HO.out).below hB2)
        have HB2 := Lib.hid (bstep HB.out hB2)
        clear hB2 HB HO q
        go_wp2_with fail
        go_ret2
        exact ⟨_, by rw [HO1.out]; rfl, by rw [HO1.out]; exact HR2.out, HB2.out⟩
      · rw [if_neg he] at hOe
        have h1 : (L.toList == s.toList) = false := by rw [ByteArray.toList_eq, ByteArray.toList_eq, HLl, beq_eq_false_iff_ne]; exact he
        have h2 : (L.toList != s.toList) = true := by simp only [bne, h1]; rfl
        have HO1 := Lib.hid hOe
        clear hRe hOe hL HLl he hR
        go_wp2_with fail
        refine q.mono ?_
        rintro e w2 ⟨rfl, hB2⟩
        have HB2 := Lib.hid (bstep HB.out hB2)
        clear hB2 HB HO q
        go_wp2_with fail
        go_ret2
        exact ⟨_, by rw [HO1.out]; rfl, by rw [HO1.out]; exact RdS.nil _, HB2.out⟩
end Go.Proofs.YteelccgaemmmpaaDoor
