/- hall.Put. -/
import Derived.Test.YtpbfabcihoiiiaaHl2
import Derived.Test.YtpbfabcihoiiiaaSj
namespace Go.Proofs.Ytpbfabcihoiiiaa
open Go.RowKit
set_option linter.unusedVariables false
set_option linter.unusedSimpArgs false

theorem join_rows : ∀ l : List HRow, Lib.join (l.map rowL) [47] = putL l
  | [] => rfl
  | [r] => by simp [Lib.join, putL, List.intercalate]
  | r :: q :: l => by
    have h := join_rows (q :: l)
    unfold Lib.join at h ⊢
    rw [List.map_cons, putL, ← h]
    simp [List.intercalate, List.intersperse]
def rowS (r : HRow) : ByteArray := ⟨(rowL r).toArray⟩
theorem rowS_list (r : HRow) : (rowS r).data.toList = rowL r := rfl
/-- What Put gives. -/
def putS (l : List HRow) : ByteArray := if okH l = true then ⟨(putL l).toArray⟩ else ⟨#[]⟩
theorem putS_yes {l : List HRow} (h : okH l = true) : putS l = ⟨(putL l).toArray⟩ := by unfold putS; rw [if_pos h]
theorem putS_no {l : List HRow} (h : okH l = false) : putS l = ⟨#[]⟩ := by unfold putS; rw [if_neg (by rw [h]; decide)]
theorem info_str : (Try.prog.info? 9).map (fun i => (i.zero, i.size, i.bytes)) = some (some (.string ⟨#[]⟩), 1, 16) := by kernel_rfl
theorem okH_parts {l : List HRow} (h : okH l = true) : l ≠ [] ∧ l.length ≤ 8 ∧ ∀ r ∈ l, okR r = true := by
  unfold okH at h
  simp only [Bool.and_eq_true, decide_eq_true_eq] at h
  exact ⟨h.1.1, h.1.2, fun r hr => List.all_eq_true.1 h.2 r hr⟩
theorem okR_parts {r : HRow} (h : okR r = true) : 0 ≤ r.1 ∧ r.1 ≤ 2 ∧ r.2 ≠ 0 := by
  unfold okR at h
  simp only [Bool.and_eq_true, decide_eq_true_eq] at h
  exact ⟨h.1.1, h.1.2, h.2⟩
def strC (r : HRow) : Value := .string (rowS r)
theorem rows_snoc (l : List HRow) (k : Nat) (x : HRow) (h : l[k]? = some x) : (l.take (k + 1)).map strC = (l.take k).map strC ++ [strC x] := by
  rw [List.take_add_one, h, List.map_append]
  rfl

set_option maxRecDepth 100000 in
set_option maxHeartbeats 4000000 in
theorem put_any (v : Value) (l : List HRow) (w : World) (hv : RdH w v l) (hl : l.length ≤ 140737488355328) : Calls Try.prog 7 #[.agg #[v]] w fun e w' => e = .returned (.tuple #[.string (putS l), .int .i64 (chkE l)]) ∧ Below w.heap.size w w' := by
  obtain ⟨a, c, rfl, hc, hr⟩ := hv
  have HV : Hid (RdH w (.slice a l.length c) l) := ⟨a, c, rfl, hc, hr⟩
  have HR := Lib.hid hr
  clear hr
  by_cases ho : okH l = true
  case neg =>
    have ho' : okH l = false := by simpa using ho
    have HE : Hid (chkE l = 23) := chk_no ho'
    have HP : Hid (putS l = ⟨#[]⟩) := putS_no ho'
    clear ho ho'
    go_enter Try.func7, Try.ntmps7
    go_wp2_with fail
    have q := check_any (.slice a l.length c) l (w.alloc (.cells #[.slice a l.length c] 26)) (HV.out.below ((Below.refl _ _).alloc (Nat.le_refl _) _)) hl
    rw [HE.out] at q
    refine q.mono ?_
    clear q
    rintro e w1 ⟨rfl, hB⟩
    have HB1 := Lib.hid (((Below.refl w.heap.size w).alloc (Nat.le_refl _) (.cells #[.slice a l.length c] 26)).trans (hB.mono (by simp)))
    clear hB
    go_wp2_with fail
    go_ret2
    exact ⟨by rw [HE.out, HP.out]; rfl, HB1.out⟩
  have HE : Hid (chkE l = 0) := chk_yes ho
  have HP : Hid (putS l = ⟨(putL l).toArray⟩) := putS_yes ho
  obtain ⟨hl0, hl8, hlr⟩ := okH_parts ho
  have HL := Lib.hid hlr
  have hl1 : 0 < l.length := List.length_pos_iff.2 hl0
  clear ho hlr hl0
  go_enter Try.func7, Try.ntmps7
  go_wp2_with fail
  have q := check_any (.slice a l.length c) l (w.alloc (.cells #[.slice a l.length c] 26)) (HV.out.below ((Below.refl _ _).alloc (Nat.le_refl _) _)) hl
  rw [HE.out] at q
  refine q.mono ?_
  clear q
  rintro e w1 ⟨rfl, hB⟩
  have cb : w1.cell? ⟨w.heap.size, 0, none⟩ = some (.slice a l.length c) := keepC hB (by go_cell)
  have HB1 := Lib.hid (((Below.refl w.heap.size w).alloc (Nat.le_refl _) (.cells #[.slice a l.length c] 26)).trans (hB.mono (by simp)))
  clear hB
  go_wp2_with fail
  go_loopw [5, 16] (fun v i wr => ∃ k : Nat, k ≤ l.length ∧ i = .int .i64 k ∧ Hid (wr.ownsRow w1.heap.size 9 1 v k ((l.take k).map strC)) ∧ Hid (Below w1.heap.size w1 wr)) (fun _ i _ => l.length - (intOf i).toNat)
  case atStart => exact ⟨0, by omega, rfl, World.ownsRow_nil _ _ _ _, Below.refl _ _⟩
  case round =>
    obtain ⟨k, hk, rfl, HO, HB⟩ := hrel
    have HBw := Lib.hid (HB1.out.trans (HB.out.mono HB1.out.size))
    by_cases hlt : k < l.length
    · obtain ⟨⟨c0, m0⟩, hx⟩ : ∃ x, l[k]? = some x := ⟨_, List.getElem?_eq_getElem hlt⟩
      obtain ⟨⟨hb0, hb1, hb2⟩, ba, o, rfl, hc0, hc1⟩ := HR.out k _ hx
      have cx := keepC HBw.out hc0
      have cy := keepC HBw.out hc1
      obtain ⟨ho0, ho1, ho2⟩ := okR_parts (HL.out _ (List.mem_of_getElem? hx))
      have HS := Lib.hid (rows_snoc l k _ hx)
      clear hc0 hc1 hx ho2
      dsimp only at hb0 hb1 hb2 cx cy ho0 ho1
      have hsz := HB.out.size
      go_wp2_with fail
      refine (text_any c0 m0 _ ho0 ho1 hb2).mono ?_
      rintro e w2 ⟨rfl, hB2⟩
      have hB2' : Below wr.heap.size wr w2 := ((Below.refl wr.heap.size wr).alloc (Nat.le_refl _) (.cells #[.int .i64 c0, .int .u8 (m0 : Nat)] 29)).trans (hB2.mono (by simp))
      have HB2 := Lib.hid (HB.out.trans (hB2'.mono hsz))
      have HO2 := Lib.hid (own_kept HO.out hB2')
      have hsz2 := HB2.out.size
      clear hB2 hB2'
      obtain ⟨st, hst⟩ : ∃ st : ByteArray, st = ⟨(rowL (c0, m0)).toArray⟩ := ⟨_, rfl⟩
      rw [← hst]
      have HST : Hid (Value.string st = strC (c0, m0)) := by show Value.string st = _; rw [hst]; rfl
      clear hst
      go_wp2_with (at_builtin; go_loud (refine own_append_box (w0 := w1) w1.heap.size rfl (.tmp 20) (.tmp 23) 55 9 rfl Try.underlying55 info_str rfl (by decide) _ _ _ #[.string st] rfl (by simp [Value.oneCell']) rfl rfl HO2.out HB2.out hsz2 (by omega) (by omega) ?_); intro v1 w3 hown hB3 hs3; replace hB3 := Lib.hid hB3; replace hown := Lib.hid hown)
      go_roundw
      case rel => exact ⟨k + 1, by omega, by go_num, by rw [HS.out, ← HST.out]; exact hown.out, hB3⟩
      case measure => simp [intOf]; omega
    · obtain rfl : k = l.length := by omega
      have hcs := own_cells HO.out
      rcases hcs with ⟨h1, h2⟩ | ⟨g, c', rfl, hc', hg, hcell⟩
      · omega
      have hcells : ∀ (j : Nat) x, (l.map rowS)[j]? = some x → wr.cell? ⟨g, 0 + j, none⟩ = some (.string x) := by
        intro j x hx
        rw [Nat.zero_add]
        refine hcell j _ ?_
        rw [List.take_length, List.getElem?_map]
        rw [List.getElem?_map] at hx
        cases hr : l[j]? with
        | none => rw [hr] at hx; simp at hx
        | some r =>
          rw [hr] at hx
          simp at hx ⊢
          rw [← hx]
          rfl
      have hgl : g < wr.heap.size := World.block_lt_of_cell? _ _ (hcells 0 (rowS (l[0]'hl1)) (by rw [List.getElem?_map, List.getElem?_eq_getElem hl1]; rfl))
      have HJ : Hid (Lib.join ((l.map rowS).map (·.data.toList)) [47] = putL l) := by
        show Lib.join ((l.map rowS).map (·.data.toList)) [47] = putL l
        rw [List.map_map]
        exact join_rows l
      have HC := Lib.hid hcells
      clear hcells hcell
      have hn : (l.map rowS).length = l.length := List.length_map _
      have hpl := putL_len l (List.length_pos_iff.1 hl1)
      have q := Try.strings_Join g 0 c' (l.map rowS) ⟨#[47]⟩ wr HC.out hgl (by rw [hn]; omega) (by rw [hn]; omega) (by rw [show ((⟨#[47]⟩ : ByteArray).data.toList) = [47] from rfl, HJ.out]; omega)
      rw [show ((⟨#[47]⟩ : ByteArray).data.toList) = [47] from rfl, HJ.out, hn] at q
      have Q := Lib.hid q
      clear q hn hpl
      go_wp2_with fail
      refine Q.out.mono ?_
      rintro e w2 ⟨rfl, hB2⟩
      have HB2 := Lib.hid (HBw.out.trans (hB2.mono HBw.out.size))
      clear hB2
      go_wp2_with fail
      go_ret2
      exact ⟨by rw [HE.out, HP.out]; rfl, HB2.out⟩
end Go.Proofs.Ytpbfabcihoiiiaa
