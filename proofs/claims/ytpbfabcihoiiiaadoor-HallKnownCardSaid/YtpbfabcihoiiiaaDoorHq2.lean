/- HallKnown: the walk. -/
import Derived.Test.YtpbfabcihoiiiaaDoorHq1
import Derived.Test.YtpbfabcihoiiiaaDoorHn4
import Derived.Test.YtpbfabcihoiiiaaDoorHqv
namespace Go.Proofs.YtpbfabcihoiiiaaDoor
open Go.RowKit
set_option linter.unusedVariables false
set_option linter.unusedSimpArgs false

set_option maxRecDepth 100000 in
set_option maxHeartbeats 8000000 in
theorem known_any (w : World) (hE : EtP w) : Calls Tryd.prog 4 #[] w fun e w' => e = .returned (.bool true) ∧ Below w.heap.size w w' := by
  have HE := Lib.hid hE
  clear hE
  go_enter Tryd.func4, Tryd.ntmps4
  go_wp2_with fail
  refine (works_any _).mono ?_
  rintro e w1 ⟨rfl, hB1⟩
  have HB1 := Lib.hid hB1
  clear hB1
  go_wp2_with fail
  obtain ⟨w2, hw2⟩ : ∃ w2, w2 = w1.alloc (.cells #[.string ⟨#[]⟩, .int .i64 5, .int .i64 0, .string ⟨#[48]⟩, .int .i64 5, .int .i64 1, .string ⟨#[51, 35, 35, 35, 35, 35, 35, 35, 35]⟩, .int .i64 5, .int .i64 0, .string ⟨#[48, 35, 35, 35, 35, 35, 35, 35]⟩, .int .i64 5, .int .i64 8, .string ⟨#[48, 35, 35, 35, 35, 46, 46, 46, 46]⟩, .int .i64 0, .int .i64 0, .string ⟨#[48, 35, 35, 35, 35, 46, 46, 46, 46, 47]⟩, .int .i64 5, .int .i64 10, .string ⟨#[48, 35, 35, 35, 35, 46, 46, 46, 46, 120]⟩, .int .i64 5, .int .i64 9, .string ⟨#[48, 35, 35, 35, 35, 46, 46, 46, 46, 120, 49, 35, 46, 46, 46, 46, 46, 46, 46]⟩, .int .i64 5, .int .i64 9, .string ⟨#[48, 46, 46, 46, 46, 46, 46, 46, 46]⟩, .int .i64 23, .int .i64 0, .string ⟨#[48, 46, 46, 46, 46, 46, 46, 46, 46, 120]⟩, .int .i64 5, .int .i64 9, .string ⟨#[48, 35, 46, 46, 46, 46, 46, 46, 46, 47, 49, 46, 46, 46, 46, 46, 46, 46, 46]⟩, .int .i64 23, .int .i64 10, .string ⟨#[48, 35, 46, 46, 46, 46, 46, 46, 46, 47, 49, 46, 46, 46, 46, 46, 46, 46, 120]⟩, .int .i64 5, .int .i64 18, .string ⟨#[48, 35, 46, 46, 46, 46, 46, 46, 46, 47, 49, 46, 46, 46, 46, 46, 46]⟩, .int .i64 5, .int .i64 17, .string ⟨#[97]⟩, .int .i64 5, .int .i64 0] 44) := ⟨_, rfl⟩
  have hB2 : Below w1.heap.size w1 w2 := by rw [hw2]; exact (Below.refl _ _).alloc (Nat.le_refl _) _
  have hC : ∀ (j : Nat) (u : Value), (knL.flatMap knC)[j]? = some u → w2.cell? ⟨w1.heap.size, j, none⟩ = some u := fun j u hj => by
    rw [hw2, cell_of_row _ _ j _ _ _ (heap_alloc_new w1 _), ← Array.getElem?_toList]
    exact hj
  rw [← hw2]
  have HB2 := Lib.hid (trans' HB1.out hB2)
  have HC := Lib.hid hC
  clear hw2 hB2 hC HB1
  go_loopw [38] (fun i wr => ∃ k : Nat, k ≤ 14 ∧ i = .int .i64 k ∧ Hid (Below w2.heap.size w2 wr)) (fun i _ => 14 - (intOf i).toNat)
  case atStart => exact ⟨0, by omega, rfl, Below.refl _ _⟩
  case round =>
    obtain ⟨k, hk, rfl, HB⟩ := hrel
    by_cases hlt : k < 14
    · obtain ⟨⟨s0, e0, t0⟩, hx⟩ : ∃ x, knL[k]? = some x := ⟨_, List.getElem?_eq_getElem (show k < 14 from hlt)⟩
      obtain ⟨hs0, hcase⟩ := kn_ok _ (List.mem_of_getElem? hx)
      have q0 : wr.cell? ⟨w1.heap.size, k * 3, none⟩ = some (.string s0) := keepC HB.out (HC.out _ _ ((flat_at knC 3 (fun _ => rfl) 0 (by omega) knL k _ hx).trans rfl))
      have q1 : wr.cell? ⟨w1.heap.size, k * 3 + 1, none⟩ = some (.int .i64 e0) := keepC HB.out (HC.out _ _ ((flat_at knC 3 (fun _ => rfl) 1 (by omega) knL k _ hx).trans rfl))
      have q2 : wr.cell? ⟨w1.heap.size, k * 3 + 2, none⟩ = some (.int .i64 (t0 : Nat)) := keepC HB.out (HC.out _ _ ((flat_at knC 3 (fun _ => rfl) 2 (by omega) knL k _ hx).trans rfl))
      have HCS := Lib.hid hcase
      dsimp only at hs0
      have hBk : Below wr.heap.size wr (wr.alloc (.cells #[.string s0, .int .i64 e0, .int .i64 (t0 : Nat)] 44)) := (Below.refl _ _).alloc (Nat.le_refl _) _
      have HBk := Lib.hid hBk
      have HEk := Lib.hid (HE.out.below (trans' HB2.out (trans' HB.out hBk)))
      clear hx hcase hBk
      go_wp2_with fail
      refine (read_any s0 _ (by omega)).mono ?_
      rintro e wa ⟨(⟨c, t, a, hr, rfl, hF⟩ | ⟨rows, v5, hr, rfl, hR⟩), hBa⟩
      · rcases HCS.out with ⟨hne, hrd⟩ | ⟨_, _, r, hrd⟩
        · rw [hr] at hrd
          cases hrd
          have hne0 : (e0 == 0) = false := beq_eq_false_iff_ne.2 hne
          have hx0 : wa.cell? ⟨wr.heap.size, 0, none⟩ = some (.string s0) := keepC hBa (by go_cell)
          have hx1 : wa.cell? ⟨wr.heap.size, 1, none⟩ = some (.int .i64 e0) := keepC hBa (by go_cell)
          have hx2 : wa.cell? ⟨wr.heap.size, 2, none⟩ = some (.int .i64 (t0 : Nat)) := keepC hBa (by go_cell)
          have hB3 : Below wa.heap.size wa (wa.alloc (.cells #[.slice none 0 0] 24)) := (Below.refl _ _).alloc (Nat.le_refl _) _
          have hb3 : (wa.alloc (.cells #[.slice none 0 0] 24)).cell? ⟨wa.heap.size, 0, none⟩ = some (.slice none 0 0) := by go_cell
          have hx1' := keepC hB3 hx1
          have hx2' := keepC hB3 hx2
          have HB4 := Lib.hid (trans' HB.out (trans' HBk.out (trans' hBa hB3)))
          have HE4 := Lib.hid ((HEk.out.below hBa).below hB3)
          have HF := Lib.hid (hF.below hB3)
          clear hF hB3
          go_wp2_with fail
          refine (told_yes a e0 t0 _ hne0 HF.out.1 HF.out.2 HE4.out).mono ?_
          rintro e wb ⟨rfl, hBb⟩
          have hx1b := keepC hBb hx1'
          have hb3b := keepC hBb hb3
          have HB5 := Lib.hid (trans' HB4.out hBb)
          clear hBb
          go_wp2_with fail
          go_roundw
          case rel => exact ⟨k + 1, by omega, by go_num, HB5⟩
          case measure => simp [intOf]; omega
        · rw [hr] at hrd
          cases hrd
      · rcases HCS.out with ⟨hne, hrd⟩ | ⟨h1, h2, r, hrd⟩
        · rw [hr] at hrd
          cases hrd
        · try dsimp only at h1 h2
          subst h1 h2
          obtain ⟨a5, c5, rfl⟩ := rdH_slice hR
          have hx0 : wa.cell? ⟨wr.heap.size, 0, none⟩ = some (.string s0) := keepC hBa (by go_cell)
          have hx1 : wa.cell? ⟨wr.heap.size, 1, none⟩ = some (.int .i64 0) := keepC hBa (by go_cell)
          have hx2 : wa.cell? ⟨wr.heap.size, 2, none⟩ = some (.int .i64 0) := keepC hBa (by go_cell)
          have hB3 : Below wa.heap.size wa (wa.alloc (.cells #[.slice a5 rows.length c5] 24)) := (Below.refl _ _).alloc (Nat.le_refl _) _
          have hx1' := keepC hB3 hx1
          have hx2' := keepC hB3 hx2
          have HB4 := Lib.hid (trans' HB.out (trans' HBk.out (trans' hBa hB3)))
          clear hB3 hr hrd hR
          go_wp2_with fail
          refine (told_nil 0 0 _).mono ?_
          rintro e wb ⟨rfl, hBb⟩
          have hx1b := keepC hBb hx1'
          have HB5 := Lib.hid (trans' HB4.out hBb)
          clear hBb
          go_wp2_with fail
          go_roundw
          case rel => exact ⟨k + 1, by omega, by go_num, HB5⟩
          case measure => simp [intOf]; omega
    · clear HC
      have HB2 := Lib.hid (trans' HB2.out HB.out)
      have HE := Lib.hid (HE.out.below HB2.out)
      obtain ⟨w3, hw3⟩ : ∃ w3, w3 = wr := ⟨_, rfl⟩
      rw [← hw3] at HB2 HE ⊢
      clear hw3 HB
      go_wp2_with fail
      go_loopw [5, 6] (fun s i wz => ∃ q : Nat, q ≤ 7 ∧ i = .int .i64 q ∧ s = .string (e8S q) ∧ Hid (Below w3.heap.size w3 wz)) (fun _ i _ => 7 - (intOf i).toNat)
      case atStart => exact ⟨0, by omega, rfl, rfl, Below.refl _ _⟩
      case round =>
        obtain ⟨q, hq, rfl, hsq, HB⟩ := hrel
        have hz := e8_size q
        have HS1 : Hid (e8S q ++ ⟨#[47, 49, 46, 46, 46, 46, 46, 46, 46, 35]⟩ = e8S (q + 1)) := rfl
        by_cases hq7 : q < 7
        · obtain ⟨sq, hsq'⟩ : ∃ sq, sq = e8S q := ⟨_, rfl⟩
          rw [← hsq'] at hz HS1 hsq
          subst hsq
          clear hsq'
          have hz2 : sq.size ≤ 100 := by omega
          go_wp2_with fail
          go_roundw
          case rel => exact ⟨q + 1, by omega, by go_num, by rw [HS1.out], HB⟩
          case measure => simp [intOf]; omega
        · obtain rfl : q = 7 := by omega
          have R8 := Lib.hid e8_read
          have R9 := Lib.hid e9_read
          obtain ⟨s8, h8⟩ : ∃ s8, s8 = e8S 7 := ⟨_, rfl⟩
          rw [← h8] at hz hsq R8 R9
          subst hsq
          clear h8 HS1
          have hz2 : s8.size ≤ 79 := by omega
          go_wp2_with fail
          refine (read_any s8 _ (by omega)).mono ?_
          rintro e wa ⟨(⟨c, t, a, hr, rfl, hF⟩ | ⟨rows, v5, hr, rfl, hR⟩), hBa⟩
          · rw [R8.out] at hr
            cases hr
          · rw [R8.out] at hr
            cases hr
            obtain ⟨a8, c8, h8⟩ := rdH_slice hR
            rw [show e8R.length = 8 from rfl] at h8
            subst h8
            have hz9 : (s8 ++ ⟨#[47, 120]⟩ : ByteArray).size ≤ 100 := by
              rw [ByteArray.size_append]
              show s8.size + 2 ≤ 100
              omega
            have hcat : ∀ W, (Op.stringOp .add s8 ⟨#[47, 120]⟩).run Tryd.prog W = .ok (.string (s8 ++ ⟨#[47, 120]⟩)) W := fun W => run_string_add_sum W _ _ (by show s8.size + 2 ≤ _; omega)
            generalize (s8 ++ ⟨#[47, 120]⟩ : ByteArray) = s9 at hcat hz9 R9
            have hB3 : Below wa.heap.size wa (wa.alloc (.cells #[.slice a8 8 c8] 24)) := (Below.refl _ _).alloc (Nat.le_refl _) _
            have hb8 : (wa.alloc (.cells #[.slice a8 8 c8] 24)).cell? ⟨wa.heap.size, 0, none⟩ = some (.slice a8 8 c8) := by go_cell
            have HR8 := Lib.hid (hR.below hB3)
            have HB4 := Lib.hid (trans' HB.out (trans' hBa hB3))
            clear hR hBa hB3 HB
            go_wp2_with fail
            refine (read_any s9 _ (by omega)).mono ?_
            rintro e wb ⟨(⟨c, t, a, hr, rfl, hF⟩ | ⟨rows, v5, hr, rfl, hR⟩), hBb⟩
            · rw [R9.out] at hr
              cases hr
              have hb8b := keepC hBb hb8
              have HR8b := Lib.hid (HR8.out.below hBb)
              have hF9 := hF
              have HB5 := Lib.hid (trans' HB2.out (trans' HB4.out hBb))
              have HE5 := Lib.hid (HE.out.below (trans' HB4.out hBb))
              clear HB4 HR8 hb8 hF hBb HB2 HE R8 R9
              have hmk := make_nine
              go_wp2_with fail
              have q5 := five_halls (wb.alloc (.cells #[.slice none 0 0] 24))
              simp only [World.size_alloc] at q5
              obtain ⟨w4, hw4, hB4, hH⟩ := q5
              rw [← hw4]
              have hB4' : Below wb.heap.size wb w4 := ((Below.refl _ _).alloc (Nat.le_refl _) (.cells #[.slice none 0 0] 24)).trans (hB4.mono (by omega))
              have hb8c := keepC hB4' hb8b
              have HR8c := Lib.hid (HR8b.out.below hB4')
              have HFc := Lib.hid (hF9.below hB4')
              have HB6 := Lib.hid (trans' HB5.out hB4')
              have HE6 := Lib.hid (HE5.out.below hB4')
              have HH := Lib.hid hH
              clear hB4 hB4' hH hw4 HB5 HE5 HR8b hF9 hb8b hmk
              go_loopw [102] (fun i wr => ∃ n : Nat, n ≤ 5 ∧ i = .int .i64 n ∧ Hid (Below w4.heap.size w4 wr)) (fun i _ => 5 - (intOf i).toNat)
              case atStart => exact ⟨0, by omega, rfl, Below.refl _ _⟩
              case round =>
                obtain ⟨n, hn, rfl, HB⟩ := hrel
                by_cases hn5 : n < 5
                · obtain ⟨v, l, hl, hcv, hRv⟩ := HH.out n hn5
                  obtain ⟨hno, hlen⟩ := no_ok l hl
                  obtain ⟨av, cv, rfl⟩ := rdH_slice hRv
                  have hcv := keepC HB.out hcv
                  have hBx : Below wr.heap.size wr (wr.alloc (.cells #[.slice av l.length cv] 24)) := (Below.refl _ _).alloc (Nat.le_refl _) _
                  have HRx := Lib.hid ((hRv.below HB.out).below hBx)
                  have HBx := Lib.hid (trans' HB.out hBx)
                  have hbx : (wr.alloc (.cells #[.slice av l.length cv] 24)).cell? ⟨wr.heap.size, 0, none⟩ = some (.slice av l.length cv) := by go_cell
                  have hP := fun W (h : RdH W (.slice av l.length cv) l) => put_any (.slice av l.length cv) l W h (by omega)
                  have hC := fun W (h : RdH W (.slice av l.length cv) l) => check_any (.slice av l.length cv) l W h (by omega)
                  rw [putS_no hno, chk_no hno] at hP
                  rw [chk_no hno] at hC
                  have HP := Lib.hid hP
                  have HC := Lib.hid hC
                  clear hP hC hRv hl hno hBx
                  go_wp2_with fail
                  refine (HP.out _ HRx.out).mono ?_
                  rintro e wc ⟨rfl, hBc⟩
                  have hbx2 := keepC hBc hbx
                  have HRy := Lib.hid (HRx.out.below hBc)
                  have HBy := Lib.hid (trans' HBx.out hBc)
                  clear hBc HRx HBx
                  go_wp2_with fail
                  refine (HC.out _ HRy.out).mono ?_
                  rintro e wd ⟨rfl, hBd⟩
                  have HBz := Lib.hid (trans' HBy.out hBd)
                  clear hBd HRy HBy
                  go_wp2_with fail
                  go_roundw
                  case rel => exact ⟨n + 1, by omega, by go_num, HBz⟩
                  case measure => simp [intOf]; omega
                · clear HH
                  have hb8d := keepC HB.out hb8c
                  have HR8d := Lib.hid (HR8c.out.below HB.out)
                  have HFd := Lib.hid (HFc.out.below HB.out)
                  have HB7 := Lib.hid (trans' HB6.out HB.out)
                  have HE7 := Lib.hid (HE6.out.below HB.out)
                  clear hb8c HR8c HFc HB6 HE6 HB
                  have HZ0 : Hid (∀ o, ((wr.alloc (.cells (tkA (fun _ => false)) 50)).alloc o).heap[wr.heap.size]? = some (.cells (tkA (fun _ => false)) 50 (0, 0))) := fun o => row_kept (heap_alloc_new _ _) (World.grownBy_alloc _ _ none) (by simp)
                  go_wp2_with (refine wpList_load_row rfl 50 (.tmp 15) rfl wr.heap.size rfl 50 (tkA (fun _ => false)) (0, 0) _ (HZ0.out _) Tryd.underlying50 rfl (tk_info _) ?_)
                  have hL1 : RdH ((wr.alloc (.cells (tkA (fun _ => false)) 50)).alloc (.cells #[.int .i64 0, .int .u8 255, .int .i64 0, .int .u8 255, .int .i64 0, .int .u8 90] 47)) (.slice (some ⟨wr.heap.size + 1, 0, none⟩) 3 3) [(0, 255), (0, 255), (0, 90)] := RdH.lit (l := [(0, 255), (0, 255), (0, 90)]) (lit_cells _ rfl (new_at (by rw [World.size_alloc]))) fu_rows
                  have hBA : Below wr.heap.size wr ((wr.alloc (.cells (tkA (fun _ => false)) 50)).alloc (.cells #[.int .i64 0, .int .u8 255, .int .i64 0, .int .u8 255, .int .i64 0, .int .u8 90] 47)) := ((Below.refl _ _).alloc (Nat.le_refl _) _).alloc (by simp) _
                  have qr := runs_any _ _ 0 (fun _ => false) _ hL1 (by decide)
                  rw [fu_run] at qr
                  refine qr.mono ?_
                  clear qr
                  rintro e wc ⟨vr, rfl, hown, hBc⟩
                  have HRP := Lib.hid (RdP.own hown)
                  obtain ⟨Ar, cr, rfl⟩ := own_opn' hown
                  have z1 : wc.heap[wr.heap.size]? = some (.cells (tkA (fun _ => false)) 50 (0, 0)) := (hBc.block _ (by simp only [World.size_alloc]; omega)).trans (HZ0.out _)
                  have HZ1 : Hid (∀ o, (wc.alloc o).heap[wr.heap.size]? = some (.cells (tkA (fun _ => false)) 50 (0, 0))) := fun o => row_kept z1 (World.grownBy_alloc _ _ none) (by simp)
                  have HBc := Lib.hid (trans' hBA hBc)
                  have hL2 : RdH (wc.alloc (.cells #[.int .i64 (-1), .int .u8 1] 47)) (.slice (some ⟨wc.heap.size, 0, none⟩) 1 1) [(-1, 1)] := RdH.lit (l := [(-1, 1)]) (lit_cells _ rfl (heap_alloc_new _ _)) nn_rows
                  have hBD : Below wc.heap.size wc (wc.alloc (.cells #[.int .i64 (-1), .int .u8 1] 47)) := (Below.refl _ _).alloc (Nat.le_refl _) _
                  clear hown z1 hBA hBc HZ0 hL1
                  go_wp2_with (refine wpList_load_row rfl 50 (.tmp 15) rfl wr.heap.size rfl 50 (tkA (fun _ => false)) (0, 0) _ (HZ1.out _) Tryd.underlying50 rfl (tk_info _) ?_)
                  have qr := runs_any _ _ 2 (fun _ => false) _ hL2 (by decide)
                  rw [nn_run] at qr
                  refine qr.mono ?_
                  clear qr
                  rintro e wd ⟨vn, rfl, hown, hBd⟩
                  obtain ⟨An, cn, rfl⟩ := own_opn' hown
                  have HBd := Lib.hid (trans' hBD hBd)
                  have hb8e := keepC HBd.out (keepC HBc.out hb8d)
                  have HR8e := Lib.hid ((HR8d.out.below HBc.out).below HBd.out)
                  have HFe := Lib.hid ((HFd.out.below HBc.out).below HBd.out)
                  have HRPe := Lib.hid (HRP.out.below HBd.out)
                  have HB8 := Lib.hid (trans' HB7.out (trans' HBc.out HBd.out))
                  have HE8 := Lib.hid ((HE7.out.below HBc.out).below HBd.out)
                  clear hown hL2 hBD hBd HZ1 hb8d HR8d HFd HRP HB7 HE7 HBc HBd
                  go_wp2_with fail
                  have qs := seatsl_any _ _ _ HR8e.out (by decide)
                  rw [e8_sts] at qs
                  refine qs.mono ?_
                  clear qs
                  rintro e we ⟨vs, rfl, hown, hBe⟩
                  obtain ⟨As, cs, rfl⟩ := own_opn' hown
                  have HF9 := Lib.hid (HFe.out.below hBe)
                  have HRP9 := Lib.hid (HRPe.out.below hBe)
                  have HB9 := Lib.hid (trans' HB8.out hBe)
                  have HE9 := Lib.hid (HE8.out.below hBe)
                  clear hown hBe HFe HRPe HB8 HE8 HR8e hb8e
                  go_wp2_with fail
                  refine (told_yes a 2 80 _ rfl HF9.out.1 HF9.out.2 HE9.out).mono ?_
                  rintro e wf ⟨rfl, hBf⟩
                  have hBg : Below wf.heap.size wf (wf.alloc (.cells #[.int .i64 0, .int .i64 8, .int .i64 8, .int .i64 8, .int .i64 17, .int .i64 1, .int .i64 19, .int .i64 2, .int .i64 22, .int .i64 1] 56)) := (Below.refl _ _).alloc (Nat.le_refl _) _
                  have hRQ : RdP (wf.alloc (.cells #[.int .i64 0, .int .i64 8, .int .i64 8, .int .i64 8, .int .i64 17, .int .i64 1, .int .i64 19, .int .i64 2, .int .i64 22, .int .i64 1] 56)) (.slice (some ⟨wf.heap.size, 0, none⟩) 5 5) fuL := RdP.lits (l := fuL) (lit_cells _ rfl (heap_alloc_new _ _))
                  have HRPf := Lib.hid ((HRP9.out.below hBf).below hBg)
                  have HRQ := Lib.hid hRQ
                  have HBg := Lib.hid (trans' HB9.out (trans' hBf hBg))
                  clear hBf hBg hRQ HF9 HRP9 HB9 HE9
                  go_wp2_with fail
                  refine (pairs_same _ _ fuL _ HRPf.out HRQ.out (by decide) fu_wf).mono ?_
                  rintro e wg ⟨rfl, hBh⟩
                  have HBh := Lib.hid (trans' HBg.out hBh)
                  clear hBh HBg HRPf HRQ
                  go_wp2_with fail
                  refine (sm_any _).mono ?_
                  rintro e wh ⟨v1, rfl, hR1, hBi⟩
                  have HBi := Lib.hid (trans' HBh.out hBi)
                  have HR1 := Lib.hid hR1
                  clear hBi HBh hR1
                  go_wp2_with fail
                  have qh := has_any v1 smR (-1) _ HR1.out (by decide)
                  rw [sm_no1] at qh
                  refine qh.mono ?_
                  clear qh
                  rintro e wi ⟨rfl, hBj⟩
                  have HBj := Lib.hid (trans' HBi.out hBj)
                  clear hBj HBi HR1
                  go_wp2_with fail
                  refine (sm_any _).mono ?_
                  rintro e wj ⟨v2, rfl, hR2, hBk⟩
                  have HBk := Lib.hid (trans' HBj.out hBk)
                  have HR2 := Lib.hid hR2
                  clear hBk HBj hR2
                  go_wp2_with fail
                  have qh := has_any v2 smR 64 _ HR2.out (by decide)
                  rw [sm_no2] at qh
                  refine qh.mono ?_
                  clear qh
                  rintro e wk ⟨rfl, hBl⟩
                  have HBl := Lib.hid (trans' HBk.out hBl)
                  clear hBl HBk HR2
                  go_wp2_with fail
                  have qc := class_any (.slice none 0 0) [] 0 wk (RdH.nil _) (by decide)
                  rw [cl_no] at qc
                  refine qc.mono ?_
                  clear qc
                  rintro e wl ⟨rfl, hBm⟩
                  have HBm := Lib.hid (trans' HBl.out hBm)
                  clear hBm HBl
                  go_wp2_with fail
                  go_ret
                  exact ⟨rfl, HBm.out⟩
            · rw [R9.out] at hr
              cases hr
end Go.Proofs.YtpbfabcihoiiiaaDoor
