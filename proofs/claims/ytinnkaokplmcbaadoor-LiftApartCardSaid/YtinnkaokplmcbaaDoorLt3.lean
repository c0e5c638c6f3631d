/- LiftApart: the walk. -/
import Derived.Test.YtinnkaokplmcbaaDoorLt2
namespace Go.Proofs.YtinnkaokplmcbaaDoor
open Go.RowKit
set_option linter.unusedVariables false
set_option linter.unusedSimpArgs false

set_option maxRecDepth 100000 in
set_option maxHeartbeats 16000000 in
theorem apart_any (l : List Dr) (m : List (Int × Int)) (lv mv : Value) (w : World) (hd : RdD w lv l) (hdl : l.length ≤ maxLen) (hm0 : RdU w mv m) (hml : m.length ≤ maxLen) (hG : GP w) : Calls Tryd.prog 6 #[lv, mv] w fun e w' => e = .returned (.bool true) ∧ Below w.heap.size w w' := by
  have HB := Below.refl w.heap.size w
  go_enter Tryd.func6, Tryd.ntmps6
  go_wp2_with fail
  refine (works_any _ hG).mono ?_
  rintro e w1 ⟨rfl, hB⟩
  replace HB := bstep HB hB
  clear hB
  have hsz := HB.size
  go_wp2_with fail
  refine (recs2_any l _ _ (RdD.below' hd (by go_grown)) hdl).mono ?_
  rintro e w3 ⟨v1, rs, rfl, hro1, hrn, hro, hB⟩
  have HB3 : Below w.heap.size w w3 := bstep (by go_grown) hB
  have hT : FlagsAt w3 w1.heap.size (fun _ => false) := FlagsAt.new (keep_row hB (heap_old2 _ _ (heap_old2 _ _ (heap_alloc_new w1 _))))
  have hF : FlagsAt w3 (w1.heap.size + 1) (fun _ => false) := by
    have := keep_row hB (heap_old2 _ _ (heap_alloc_new (w1.alloc _) _))
    rw [World.size_alloc] at this
    exact FlagsAt.new this
  have hU : FlagsAt w3 (w1.heap.size + 1 + 1) (fun _ => false) := by
    have := keep_row hB (heap_alloc_new ((w1.alloc _).alloc _) _)
    rw [World.size_alloc, World.size_alloc] at this
    exact FlagsAt.new this
  have hm3 := hm0.below HB3
  clear hB HB hd
  have HR := Lib.hid hro
  have HT := Lib.hid hT
  have HF := Lib.hid hF
  have HU := Lib.hid hU
  have hs3 := hT.lt
  clear hro hT hF hU
  obtain ⟨a, c, rfl, hc, hr⟩ := (RdL.own hro1).opn
  have HL := Lib.hid hr
  have HO1 := Lib.hid hro1
  clear hr hro1
  go_wp2_with fail
  go_loopw [5, 10, 11] (fun oo i _ wr => ∃ (k : Nat) (q : List Rec) (T : Nat → Bool), k ≤ rs.length ∧ q.length ≤ k ∧ i = .int .i64 k ∧ Hid (Kept q T) ∧ HeadA w w1.heap.size w3.heap.size w3 q T oo wr) (fun _ i _ _ => rs.length - (intOf i).toNat)
  case atStart => exact ⟨0, [], fun _ => false, Nat.zero_le _, Nat.zero_le _, rfl, Kept.nil, ⟨HT.out, (World.ownsRow_nil w3 w3.heap.size 25 7), HB3, Nat.le_refl _, fun _ _ _ => rfl⟩⟩
  case round =>
    obtain ⟨k, q, T, hk, hak, rfl, HK, HA⟩ := hrel
    have hszr := HA.2.2.2.1
    have hs4 : w1.heap.size < wr.heap.size := by omega
    by_cases hkl : k < rs.length
    · obtain ⟨r, hr⟩ : ∃ r, rs[k]? = some r := ⟨rs[k], List.getElem?_eq_getElem hkl⟩
      obtain ⟨b, o, rfl, hcs⟩ := HL.out k r hr
      have hro := HR.out r (List.mem_of_getElem? hr)
      have hbk : b < w3.heap.size := World.block_lt_of_cell? _ _ (hcs 0 _ rfl)
      have hbn : b ≠ w1.heap.size := by have := (HO1.out.lt b rfl).1; simp at this; omega
      have hblk := HA.2.2.2.2 b hbk hbn
      have c0 := (World.cell?_of_block hblk).trans (hcs 0 _ rfl)
      have c1 := (World.cell?_of_block hblk).trans (hcs 1 _ rfl)
      have c2 := (World.cell?_of_block hblk).trans (hcs 2 _ rfl)
      have c3 := (World.cell?_of_block hblk).trans (hcs 3 _ rfl)
      have c4 := (World.cell?_of_block hblk).trans (hcs 4 _ rfl)
      have c5 := (World.cell?_of_block hblk).trans (hcs 5 _ rfl)
      have c6 := (World.cell?_of_block hblk).trans (hcs 6 _ rfl)
      rw [Nat.add_zero] at c0
      clear hr hcs hblk
      obtain ⟨hold, id, per, cls, seat, was, til⟩ := r
      obtain ⟨⟨hi0, hi1, ht0, ht1, hps⟩, hc0⟩ := hro
      dsimp only at c0 c1 c2 c3 c4 c5 c6 hi0 hi1 ht0 ht1 hps hc0
      by_cases h1 : seat < 0
      · go_wp2_with fail
        go_roundw
        case rel => exact ⟨k + 1, q, T, by omega, by omega, by go_num, HK, HA.alloc _⟩
        case measure => simp [intOf]; omega
      · by_cases h2 : 63 < seat
        · go_wp2_with fail
          go_roundw
          case rel => exact ⟨k + 1, q, T, by omega, by omega, by go_num, HK, HA.alloc _⟩
          case measure => simp [intOf]; omega
        · obtain ⟨j, rfl⟩ : ∃ j : Nat, seat = (j : Int) := ⟨seat.toNat, by omega⟩
          have hj : j < 64 := by omega
          obtain ⟨hTc, hTf⟩ := HA.1 j hj
          cases hTj : T j
          case true =>
            rw [hTj] at hTc
            go_wp2_with fail
            go_roundw
            case rel => exact ⟨k + 1, q, T, by omega, by omega, by go_num, HK, HA.alloc _⟩
            case measure => simp [intOf]; omega
          case false =>
            rw [hTj] at hTc
            have HTj := Lib.hid hTj
            clear hTj
            by_cases h4 : id = 0
            · subst h4
              go_wp2_with fail
              go_roundw
              case rel => exact ⟨k + 1, q, T, by omega, by omega, by go_num, HK, HA.alloc _⟩
              case measure => simp [intOf]; omega
            · have e4 : (id == 0) = false := by simpa using h4
              by_cases h5 : was = -1
              rotate_left
              · have e5 : (was == -1) = false := by simpa using h5
                have e5' : (was != -1) = true := by simp [h5]
                clear h5
                go_wp2_with fail
                go_roundw
                case rel => exact ⟨k + 1, q, T, by omega, by omega, by go_num, HK, HA.alloc _⟩
                case measure => simp [intOf]; omega
              · subst h5
                by_cases h6 : per = ⟨#[112]⟩
                rotate_left
                · have e6 : ¬ per.toList = [112] := not_p h6
                  clear h6
                  go_wp2_with fail
                  go_roundw
                  case rel => exact ⟨k + 1, q, T, by omega, by omega, by go_num, HK, HA.alloc _⟩
                  case measure => simp [intOf]; omega
                · subst h6
                  by_cases h7 : 2 < cls
                  · go_wp2_with fail
                    go_roundw
                    case rel => exact ⟨k + 1, q, T, by omega, by omega, by go_num, HK, HA.alloc _⟩
                    case measure => simp [intOf]; omega
                  · have h7' : cls ≤ 2 := by omega
                    by_cases h8 : hold = true ∨ til = 0
                    rotate_left
                    · obtain ⟨rfl, h9⟩ : hold = false ∧ til ≠ 0 := ⟨by cases hold <;> simp_all, fun h => h8 (.inr h)⟩
                      have e9 : (til != 0) = true := by simp [h9]
                      clear h8 h9
                      go_wp2_with fail
                      go_roundw
                      case rel => exact ⟨k + 1, q, T, by omega, by omega, by go_num, HK, HA.alloc _⟩
                      case measure => simp [intOf]; omega
                    · have hmay : mayR ⟨hold, id, ⟨#[112]⟩, cls, (j : Int), -1, til⟩ = true := may_of (by show 0 < id; omega) rfl hc0 h7' (by show 0 ≤ (j : Int); omega) (by show (j : Int) ≤ 63; omega) rfl h8
                      have HK2 := Lib.hid (HK.out.snoc ⟨hi0, hi1, ht0, ht1, hps⟩ hmay rfl HTj.out)
                      clear hmay
                      have hh : hold = true ∨ (hold = false ∧ til = 0) := by cases hold <;> simp_all
                      clear h8
                      have hqb : q.length ≤ 40 := by omega
                      have HA2 := fun o => (HA.set hsz hs3 hj).alloc o
                      rcases hh with rfl | ⟨rfl, rfl⟩
                      · skip
                        have HAW := HA2 (.cells #[.bool true, .int .u32 id, .string ⟨#[112]⟩, .int .i64 cls, .int .i64 (j : Int), .int .i64 (-1), .int .u64 til] 25)
                        have hwz := HAW.2.2.2.1
                        go_wp2_with (at_builtin; go_loud (refine own_append_box3 (w0 := (wr.setCell ⟨w1.heap.size, j, none⟩ (.bool true)).alloc (.cells #[.bool true, .int .u32 id, .string ⟨#[112]⟩, .int .i64 cls, .int .i64 (j : Int), .int .i64 (-1), .int .u64 til] 25)) (W := (wr.setCell ⟨w1.heap.size, j, none⟩ (.bool true)).alloc (.cells #[.bool true, .int .u32 id, .string ⟨#[112]⟩, .int .i64 cls, .int .i64 (j : Int), .int .i64 (-1), .int .u64 til] 25)) (wr.heap.size + 1) (by rw [World.size_alloc, World.size_setCell]) w3.heap.size rfl (.tmp 88) (.tmp 90) 46 25 rfl Tryd.underlying46 info_rec rfl (by decide) _ q.length _ #[.bool true, .int .u32 id, .string ⟨#[112]⟩, .int .i64 cls, .int .i64 (j : Int), .int .i64 (-1), .int .u64 til] rfl (by simp [Value.oneCell']) rfl rfl HAW.2.1 (Below.refl _ _) hwz (by omega) (by omega) ?_); intro v1 w2 hown hB2 hsz2 hg)
                        go_roundw
                        case rel => exact ⟨k + 1, q ++ [⟨true, id, ⟨#[112]⟩, cls, (j : Int), -1, til⟩], _, by omega, by simp; omega, by go_num, HK2, HAW.app (r := ⟨true, id, ⟨#[112]⟩, cls, (j : Int), -1, til⟩) HB3.size hs3 hown hB2⟩
                        case measure => simp [intOf]; omega
                      · skip
                        have HAW := HA2 (.cells #[.bool false, .int .u32 id, .string ⟨#[112]⟩, .int .i64 cls, .int .i64 (j : Int), .int .i64 (-1), .int .u64 0] 25)
                        have hwz := HAW.2.2.2.1
                        go_wp2_with (at_builtin; go_loud (refine own_append_box3 (w0 := (wr.setCell ⟨w1.heap.size, j, none⟩ (.bool true)).alloc (.cells #[.bool false, .int .u32 id, .string ⟨#[112]⟩, .int .i64 cls, .int .i64 (j : Int), .int .i64 (-1), .int .u64 0] 25)) (W := (wr.setCell ⟨w1.heap.size, j, none⟩ (.bool true)).alloc (.cells #[.bool false, .int .u32 id, .string ⟨#[112]⟩, .int .i64 cls, .int .i64 (j : Int), .int .i64 (-1), .int .u64 0] 25)) (wr.heap.size + 1) (by rw [World.size_alloc, World.size_setCell]) w3.heap.size rfl (.tmp 88) (.tmp 90) 46 25 rfl Tryd.underlying46 info_rec rfl (by decide) _ q.length _ #[.bool false, .int .u32 id, .string ⟨#[112]⟩, .int .i64 cls, .int .i64 (j : Int), .int .i64 (-1), .int .u64 0] rfl (by simp [Value.oneCell']) rfl rfl HAW.2.1 (Below.refl _ _) hwz (by omega) (by omega) ?_); intro v1 w2 hown hB2 hsz2 hg)
                        go_roundw
                        case rel => exact ⟨k + 1, q ++ [⟨false, id, ⟨#[112]⟩, cls, (j : Int), -1, 0⟩], _, by omega, by simp; omega, by go_num, HK2, HAW.app (r := ⟨false, id, ⟨#[112]⟩, cls, (j : Int), -1, 0⟩) HB3.size hs3 hown hB2⟩
                        case measure => simp [intOf]; omega
    · have HBA := HA.2.2.1
      have hHQ : wr.ownsRow w3.heap.size 25 7 u5 q.length (q.flatMap recC) := HA.2.1
      have hf1 : w1.heap.size + 1 < w3.heap.size := HF.out.lt
      have hf2 : w1.heap.size + 1 + 1 < w3.heap.size := HU.out.lt
      have HFr := Lib.hid (HF.out.block (HA.2.2.2.2 _ hf1 (by omega)))
      have HUr := Lib.hid (HU.out.block (HA.2.2.2.2 _ hf2 (by omega)))
      have hm1 := hm0.below HBA
      have hqk : q.length ≤ 40 := by omega
      have HQ := Lib.hid hHQ
      clear HA hHQ HT HF HU hm3 HL HO1 HR HB3
      obtain ⟨w4, rfl⟩ : ∃ w4 : World, w4 = wr := ⟨_, rfl⟩
      go_wp2_with fail
      refine (moves2_any m _ _ hm1 hml).mono ?_
      rintro e w5 ⟨v5, rfl, hM, hB⟩
      have HB5 := bstep HBA hB
      have hMb := hM.lt
      obtain ⟨am, cm, rfl, hcm, hrm⟩ := (RdM.own hM).opn
      have HRM := Lib.hid hrm
      have HFr5 := Lib.hid (HFr.out.below hB)
      have HUr5 := Lib.hid (HUr.out.below hB)
      have HQ5 := Lib.hid (own_kept HQ.out hB)
      have hsb := hB.size
      have HMB : Hid (∀ b o, am = some ⟨b, o, none⟩ → w4.heap.size ≤ b) := fun b o hb => (hMb b (by rw [hb]; rfl)).1
      clear hM hrm HFr HUr HQ hm1 hB hMb
      have hmn := (mvs_in m).1
      have HMI := Lib.hid (mvs_in m).2
      go_wp2_with fail
      go_loopw [12, 14, 15] (fun oo i _ wr => ∃ (k : Nat) (g : List (Int × Int)) (F U : Nat → Bool), k ≤ (mvs m).length ∧ g.length ≤ k ∧ i = .int .i64 k ∧ Hid (Movs g F U) ∧ HeadM w (w1.heap.size + 1) (w1.heap.size + 1 + 1) w5.heap.size w5 g F U oo wr) (fun _ i _ _ => (mvs m).length - (intOf i).toNat)
      case atStart => exact ⟨0, [], fun _ => false, fun _ => false, Nat.zero_le _, Nat.zero_le _, rfl, Movs.nil, ⟨HFr5.out, HUr5.out, (World.ownsRow_nil w5 w5.heap.size 56 2), HB5, Nat.le_refl _, fun _ _ _ _ => rfl⟩⟩
      case round =>
        obtain ⟨k, g, F, U, hk, hak, rfl, HM, HA⟩ := hrel
        have hszr := HA.2.2.2.2.1
        have hs5 : w1.heap.size + 1 < wr.heap.size := by omega
        have hs6 : w1.heap.size + 1 + 1 < wr.heap.size := by omega
        have hf2' : w1.heap.size + 1 + 1 < w5.heap.size := by omega
        by_cases hkl : k < (mvs m).length
        · obtain ⟨x, hx⟩ : ∃ x, (mvs m)[k]? = some x := ⟨_, List.getElem?_eq_getElem hkl⟩
          have hxr := HMI.out x (List.mem_of_getElem? hx)
          obtain ⟨b, o, rfl, y0, y1⟩ := HRM.out k x hx
          have hbm := HMB.out b o rfl
          have hbk : b < w5.heap.size := World.block_lt_of_cell? _ _ y0
          have hblk := HA.2.2.2.2.2 b hbk (by omega) (by omega)
          have c0 := (World.cell?_of_block hblk).trans y0
          have c1 := (World.cell?_of_block hblk).trans y1
          clear hx y0 y1 hblk
          obtain ⟨x1, x2⟩ := x
          dsimp only at hxr c0 c1
          obtain ⟨i, rfl⟩ : ∃ i : Nat, x1 = (i : Int) := ⟨x1.toNat, by omega⟩
          obtain ⟨j, rfl⟩ : ∃ j : Nat, x2 = (j : Int) := ⟨x2.toNat, by omega⟩
          have hi : i < 64 := by omega
          have hj : j < 64 := by omega
          obtain ⟨hFc, hFf⟩ := HA.1 i hi
          obtain ⟨hUc, hUf⟩ := HA.2.1 j hj
          cases hFi : F i
          case true =>
            rw [hFi] at hFc
            go_wp2_with fail
            go_roundw
            case rel => exact ⟨k + 1, g, F, U, by omega, by omega, by go_num, HM, HA.alloc _⟩
            case measure => simp [intOf]; omega
          case false =>
            rw [hFi] at hFc
            cases hUj : U j
            case true =>
              rw [hUj] at hUc
              go_wp2_with fail
              go_roundw
              case rel => exact ⟨k + 1, g, F, U, by omega, by omega, by go_num, HM, HA.alloc _⟩
              case measure => simp [intOf]; omega
            case false =>
              rw [hUj] at hUc
              have HM2 := Lib.hid (HM.out.snoc (x := ((i : Int), (j : Int))) (by dsimp only; omega) rfl rfl hUj)
              have HAW := (HA.set (by omega) (by omega) hf2' hi hj).alloc (.cells #[.int .i64 (i : Int), .int .i64 (j : Int)] 56)
              have hwz := HAW.2.2.2.2.1
              have hgb : g.length ≤ 30 := by omega
              clear hFi hUj
              go_wp2_with (at_builtin; go_loud (refine own_append_box3 (w0 := ((wr.setCell ⟨w1.heap.size + 1, i, none⟩ (.bool true)).setCell ⟨w1.heap.size + 1 + 1, j, none⟩ (.bool true)).alloc (.cells #[.int .i64 (i : Int), .int .i64 (j : Int)] 56)) (W := ((wr.setCell ⟨w1.heap.size + 1, i, none⟩ (.bool true)).setCell ⟨w1.heap.size + 1 + 1, j, none⟩ (.bool true)).alloc (.cells #[.int .i64 (i : Int), .int .i64 (j : Int)] 56)) (wr.heap.size + 1) (by rw [World.size_alloc, World.size_setCell, World.size_setCell]) w5.heap.size rfl (.tmp 122) (.tmp 124) 36 56 rfl Tryd.underlying36 info_mv rfl (by decide) _ g.length _ #[.int .i64 (i : Int), .int .i64 (j : Int)] rfl (by simp [Value.oneCell']) rfl rfl HAW.2.2.1 (Below.refl _ _) hwz (by omega) (by omega) ?_); intro v1 w2 hown hB2 hsz2 hg)
              go_roundw
              case rel => exact ⟨k + 1, g ++ [((i : Int), (j : Int))], _, _, by omega, by simp; omega, by go_num, HM2, HAW.app HB5.size (by omega) (by omega) (x := ((i : Int), (j : Int))) hown hB2⟩
              case measure => simp [intOf]; omega
        · have HL2 : Hid (RdL wr u5 q) := RdL.far HQ5.out (fun b hb1 hb2 => HA.2.2.2.2.2 b hb2 (by omega) (by omega))
          have HG2 : Hid (RdM wr u12 g) := RdM.own HA.2.2.1
          have HF2 := Lib.hid HA.1
          have HBr := HA.2.2.2.1
          have hgl : g.length ≤ 30 := by omega
          clear HA HQ5 HFr5 HUr5 HRM HMI HMB HB5 HBA
          obtain ⟨w6, rfl⟩ : ∃ w6 : World, w6 = wr := ⟨_, rfl⟩
          have hqz : (seats q).length = q.length := List.length_map _
          have hol : (outs q g).length = q.length := outs_len q g
          obtain ⟨ea, eb, ec⟩ := all_is g (kept_all HK.out)
          have HE := Lib.hid (And.intro ea (And.intro eb ec))
          have HC1 : Hid (clV (seats q) = _) := clV_none (kept_clash HK.out)
          have HC2 : Hid (clV (seats (outs q g)) = _) := clV_none (behind HK.out HM.out)
          clear hqz ea eb ec
          have HOL := Lib.hid hol
          clear hol
          have HQO : Hid (∀ r ∈ q, r.Ok) := fun r hr => (HK.out.ok r hr).1
          go_wp2_with fail
          refine (Clash_any q _ _ HL2.out (by omega)).mono ?_
          rintro e w7 ⟨he, hB⟩
          rw [HC1.out] at he
          subst he
          have HB7 := bstep HBr hB
          have HL7 := Lib.hid (HL2.out.below hB)
          have HG7 := Lib.hid (HG2.out.below hB)
          have HF7 := Lib.hid (HF2.out.below hB)
          clear HL2 HG2 HF2 hB HBr
          go_wp2_with fail
          refine (All_any q g _ _ _ HL7.out (by omega) HQO.out HG7.out (by omega) (hG.below HB7)).mono ?_
          rintro e w8 ⟨v8, v9, rfl, hA, hN, hB⟩
          rw [HE.out.1]
          rw [HE.out.2.1] at hA
          rw [HE.out.2.2] at hN
          have HB8 := bstep HB7 hB
          have HL8 := Lib.hid (HL7.out.below hB)
          have HF8 := Lib.hid (HF7.out.below hB)
          have HA8 := Lib.hid hA
          have HN8 := Lib.hid hN
          clear HL7 HG7 HF7 hB HB7 hA hN
          go_wp2_with fail
          refine (Clash_any (outs q g) _ _ HA8.out (by rw [HOL.out]; omega)).mono ?_
          rintro e w9 ⟨he, hB⟩
          rw [HC2.out] at he
          subst he
          have HB9 := bstep HB8 hB
          have HF9 := Lib.hid (HF8.out.below hB)
          obtain ⟨a1, c1, rfl, hc1, hr1⟩ := (HA8.out.below hB).opnN HOL.out
          obtain ⟨a2, c2, rfl, hc2, hr2⟩ := (HN8.out.below hB).opn
          obtain ⟨a3, c3, rfl, hc3, hr3⟩ := (HL8.out.below hB).opn
          have HR1 := Lib.hid hr1
          have HR2 := Lib.hid hr2
          have HR3 := Lib.hid hr3
          clear hr1 hr2 hr3 HL8 HF8 HA8 HN8 hB HB8 HC1 HC2 HOL HE
          have hll := losts_len q g
          go_wp2_with fail
          go_loopw [25, 26] (fun kv i wr => ∃ b : Nat, b ≤ q.length ∧ i = .int .i64 b ∧ kv = .int .i64 ((losts (q.take b) g).length : Nat) ∧ Below w9.heap.size w9 wr) (fun _ i _ => q.length - (intOf i).toNat)
          case atStart => exact ⟨0, Nat.zero_le _, rfl, rfl, Below.refl _ _⟩
          case round =>
            obtain ⟨b, hb, rfl, rfl, HI⟩ := hrel
            by_cases hbl : b < q.length
            · obtain ⟨r, hr⟩ : ∃ r, q[b]? = some r := ⟨_, List.getElem?_eq_getElem hbl⟩
              obtain ⟨hro, hmay⟩ := HK.out.ok r (List.mem_of_getElem? hr)
              obtain ⟨hs0, hs63⟩ := may_seat hmay
              obtain ⟨b1, o1, rfl, hcs1⟩ := HR1.out b (upR r g) (outs_at hr)
              obtain ⟨b3, o3, rfl, hcs3⟩ := HR3.out b r hr
              have x4 := keep_cell HI (hcs1 4 _ rfl)
              have y0 := keep_cell HI (hcs3 0 _ rfl)
              have y1 := keep_cell HI (hcs3 1 _ rfl)
              have y4 := keep_cell HI (hcs3 4 _ rfl)
              rw [seat_up hmay] at x4
              have hup : (upR r g).hold = r.hold ∧ (upR r g).id = r.id ∧ (upR r g).seat = toV (toM g r.seat) := ⟨hold_up hmay, id_up hmay, seat_up hmay⟩
              have HUp := Lib.hid hup
              have HRB := Lib.hid hr
              rw [Nat.add_zero] at y0
              obtain ⟨hold, id, per, cls, seat, was, til⟩ := r
              dsimp only at x4 y0 y1 y4 hs0 hs63
              obtain ⟨j, rfl⟩ : ∃ j : Nat, seat = (j : Int) := ⟨seat.toNat, by omega⟩
              have hj : j < 64 := by omega
              have hFc := keep_cell HI (HF9.out j hj).1
              have hfl := flag HM.out j
              have hlb : (losts (q.take b) g).length ≤ b := Nat.le_trans (losts_len _ _) (List.length_take_le _ _)
              clear hr hcs1 hcs3 hmay hup
              obtain ⟨s, hs⟩ : ∃ s, toV (toM g (j : Int)) = s := ⟨_, rfl⟩
              rw [hs] at x4 hfl
              have HS := Lib.hid hs
              clear hs
              rcases hfl with ⟨rfl, hf⟩ | ⟨hs, hf⟩
              · rw [hf] at hFc
                cases hold with
                | true =>
                  have HX := Lib.hid (losts_no g HRB.out (by unfold lostP; rw [HUp.out.1]; rfl))
                  clear hf
                  go_wp2_with fail
                  go_quiet (fail)
                  go_wp2
                  go_roundw
                  case rel => exact ⟨b + 1, by omega, by go_num, by rw [HX.out], below_drewN HI _⟩
                  case measure => simp [intOf]; omega
                | false =>
                  have hlp : lostP (upR ⟨false, id, per, cls, (j : Int), was, til⟩ g) = true := by unfold lostP; rw [HUp.out.1, HUp.out.2.2]; show (!false && (toV (toM g (j : Int)) == -1)) = true; rw [HS.out]; rfl
                  have HX := Lib.hid (losts_yes g HRB.out hlp)
                  have hla := lost_at HRB.out hlp
                  rw [HUp.out.2.1] at hla
                  have hlk : (losts (q.take b) g).length < (losts q g).length := (List.getElem?_eq_some_iff.1 hla).1
                  obtain ⟨b2, o2, rfl, z0⟩ := HR2.out _ _ hla
                  have z1 := keep_cell HI z0
                  clear hf hlp hla z0
                  obtain ⟨n, hn⟩ : ∃ n, (losts (q.take b) g).length = n := ⟨_, rfl⟩
                  rw [hn] at hlk z1 hlb
                  rw [hn]
                  have HN := Lib.hid hn
                  clear hn
                  go_wp2_with fail
                  go_quiet (fail)
                  go_wp2_with fail
                  go_quiet (fail)
                  go_wp2
                  go_roundw
                  case rel => exact ⟨b + 1, by omega, by go_num, by rw [HX.out, List.length_append, HN.out]; go_num, below_drewN HI _⟩
                  case measure => simp [intOf]; omega
              · rw [hf] at hFc
                have hne : (s == -1) = false := by simp; omega
                have HX := Lib.hid (losts_no g HRB.out (by unfold lostP; rw [HUp.out.2.2, HS.out, hne]; simp))
                clear hf
                go_wp2_with fail
                go_quiet (fail)
                go_wp2
                go_roundw
                case rel => exact ⟨b + 1, by omega, by go_num, by rw [HX.out], below_drewN HI _⟩
                case measure => simp [intOf]; omega
            · have hbe : (losts (q.take b) g).length = (losts q g).length := by rw [List.take_of_length_le (by omega)]
              rw [hbe]
              clear hbe
              have HB10 := bstep HB9 HI
              go_wp2_with fail
              go_ret
              exact ⟨by simp, HB10⟩
end Go.Proofs.YtinnkaokplmcbaaDoor
