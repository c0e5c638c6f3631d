/- KeysRead: the walk. -/
import Derived.Test.YtdnnbnohemkfkaaDoorQ8
import Derived.Test.YtdnnbnohemkfkaaDoorL
import Derived.Deep.RegionHeld3
import Derived.OpenShut
namespace Go.Proofs.YtdnnbnohemkfkaaDoor
open Go.RowKit
set_option linter.unusedVariables false

theorem rEvent_len (n : Int) : (rEvent n).length ≤ 1 := by unfold rEvent rOne; split <;> simp
theorem rPersons_len (n : Int) (s : List UInt8) : (rPersons n s).length ≤ 300 := by
  have h1 := rEvent_len n
  have h2 : (textB s).length ≤ 256 := textB_len _
  unfold rPersons; split <;> simp; omega
theorem rPerson_len (n : Int) (s : List UInt8) (id : Int) : (rPerson n s id).length ≤ 310 := by
  have h1 := rPersons_len n s
  unfold rPerson; split <;> simp [beB_len]; omega
theorem rId_sz (n id : Int) : (ByteArray.mk (rId n id).toArray).size ≤ 400 := by
  show (rId n id).toArray.size ≤ _
  have h1 := rEvent_len n
  rw [List.size_toArray]
  unfold rId; split <;> simp [beB_len]; omega
theorem rSeat_sz (n m s : Int) : (ByteArray.mk (rSeat n m s).toArray).size ≤ 400 := by
  show (rSeat n m s).toArray.size ≤ _
  rw [List.size_toArray, rSeat_eq]
  have := kSeat_len n m s
  omega
theorem rPerson_sz (n : Int) (s : List UInt8) (id : Int) : (ByteArray.mk (rPerson n s id).toArray).size ≤ 400 := by
  show (rPerson n s id).toArray.size ≤ _
  rw [List.size_toArray]
  have := rPerson_len n s id
  omega
theorem rPersons_sz (n : Int) (s : List UInt8) : (ByteArray.mk (rPersons n s).toArray).size ≤ 400 := by
  show (rPersons n s).toArray.size ≤ _
  rw [List.size_toArray]
  have := rPersons_len n s
  omega
theorem tmod_nat (a : Int) (n : Nat) (h0 : 0 ≤ a) (hn : 0 < n) : ∃ j : Nat, a.tmod (n : Int) = (j : Int) ∧ j < n := by
  obtain ⟨m, rfl⟩ := Int.eq_ofNat_of_zero_le h0
  exact ⟨m % n, by rw [Int.tmod_eq_emod_of_nonneg (by omega)]; rfl, Nat.mod_lt _ hn⟩
theorem mk_size (l : List UInt8) : (ByteArray.mk l.toArray).size = l.length := by show l.toArray.size = _; simp

set_option maxRecDepth 100000 in
set_option maxHeartbeats 8000000 in
theorem read_any (s : ByteArray) (e m t y : Int) (p : ByteArray) (id a : Int) (w : World) (hG : GP w) (hs : s.size ≤ 140737488351232) (hp : p.size ≤ 140737488351232)
    (he : 0 ≤ e ∧ e < 256) (hm : 0 ≤ m ∧ m < 256) (ht : 0 ≤ t ∧ t < 256) (hy : 0 ≤ y ∧ y < 256) (hi0 : 0 ≤ id) (hi1 : id < 4294967296) (ha : 0 ≤ a ∧ a < 256) :
    Calls Tryd.prog 5 #[.string s, .agg #[.int .u8 e, .int .u8 m, .int .u8 t, .int .u8 y, .string p, .int .u32 id], .int .u8 a] w fun e w' => e = .returned (.bool true) ∧ Below w.heap.size w w' := by
  have HB := below_alloc w (.cells #[.int .u8 e, .int .u8 m, .int .u8 t, .int .u8 y, .string p, .int .u32 id] 38)
  have hk := blk_new w (.cells #[.int .u8 e, .int .u8 m, .int .u8 t, .int .u8 y, .string p, .int .u32 id] 38)
  go_enter Tryd.func5, Tryd.ntmps5
  go_wp2_with fail
  generalize (w.alloc (.cells #[.int .u8 e, .int .u8 m, .int .u8 t, .int .u8 y, .string p, .int .u32 id] 38)) = wk at HB hk ⊢
  have k0 : wk.cell? ⟨w.heap.size, 0, none⟩ = some (.int .u8 e) := blk_cell hk 0
  have k1 : wk.cell? ⟨w.heap.size, 1, none⟩ = some (.int .u8 m) := blk_cell hk 1
  have k2 : wk.cell? ⟨w.heap.size, 2, none⟩ = some (.int .u8 t) := blk_cell hk 2
  have k4 : wk.cell? ⟨w.heap.size, 4, none⟩ = some (.string p) := blk_cell hk 4
  have k5 : wk.cell? ⟨w.heap.size, 5, none⟩ = some (.int .u32 id) := blk_cell hk 5
  have hR : Below wk.heap.size wk wk.drew := (Below.refl _ _).drew
  have hkl := blk_lt hk
  go_cut [7] (fun s7 W => ∃ (ba : Nat) (a0 a1 a2 a3 : ByteArray), s7 = .pointer (some ⟨ba, 0, none⟩) ∧ Below w.heap.size w W ∧ W.heap[w.heap.size]? = some (.cells #[.int .u8 e, .int .u8 m, .int .u8 t, .int .u8 y, .string p, .int .u32 id] 38 (0, 0)) ∧ W.heap[ba]? = some (.cells #[.string a0, .string a1, .string a2, .string a3] 39 (0, 0)) ∧ w.heap.size < ba ∧ a0.size ≤ 400 ∧ a1.size ≤ 400 ∧ a2.size ≤ 400 ∧ a3.size ≤ 400)
  case first =>
    go_region_held3 (fun w' => w'.cell? ⟨w.heap.size, 0, none⟩ = some (.int .u8 e) ∧ w'.cell? ⟨w.heap.size, 1, none⟩ = some (.int .u8 m) ∧ w'.cell? ⟨w.heap.size, 2, none⟩ = some (.int .u8 t) ∧ w'.cell? ⟨w.heap.size, 4, none⟩ = some (.string p) ∧ w'.cell? ⟨w.heap.size, 5, none⟩ = some (.int .u32 id)) (first | (exact ⟨keep_cell' (hR) k0, keep_cell' (hR) k1, keep_cell' (hR) k2, keep_cell' (hR) k4, keep_cell' (hR) k5⟩) | (exact ⟨keep_cell' (hR.alloc hR.size _) k0, keep_cell' (hR.alloc hR.size _) k1, keep_cell' (hR.alloc hR.size _) k2, keep_cell' (hR.alloc hR.size _) k4, keep_cell' (hR.alloc hR.size _) k5⟩) | (exact ⟨keep_cell' ((((hR.setCell hAl _).setCell hAl _).setCell hAl _).setCell hAl _) k0, keep_cell' ((((hR.setCell hAl _).setCell hAl _).setCell hAl _).setCell hAl _) k1, keep_cell' ((((hR.setCell hAl _).setCell hAl _).setCell hAl _).setCell hAl _) k2, keep_cell' ((((hR.setCell hAl _).setCell hAl _).setCell hAl _).setCell hAl _) k4, keep_cell' ((((hR.setCell hAl _).setCell hAl _).setCell hAl _).setCell hAl _) k5⟩)) (first | (go_at_call 9; refine (rId_any _ _ _ hi0 hi1).mono ?_; rintro e w1 ⟨rfl, hB⟩; (first | ((with_reducible replace hR := hR.trans (hB.mono hR.size)); (try (with_reducible replace hA := blk_below hA hB))) | ((with_reducible have hA := blk_below (blk_new _ _) hB); have hAl := hR.size; replace hR := (hR.alloc hR.size _).trans (hB.mono (hR.alloc hR.size _).size)) | (have hA := blk_below (w := (wk.alloc (.cells #[.string ⟨#[]⟩, .string ⟨#[]⟩, .string ⟨#[]⟩, .string ⟨#[]⟩] 39)).drew) (blk_new wk _) hB; have hAl := Nat.le_refl wk.heap.size; have hZ := ((Below.refl wk.heap.size wk).alloc (Nat.le_refl _) (.cells #[.string ⟨#[]⟩, .string ⟨#[]⟩, .string ⟨#[]⟩, .string ⟨#[]⟩] 39)).drew; replace hR := hZ.trans (hB.mono hZ.size); clear hZ)); clear hB; try (have q0 := blk_cell hA 0; have q1 := blk_cell hA 1; have q2 := blk_cell hA 2; have q3 := blk_cell hA 3; have g0 := blk_frozen hA 0; have g1 := blk_frozen hA 1; have g2 := blk_frozen hA 2; have g3 := blk_frozen hA 3)) | (go_at_call 11; refine (rSeat_any _ _ _ _).mono ?_; rintro e w1 ⟨rfl, hB⟩; (first | ((with_reducible replace hR := hR.trans (hB.mono hR.size)); (try (with_reducible replace hA := blk_below hA hB))) | ((with_reducible have hA := blk_below (blk_new _ _) hB); have hAl := hR.size; replace hR := (hR.alloc hR.size _).trans (hB.mono (hR.alloc hR.size _).size)) | (have hA := blk_below (w := (wk.alloc (.cells #[.string ⟨#[]⟩, .string ⟨#[]⟩, .string ⟨#[]⟩, .string ⟨#[]⟩] 39)).drew) (blk_new wk _) hB; have hAl := Nat.le_refl wk.heap.size; have hZ := ((Below.refl wk.heap.size wk).alloc (Nat.le_refl _) (.cells #[.string ⟨#[]⟩, .string ⟨#[]⟩, .string ⟨#[]⟩, .string ⟨#[]⟩] 39)).drew; replace hR := hZ.trans (hB.mono hZ.size); clear hZ)); clear hB; try (have q0 := blk_cell hA 0; have q1 := blk_cell hA 1; have q2 := blk_cell hA 2; have q3 := blk_cell hA 3; have g0 := blk_frozen hA 0; have g1 := blk_frozen hA 1; have g2 := blk_frozen hA 2; have g3 := blk_frozen hA 3)) | (go_at_call 13; refine (rPerson_any _ _ _ _ hi0 hi1 hp).mono ?_; rintro e w1 ⟨rfl, hB⟩; (first | ((with_reducible replace hR := hR.trans (hB.mono hR.size)); (try (with_reducible replace hA := blk_below hA hB))) | ((with_reducible have hA := blk_below (blk_new _ _) hB); have hAl := hR.size; replace hR := (hR.alloc hR.size _).trans (hB.mono (hR.alloc hR.size _).size)) | (have hA := blk_below (w := (wk.alloc (.cells #[.string ⟨#[]⟩, .string ⟨#[]⟩, .string ⟨#[]⟩, .string ⟨#[]⟩] 39)).drew) (blk_new wk _) hB; have hAl := Nat.le_refl wk.heap.size; have hZ := ((Below.refl wk.heap.size wk).alloc (Nat.le_refl _) (.cells #[.string ⟨#[]⟩, .string ⟨#[]⟩, .string ⟨#[]⟩, .string ⟨#[]⟩] 39)).drew; replace hR := hZ.trans (hB.mono hZ.size); clear hZ)); clear hB; try (have q0 := blk_cell hA 0; have q1 := blk_cell hA 1; have q2 := blk_cell hA 2; have q3 := blk_cell hA 3; have g0 := blk_frozen hA 0; have g1 := blk_frozen hA 1; have g2 := blk_frozen hA 2; have g3 := blk_frozen hA 3)) | (go_at_call 21; refine (rPersons_any _ _ _ hp).mono ?_; rintro e w1 ⟨rfl, hB⟩; (first | ((with_reducible replace hR := hR.trans (hB.mono hR.size)); (try (with_reducible replace hA := blk_below hA hB))) | ((with_reducible have hA := blk_below (blk_new _ _) hB); have hAl := hR.size; replace hR := (hR.alloc hR.size _).trans (hB.mono (hR.alloc hR.size _).size)) | (have hA := blk_below (w := (wk.alloc (.cells #[.string ⟨#[]⟩, .string ⟨#[]⟩, .string ⟨#[]⟩, .string ⟨#[]⟩] 39)).drew) (blk_new wk _) hB; have hAl := Nat.le_refl wk.heap.size; have hZ := ((Below.refl wk.heap.size wk).alloc (Nat.le_refl _) (.cells #[.string ⟨#[]⟩, .string ⟨#[]⟩, .string ⟨#[]⟩, .string ⟨#[]⟩] 39)).drew; replace hR := hZ.trans (hB.mono hZ.size); clear hZ)); clear hB; try (have q0 := blk_cell hA 0; have q1 := blk_cell hA 1; have q2 := blk_cell hA 2; have q3 := blk_cell hA 3; have g0 := blk_frozen hA 0; have g1 := blk_frozen hA 1; have g2 := blk_frozen hA 2; have g3 := blk_frozen hA 3)))
    all_goals
      go_wp2_with fail
      go_meet
      case rel =>
        first
        | exact ⟨w1.heap.size, _, _, _, _, rfl, HB.trans ((hR.alloc hR.size _).mono (Nat.le_of_lt hkl)), blk_below hk (hR.alloc hR.size _), blk_new w1 _, by have := hR.size; omega, rId_sz _ _, rSeat_sz _ _ _, rPerson_sz _ _ _, rPersons_sz _ _⟩
        | exact ⟨_, _, _, _, _, rfl, HB.trans (((((hR.setCell hAl _).setCell hAl _).setCell hAl _).setCell hAl _).mono (Nat.le_of_lt hkl)), blk_below hk ((((hR.setCell hAl _).setCell hAl _).setCell hAl _).setCell hAl _), blk_set (blk_set (blk_set (blk_set hA 0 _) 1 _) 2 _) 3 _, by omega, rId_sz _ _, rSeat_sz _ _ _, rPerson_sz _ _ _, rPersons_sz _ _⟩
  case rest =>
    clear HB hk k0 k1 k2 k4 k5 hR hkl
    obtain ⟨ba, a0, a1, a2, a3, rfl, HB, hk, hA, hlt, z0, z1, z2, z3⟩ := hcut
    have hbase : w.heap.size ≤ ba := Nat.le_of_lt hlt
    go_wp2_with fail
    go_loopw [8, 9] (fun i b wr => ∃ k : Nat, k ≤ 4 ∧ i = .int .i64 k ∧ Below w.heap.size w wr ∧ wr.heap[w.heap.size]? = some (.cells #[.int .u8 e, .int .u8 m, .int .u8 t, .int .u8 y, .string p, .int .u32 id] 38 (0, 0)) ∧ wr.heap[ba]? = some (.cells #[.string a0, .string a1, .string a2, .string a3] 39 (0, 0))) (fun i _ _ => 4 - (intOf i).toNat)
    case atStart => exact ⟨0, by omega, rfl, HB, hk, hA⟩
    case round =>
      clear HB hk hA
      obtain ⟨k, hk4, rfl, HB, hk, hA⟩ := hrel
      rcases Nat.lt_or_ge k 4 with hl | hl
      · obtain ⟨x, hx, hxs⟩ : ∃ x : ByteArray, wr.cell? ⟨ba, k, none⟩ = some (.string x) ∧ x.size ≤ 400 := by
          rw [blk_cell hA k]
          match k, hl with
          | 0, _ => exact ⟨a0, rfl, z0⟩
          | 1, _ => exact ⟨a1, rfl, z1⟩
          | 2, _ => exact ⟨a2, rfl, z2⟩
          | 3, _ => exact ⟨a3, rfl, z3⟩
        have hxb : x.size ≤ 140737488351232 := by omega
        go_wp2_with fail
        refine (alike_any _ _ (hG.below HB) hxb).mono ?_
        rintro e2 w2 ⟨rfl, hB⟩
        replace HB := HB.trans (hB.mono HB.size)
        replace hk := blk_below hk hB
        replace hA := blk_below hA hB
        replace hx := keep_cell' hB hx
        clear hB
        have hcv := Lib.run_convert_string_bytes (P := Tryd.prog) w2 9 41 5 x Tryd.underlying9 Tryd.underlying41 Tryd.underlying5
        have hge := grownCap_ge w2 x.size 0 5
        obtain ⟨C, hC⟩ : ∃ C, C = grownCap w2 x.size 0 5 := ⟨_, rfl⟩
        rw [← hC] at hcv hge
        clear hC
        have hB : Below w2.heap.size w2 (Lib.bytesWorld w2 5 x) := bytesWorld_below w2 5 x
        have hcell : ∀ j, j < x.size → (Lib.bytesWorld w2 5 x).cell? ⟨w2.heap.size, j, none⟩ = some (.int .u8 (x.data.toList.getD j 0).toNat) := fun j hj => Lib.bytesWorld_cell w2 5 x j hj
        have hfroz : ∀ j, j < x.size → (Lib.bytesWorld w2 5 x).frozen? ⟨w2.heap.size, j, none⟩ = false := fun j hj => bytesWorld_frozen w2 5 x j hj
        obtain ⟨W, hW⟩ : ∃ W, W = Lib.bytesWorld w2 5 x := ⟨_, rfl⟩
        rw [← hW] at hcv hcell hfroz hB
        clear hW
        have HC := Lib.hid hcell
        have HF := Lib.hid hfroz
        clear hcell hfroz
        have hs2 := HB.size
        replace HB := HB.trans (hB.mono HB.size)
        have hk2 := blk_lt hk
        have hA2 := blk_lt hA
        replace hk := blk_below hk hB
        replace hA := blk_below hA hB
        have hka := blk_lt hk
        have hba := blk_lt hA
        have ky : W.cell? ⟨w.heap.size, 3, none⟩ = some (.int .u8 y) := blk_cell hk 3
        rcases Nat.eq_zero_or_pos x.size with h0 | h0
        · have HR : RdB W (.slice (some ⟨w2.heap.size, 0, none⟩) 0 C) [] := ⟨some (w2.heap.size, 0), C, rfl, Nat.zero_le _, (fun h => by cases h), fun p hp j u hu => by simp [bv] at hu⟩
          have hst := HR.str (P := Tryd.prog) 41 9 5 Tryd.underlying41 Tryd.underlying5 Tryd.underlying9
          have hnb : (ByteArray.mk ([] : List UInt8).toArray).size ≤ 140737488351232 := by decide
          go_wp2_with (first | (go_at_call 25; refine (alike_any _ _ (hG.below HB) (by assumption)).mono ?_; rintro e w1 ⟨rfl, hB⟩; replace HB := HB.trans (hB.mono HB.size)))
          go_roundw
          case rel => exact ⟨k + 1, by omega, by go_num, HB, blk_below hk (by assumption), blk_below hA (by assumption)⟩
          case measure => simp [intOf]; omega
        · obtain ⟨j, hj, hjl⟩ := tmod_nat a x.size ha.1 h0
          have hnz : ¬ ((x.size : Int) = 0) := by omega
          have hnz2 : ¬ (x.size = 0) := by omega
          have hnz3 : ((x.size : Int) == 0) = false := beq_eq_false_iff_ne.2 hnz
          have hnz4 : ¬ (x = ByteArray.empty) := by rintro rfl; exact absurd h0 (by decide)
          obtain ⟨u, c0, hu⟩ : ∃ u : Int, W.cell? ⟨w2.heap.size, j, none⟩ = some (.int .u8 u) ∧ (0 ≤ u ∧ u < 256) := ⟨_, HC.out j hjl, by have := (x.data.toList.getD j 0).toNat_lt; omega⟩
          have f0 := HF.out j hjl
          obtain ⟨b', hb'⟩ : ∃ b' : UInt8, bits .xor .u8 u y = (b'.toNat : Int) := by
            have h := wf_bits .xor .u8 u y
            simp only [Lit.wf, Bool.and_eq_true, decide_eq_true_eq] at h
            have e1 : IntKind.u8.min = 0 := rfl
            have e2 : IntKind.u8.max = 255 := rfl
            exact ⟨UInt8.ofNat (bits .xor .u8 u y).toNat, by simp; omega⟩
          have HL : Hid (x.data.toList.length = x.size) := size_toList x
          have HR : RdB (W.setCell ⟨w2.heap.size, j, none⟩ (.int .u8 (bits .xor .u8 u y))).drew (.slice (some ⟨w2.heap.size, 0, none⟩) x.size C) (x.data.toList.set j b') := by
            have hlen : (x.data.toList.set j b').length = x.size := by rw [List.length_set, HL.out]
            refine ⟨some (w2.heap.size, 0), C, by rw [hlen]; rfl, by omega, (fun h => by cases h), fun p hp i v hv => ?_⟩
            obtain rfl : (w2.heap.size, 0) = p := by simpa using hp
            have hi : i < x.size := by
              have h1 := (List.getElem?_eq_some_iff.1 hv).1
              rw [bv_length, hlen] at h1
              exact h1
            show (W.setCell ⟨w2.heap.size, j, none⟩ (.int .u8 (bits .xor .u8 u y))).cell? ⟨w2.heap.size, 0 + i, none⟩ = some v
            rw [Nat.zero_add]
            unfold bv at hv
            rw [List.getElem?_map, List.getElem?_set] at hv
            by_cases hij : j = i
            · subst hij
              rw [if_pos rfl, if_pos (by rw [HL.out]; exact hjl)] at hv
              simp only [Option.map_some, Option.some.injEq] at hv
              rw [World.cell?_setCell_same (h := c0), ← hv, hb']
            · rw [if_neg hij] at hv
              have hil : i < x.data.toList.length := by rw [HL.out]; exact hi
              rw [World.cell?_setCell_other (h := by simp <;> omega), HC.out i hi, ← hv, List.getD_eq_getElem?_getD, List.getElem?_eq_getElem hil]
              rfl
          have hst := HR.str (P := Tryd.prog) 41 9 5 Tryd.underlying41 Tryd.underlying5 Tryd.underlying9
          have hnb : (ByteArray.mk (x.data.toList.set j b').toArray).size ≤ 140737488351232 := by rw [mk_size, List.length_set, HL.out]; exact hxb
          clear hb' HR
          have hwa : IntKind.i64.wrap a = a := IntWalk.i64_in _ (by omega)
          have hwj : IntKind.i64.wrap (j : Int) = (j : Int) := IntWalk.i64_in _ (by omega)
          have hj0 : (0 : Int) ≤ (j : Int) := by omega
          have hj1 : (j : Int) < (x.size : Int) := by omega
          go_wp2_with fail
          go_region_with fail
          all_goals
            replace hk := blk_far hk (p := ⟨w2.heap.size, j, none⟩) (Nat.ne_of_lt hk2) (.int .u8 (bits .xor .u8 u y))
            replace hA := blk_far hA (p := ⟨w2.heap.size, j, none⟩) (Nat.ne_of_lt hA2) (.int .u8 (bits .xor .u8 u y))
            replace HB := (HB.setCell (p := ⟨w2.heap.size, j, none⟩) hs2 (.int .u8 (bits .xor .u8 u y))).drew
            go_wp2_with (first | (go_at_call 25; refine (alike_any _ _ (hG.below HB) (by assumption)).mono ?_; rintro e w1 ⟨rfl, hB⟩; replace HB := HB.trans (hB.mono HB.size)))
            go_roundw
            case rel => exact ⟨k + 1, by omega, by go_num, HB, blk_below hk (of_drew hB), blk_below hA (of_drew hB)⟩
            case measure => simp [intOf]; omega
      · have hz : (s.extract 0 100).size ≤ 140737488351232 := by rw [ByteArray.size_extract]; omega
        go_wp2_with (first | (go_at_call 25; refine (alike_any _ _ (hG.below HB) (by assumption)).mono ?_; rintro e w1 ⟨rfl, hB⟩; replace HB := HB.trans (hB.mono HB.size)) | (go_at_call 22; refine (works_any _ (hG.below HB)).mono ?_; rintro e w1 ⟨rfl, hB⟩; replace HB := HB.trans (hB.mono HB.size)))
        all_goals
          go_returns
          exact ⟨rfl, HB⟩
end Go.Proofs.YtdnnbnohemkfkaaDoor
