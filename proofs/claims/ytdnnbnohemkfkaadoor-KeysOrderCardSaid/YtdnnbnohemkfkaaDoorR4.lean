/- KeysOrder: the walk. -/
import Derived.Test.YtdnnbnohemkfkaaDoorR3
import Derived.Test.YtdnnbnohemkfkaaDoorQ8
import Derived.Deep.RegionHeld3
import Derived.Deep.DeepCutAuto
namespace Go.Proofs.YtdnnbnohemkfkaaDoor
open Go.RowKit
set_option linter.unusedVariables false
set_option linter.unusedSimpArgs false

theorem kPerson_len' (e : Int) (s : List UInt8) (id : Int) : (kPerson e s id).length ≤ 140737488351232 := by
  rcases kPerson_cases e s id with h | ⟨_, _, h⟩
  · rw [h]; simp
  · rw [h]
    have := textB_len s
    simp [beB_len]
    omega
theorem kPersons_len' (e : Int) (s : List UInt8) : (kPersons e s).length ≤ 140737488351232 := by
  unfold kPersons
  rw [keyB_two]
  have := textB_len s
  split <;> simp [beB_len]
  omega
theorem hold_here {p : Prop} (h : Hid p) : p := h.out
set_option maxRecDepth 100000 in
set_option maxHeartbeats 16000000 in
theorem order_any (e m t y : Int) (p : ByteArray) (id : Int) (e' m' t' y' : Int) (p' : ByteArray) (id' : Int) (w : World) (hG : GP w) (hp : p.size ≤ 140737488351232) (hp' : p'.size ≤ 140737488351232)
    (he : 0 ≤ e ∧ e < 256) (hm : 0 ≤ m ∧ m < 256) (ht : 0 ≤ t ∧ t < 256) (hi0 : 0 ≤ id) (hi1 : id < 4294967296)
    (he' : 0 ≤ e' ∧ e' < 256) (hm' : 0 ≤ m' ∧ m' < 256) (ht' : 0 ≤ t' ∧ t' < 256) (hi0' : 0 ≤ id') (hi1' : id' < 4294967296) :
    Calls Tryd.prog 6 #[.agg #[.int .u8 e, .int .u8 m, .int .u8 t, .int .u8 y, .string p, .int .u32 id], .agg #[.int .u8 e', .int .u8 m', .int .u8 t', .int .u8 y', .string p', .int .u32 id']] w fun e w' => e = .returned (.bool true) ∧ Below w.heap.size w w' := by
  have HB0 := ((below_alloc w (.cells #[.int .u8 e, .int .u8 m, .int .u8 t, .int .u8 y, .string p, .int .u32 id] 38)).alloc (by simp) (.cells #[.int .u8 e', .int .u8 m', .int .u8 t', .int .u8 y', .string p', .int .u32 id'] 38))
  have hk1 := blk_alloc (blk_new w (.cells #[.int .u8 e, .int .u8 m, .int .u8 t, .int .u8 y, .string p, .int .u32 id] 38)) (.cells #[.int .u8 e', .int .u8 m', .int .u8 t', .int .u8 y', .string p', .int .u32 id'] 38)
  have hk2 := blk_new (w.alloc (.cells #[.int .u8 e, .int .u8 m, .int .u8 t, .int .u8 y, .string p, .int .u32 id] 38)) (.cells #[.int .u8 e', .int .u8 m', .int .u8 t', .int .u8 y', .string p', .int .u32 id'] 38)
  rw [World.size_alloc] at hk2
  go_enter Tryd.func6, Tryd.ntmps6
  go_wp2_with fail
  generalize ((w.alloc (.cells #[.int .u8 e, .int .u8 m, .int .u8 t, .int .u8 y, .string p, .int .u32 id] 38)).alloc (.cells #[.int .u8 e', .int .u8 m', .int .u8 t', .int .u8 y', .string p', .int .u32 id'] 38)) = w0 at HB0 hk1 hk2 ⊢
  have hG0 := hG.below HB0
  have k10 : w0.cell? ⟨w.heap.size, 0, none⟩ = some (.int .u8 e) := blk_cell hk1 0
  have k11 : w0.cell? ⟨w.heap.size, 1, none⟩ = some (.int .u8 m) := blk_cell hk1 1
  have k12 : w0.cell? ⟨w.heap.size, 2, none⟩ = some (.int .u8 t) := blk_cell hk1 2
  have k14 : w0.cell? ⟨w.heap.size, 4, none⟩ = some (.string p) := blk_cell hk1 4
  have k15 : w0.cell? ⟨w.heap.size, 5, none⟩ = some (.int .u32 id) := blk_cell hk1 5
  have k20 : w0.cell? ⟨w.heap.size + 1, 0, none⟩ = some (.int .u8 e') := blk_cell hk2 0
  have k21 : w0.cell? ⟨w.heap.size + 1, 1, none⟩ = some (.int .u8 m') := blk_cell hk2 1
  have k22 : w0.cell? ⟨w.heap.size + 1, 2, none⟩ = some (.int .u8 t') := blk_cell hk2 2
  have k24 : w0.cell? ⟨w.heap.size + 1, 4, none⟩ = some (.string p') := blk_cell hk2 4
  have k25 : w0.cell? ⟨w.heap.size + 1, 5, none⟩ = some (.int .u32 id') := blk_cell hk2 5
  have hl1 := blk_lt hk1
  have hl2 := blk_lt hk2
  clear hk1 hk2
  have HW := Below.refl w0.heap.size w0
  obtain ⟨x, hx, hxe⟩ : ∃ x : Int, (0 ≤ x ∧ x < 4) ∧ e.tmod 4 = x := ⟨e.tmod 4, by rw [Int.tmod_eq_emod_of_nonneg he.1]; omega, rfl⟩
  obtain ⟨z, hz, hze⟩ : ∃ z : Int, (0 ≤ z ∧ z < 4) ∧ e'.tmod 4 = z := ⟨e'.tmod 4, by rw [Int.tmod_eq_emod_of_nonneg he'.1]; omega, rfl⟩
  have hxw : IntKind.i64.wrap x = x := IntWalk.i64_in _ (by omega)
  have hzw : IntKind.i64.wrap z = z := IntWalk.i64_in _ (by omega)
  have hxw8 : IntKind.u8.wrap x = x := IntWalk.u8_in _ (by omega)
  have hzw8 : IntKind.u8.wrap z = z := IntWalk.u8_in _ (by omega)
  go_wp2_with (first | (go_at_call 22; refine (works_any _ (hG0.below HW)).mono ?_; rintro e w1 ⟨rfl, hB⟩; replace HW := HW.trans (hB.mono HW.size); clear hB))
  have j10 := keep_cell' HW k10
  have j20 := keep_cell' HW k20
  go_quiet (fail)
  replace HW := below_drewN HW nq
  clear j10 j20
  generalize w1.drewN nq = w2 at HW ⊢
  go_wp2_with fail
  have HV := HW.drew
  go_region_held3 (fun w' => w'.cell? ⟨w.heap.size, 5, none⟩ = some (.int .u32 id) ∧ w'.cell? ⟨w.heap.size + 1, 5, none⟩ = some (.int .u32 id')) (exact ⟨keep_cell' HV k15, keep_cell' HV k25⟩) (first | (go_at_call 8; refine (Id_any _ _ _ (by omega) (by omega)).mono ?_; rintro e w3 ⟨rfl, hB⟩; replace HV := HV.trans (hB.mono HV.size); clear hB))
  clear HW
  have HW := HV
  clear HV
  have hb1 := back_id hx (a := id) (by omega)
  have q1 : fst0 (some (x, id)) = x := rfl
  have q2 : snd0 (some (x, id)) = id := rfl
  go_wp2_with (first | (go_at_call 26; refine (ReadId_any _ _).mono ?_; rintro e w4 ⟨rfl, hB⟩; rw [hb1, q1, q2]; replace HW := HW.trans (hB.mono HW.size); clear hB; refine hold_here ?_))
  refine Lib.hid ?_
  clear hb1 q1 q2 k10 k20
  have j15 := keep_cell' HW k15
  have j25 := keep_cell' HW k25
  have F1 := id_less hx hz (a := id) (b := id') (by omega) (by omega)
  go_upto_region 6 with (fail)
  go_cut [84] (fun s W => s = .bool false ∧ Below w0.heap.size w0 W)
  case first => as_aux_lemma =>
    rcases Int.lt_trichotomy x z with h | h | h
    · have n1 : (x == z) = false := by simp; omega
      have n2 : ¬ x = z := by omega
      go_wp2_with fail
      all_goals (go_meet; case rel => exact ⟨by first | rfl | (simp; done) | (simp; omega) | (simp; intro h1 h2; omega), HW⟩)
    · subst h
      go_wp2_with fail
      all_goals (go_meet; case rel => exact ⟨by first | rfl | (simp; done) | (simp; omega) | (simp; intro h1 h2; omega), HW⟩)
    · have n1 : (x == z) = false := by simp; omega
      have n2 : ¬ x = z := by omega
      have n3 : ¬ x < z := by omega
      go_wp2_with fail
      all_goals (go_meet; case rel => exact ⟨by first | rfl | (simp; done) | (simp; omega) | (simp; intro h1 h2; omega), HW⟩)
  case rest => as_aux_lemma =>
  clear HW F1 j15 j25
  obtain ⟨rfl, HW⟩ := hcut
  have j11 := keep_cell' HW k11
  have j12 := keep_cell' HW k12
  have j21 := keep_cell' HW k21
  have j22 := keep_cell' HW k22
  obtain ⟨u, hu, hue⟩ : ∃ u : Int, (0 ≤ u ∧ u < 2) ∧ m.tmod 2 = u := ⟨m.tmod 2, by rw [Int.tmod_eq_emod_of_nonneg hm.1]; omega, rfl⟩
  obtain ⟨u', hu', hue'⟩ : ∃ u : Int, (0 ≤ u ∧ u < 2) ∧ m'.tmod 2 = u := ⟨m'.tmod 2, by rw [Int.tmod_eq_emod_of_nonneg hm'.1]; omega, rfl⟩
  obtain ⟨i, hi, hie⟩ : ∃ i : Int, (0 ≤ i ∧ i < 64) ∧ t.tmod 64 = i := ⟨t.tmod 64, by rw [Int.tmod_eq_emod_of_nonneg ht.1]; omega, rfl⟩
  obtain ⟨i', hi', hie'⟩ : ∃ i : Int, (0 ≤ i ∧ i < 64) ∧ t'.tmod 64 = i := ⟨t'.tmod 64, by rw [Int.tmod_eq_emod_of_nonneg ht'.1]; omega, rfl⟩
  obtain ⟨M, hM, hMe⟩ : ∃ M : Int, (1 ≤ M ∧ M ≤ 2) ∧ 1 + u = M := ⟨1 + u, by omega, rfl⟩
  obtain ⟨M', hM', hMe'⟩ : ∃ M : Int, (1 ≤ M ∧ M ≤ 2) ∧ 1 + u' = M := ⟨1 + u', by omega, rfl⟩
  have v1 : IntKind.u8.wrap u = u := IntWalk.u8_in _ (by omega)
  have v2 : IntKind.u8.wrap u' = u' := IntWalk.u8_in _ (by omega)
  have v3 : IntKind.i64.wrap u = u := IntWalk.i64_in _ (by omega)
  have v4 : IntKind.i64.wrap u' = u' := IntWalk.i64_in _ (by omega)
  have v5 : IntKind.i64.wrap M = M := IntWalk.i64_in _ (by omega)
  have v6 : IntKind.i64.wrap M' = M' := IntWalk.i64_in _ (by omega)
  have v7 : IntKind.u8.wrap i = i := IntWalk.u8_in _ (by omega)
  have v8 : IntKind.u8.wrap i' = i' := IntWalk.u8_in _ (by omega)
  have v9 : IntKind.i64.wrap i = i := IntWalk.i64_in _ (by omega)
  have v0 : IntKind.i64.wrap i' = i' := IntWalk.i64_in _ (by omega)
  go_wp2_with fail
  go_quiet (fail)
  replace HW := below_drewN HW nq
  clear j11 j12 j21 j22 v1 v2 v3 v4 v5 v6 v7 v8 v9 v0 hue hue' hie hie' hMe hMe'
  generalize wc.drewN nq = w5 at HW ⊢
  have hb2 := back_seat hx hM hi
  have q1 : s1 (some (x, M, i)) = x := rfl
  have q2 : s2 (some (x, M, i)) = M := rfl
  have q3 : s3 (some (x, M, i)) = i := rfl
  go_wp2_with (first | (go_at_call 10; refine (Seat_any _ _ _ _).mono ?_; rintro e w6 ⟨rfl, hB⟩; replace HW := HW.trans (hB.mono HW.size); clear hB) | (go_at_call 27; refine (ReadSeat_any _ _ (by rw [mks]; have := kSeat_len x M i; omega)).mono ?_; rintro e w6 ⟨he, hB⟩; rw [stV_eq, hb2, q1, q2, q3] at he; subst he; replace HW := HW.trans (hB.mono HW.size); clear hB; refine hold_here ?_))
  refine Lib.hid ?_
  clear hb2 q1 q2 q3
  have F2 := seat_less hx hz hM hM' hi hi'
  go_upto_region 11 with (fail)
  go_cut [163] (fun s W => s = .bool false ∧ Below w0.heap.size w0 W)
  case first => as_aux_lemma =>
    rcases Int.lt_trichotomy x z with h | h | h
    · have n1 : (x == z) = false := by simp; omega
      have n2 : ¬ x = z := by omega
      go_wp2_with fail
      all_goals (go_meet; case rel => exact ⟨by first | rfl | (simp; done) | (simp; omega) | (simp; intro h1 h2; omega), HW⟩)
    · subst h
      rcases Int.lt_trichotomy M M' with h | h | h
      · have n1 : (M == M') = false := by simp; omega
        have n2 : ¬ M = M' := by omega
        go_wp2_with fail
        all_goals (go_meet; case rel => exact ⟨by first | rfl | (simp; done) | (simp; omega) | (simp; intro h1 h2; omega), HW⟩)
      · subst h
        go_wp2_with fail
        all_goals (go_meet; case rel => exact ⟨by first | rfl | (simp; done) | (simp; omega) | (simp; intro h1 h2; omega), HW⟩)
      · have n1 : (M == M') = false := by simp; omega
        have n2 : ¬ M = M' := by omega
        have n3 : ¬ M < M' := by omega
        go_wp2_with fail
        all_goals (go_meet; case rel => exact ⟨by first | rfl | (simp; done) | (simp; omega) | (simp; intro h1 h2; omega), HW⟩)
    · have n1 : (x == z) = false := by simp; omega
      have n2 : ¬ x = z := by omega
      have n3 : ¬ x < z := by omega
      go_wp2_with fail
      all_goals (go_meet; case rel => exact ⟨by first | rfl | (simp; done) | (simp; omega) | (simp; intro h1 h2; omega), HW⟩)
  case rest => as_aux_lemma =>
  clear HW F2
  obtain ⟨rfl, HW⟩ := hcut
  have j15 := keep_cell' HW k15
  have hb3 := back_number (a := id) (by omega)
  have q4 : (some id).getD 0 = id := rfl
  have q5 : (some id).isSome = true := rfl
  go_wp2_with (first | (go_at_call 14; refine (Number_any _ _ (by omega) (by omega)).mono ?_; rintro e w7 ⟨rfl, hB⟩; replace HW := HW.trans (hB.mono HW.size); clear hB j15; have j15 := keep_cell' HW k15) | (go_at_call 28; refine (ReadNumber_any _ _).mono ?_; rintro e w8 ⟨rfl, hB⟩; rw [hb3, q4, q5]; replace HW := HW.trans (hB.mono HW.size); clear hB j15; refine hold_here ?_))
  refine Lib.hid ?_
  clear hb3 q4 q5
  have j15 := keep_cell' HW k15
  have j25 := keep_cell' HW k25
  go_upto_region 14 with (fail)
  go_cut [193] (fun s W => s = .bool false ∧ Below w0.heap.size w0 W)
  case first => as_aux_lemma =>
    have F3 := number_less (a := id) (b := id') (by omega) (by omega)
    have n0 : (id != id) = false := by simp
    have HV := HW.drew
    go_region_held3 (fun w' => w'.cell? ⟨w.heap.size, 5, none⟩ = some (.int .u32 id) ∧ w'.cell? ⟨w.heap.size + 1, 5, none⟩ = some (.int .u32 id')) (exact ⟨keep_cell' HV k15, keep_cell' HV k25⟩) (first | (go_at_call 14; refine (Number_any _ _ (by omega) (by omega)).mono ?_; rintro e w9 ⟨rfl, hB⟩; replace HV := HV.trans (hB.mono HV.size); clear hB))
    all_goals (go_wp2_with fail; go_meet; case rel => exact ⟨by first | rfl | (simp; done) | (simp [F3]; done) | (rw [F3]; simp; done), HV⟩)
  case rest => as_aux_lemma =>
  clear HW j15 j25
  obtain ⟨rfl, HW⟩ := hcut
  go_wp2_with fail
  have HV := HW.drew
  go_region_held3 (fun w' => w'.cell? ⟨w.heap.size, 4, none⟩ = some (.string p) ∧ w'.cell? ⟨w.heap.size, 5, none⟩ = some (.int .u32 id) ∧ w'.cell? ⟨w.heap.size + 1, 5, none⟩ = some (.int .u32 id')) (exact ⟨keep_cell' HV k14, keep_cell' HV k15, keep_cell' HV k25⟩) (first | (go_at_call 12; refine (Person_any _ _ _ _ (by omega) (by omega) (hG0.below HV) hp).mono ?_; rintro e w9 ⟨rfl, hB⟩; replace HV := HV.trans (hB.mono HV.size); clear hB))
  clear HW
  have HW := HV
  clear HV
  have j14 := keep_cell' HW k14
  go_wp2_with (first | (go_at_call 29; refine (person_any _ _ hp (hG0.below HW)).mono ?_; rintro e wA ⟨rfl, hB⟩; replace HW := HW.trans (hB.mono HW.size); clear hB j14; refine hold_here ?_))
  refine Lib.hid ?_
  have j14 := keep_cell' HW k14
  cases hper : personB p.data.toList with
  | false => as_aux_lemma =>
    have z1 := person_nil (x := x) (a := id) hper
    have z2 := person_nil (x := x) (a := id') hper
    have z3 := persons_nil (x := x) hper
    go_wp2_with (first | (go_at_call 20; refine (Persons_any _ _ _ (hG0.below HW) hp).mono ?_; rintro e wA ⟨rfl, hB⟩; replace HW := HW.trans (hB.mono HW.size); clear hB j14; have j14 := keep_cell' HW k14; (try (clear j15 j25; have j15 := keep_cell' HW k15; have j25 := keep_cell' HW k25)); (try (clear j24; have j24 := keep_cell' HW k24))))
    go_returns
    exact ⟨rfl, HB0.trans (HW.mono HB0.size)⟩
  | true => as_aux_lemma =>
    have hb5 := back_person (p := p) hx (a := id) (by omega) hper
    have q6 : pe (some (x, p, id)) = x := rfl
    have q7 : pn (some (x, p, id)) = p := rfl
    have q8 : pi (some (x, p, id)) = id := rfl
    have q9 : (some (x, p, id)).isSome = true := rfl
    have HPER := Lib.hid hper
    clear hper
    go_wp2_with (first | (go_at_call 30; refine (ReadPerson_any _ _ (hG0.below HW) (by rw [mks]; exact kPerson_len' _ _ _)).mono ?_; rintro e wC ⟨he, hB⟩; rw [perV_eq] at he; unfold perV at he; rw [hb5, q6, q7, q8, q9] at he; subst he; replace HW := HW.trans (hB.mono HW.size); clear hB j14; refine hold_here ?_))
    refine Lib.hid ?_
    clear hb5 q6 q7 q8 q9
    have j14 := keep_cell' HW k14
    have j15 := keep_cell' HW k15
    have j25 := keep_cell' HW k25
    go_upto_region 20 with (fail)
    go_cut [268] (fun s W => s = .bool false ∧ Below w0.heap.size w0 W)
    case first => as_aux_lemma =>
      have F4 := person_less hx HPER.out (a := id) (b := id') (by omega) (by omega)
      have hbg : beginsB ⟨(kPersons x p.data.toList).toArray⟩ ⟨(kPerson x p.data.toList id).toArray⟩ = true := begins_own hx HPER.out
      go_wp2_with (first | (go_at_call 20; refine (Persons_any _ _ _ (hG0.below HW) hp).mono ?_; rintro e wA ⟨rfl, hB⟩; replace HW := HW.trans (hB.mono HW.size); clear hB j14; have j14 := keep_cell' HW k14; (try (clear j15 j25; have j15 := keep_cell' HW k15; have j25 := keep_cell' HW k25)); (try (clear j24; have j24 := keep_cell' HW k24))) | (go_at_call 24; refine (begins_any _ _ _ (by rw [mks]; exact kPerson_len' _ _ _) (by rw [mks]; exact kPersons_len' _ _)).mono ?_; rintro e wB ⟨rfl, rfl⟩))
      all_goals (go_meet; case rel => exact ⟨by first | rfl | (simp; done) | (simp; omega), HW⟩)
    case rest => as_aux_lemma =>
    clear HW j14 j15 j25
    obtain ⟨rfl, HW⟩ := hcut
    have j14 := keep_cell' HW k14
    have j24 := keep_cell' HW k24
    have j25 := keep_cell' HW k25
    cases hper2 : personB p'.data.toList with
    | false => as_aux_lemma =>
      have z1 := person_nil (x := z) (a := id') hper2
      go_wp2_with (first | (go_at_call 12; refine (Person_any _ _ _ _ (by omega) (by omega) (hG0.below HW) hp').mono ?_; rintro e w9 ⟨rfl, hB⟩; replace HW := HW.trans (hB.mono HW.size); clear hB j14 j24 j25))
      go_returns
      exact ⟨rfl, HB0.trans (HW.mono HB0.size)⟩
    | true => as_aux_lemma =>
      have hne := person_ne (x := z) (a := id') hz hper2
      have hne2 : (kPerson z p'.data.toList id').isEmpty = false := by simpa using hne
      have hbg : beginsB ⟨(kPersons x p.data.toList).toArray⟩ ⟨(kPerson z p'.data.toList id').toArray⟩ = (x == z && p.toList == p'.toList) := by rw [tl, tl]; exact begins_person hx hz HPER.out hper2
      clear hne
      go_wp2_with (first | (go_at_call 12; refine (Person_any _ _ _ _ (by omega) (by omega) (hG0.below HW) hp').mono ?_; rintro e w9 ⟨rfl, hB⟩; replace HW := HW.trans (hB.mono HW.size); clear hB j14 j24; have j14 := keep_cell' HW k14; have j24 := keep_cell' HW k24) | (go_at_call 20; refine (Persons_any _ _ _ (hG0.below HW) hp).mono ?_; rintro e wA ⟨rfl, hB⟩; replace HW := HW.trans (hB.mono HW.size); clear hB j14; have j14 := keep_cell' HW k14; (try (clear j15 j25; have j15 := keep_cell' HW k15; have j25 := keep_cell' HW k25)); (try (clear j24; have j24 := keep_cell' HW k24))) | (go_at_call 24; refine (begins_any _ _ _ (by rw [mks]; exact kPerson_len' _ _ _) (by rw [mks]; exact kPersons_len' _ _)).mono ?_; rintro e wB ⟨rfl, rfl⟩))
      all_goals go_returns
      all_goals refine ⟨?_, HB0.trans (HW.mono HB0.size)⟩
      all_goals first | rfl | (simp; done) | (simp [hbg]; done) | (rw [hbg]; simp; done) | (simp_all; done)
end Go.Proofs.YtdnnbnohemkfkaaDoor
