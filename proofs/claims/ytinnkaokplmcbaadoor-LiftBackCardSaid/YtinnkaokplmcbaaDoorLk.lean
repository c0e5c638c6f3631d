/- LiftBack: the walk. -/
import Derived.Test.YtinnkaokplmcbaaDoorLg
import Derived.Test.YtinnkaokplmcbaaDoorLh
import Derived.Test.YtinnkaokplmcbaaDoorLi
import Derived.Test.YtinnkaokplmcbaaDoorAt
namespace Go.Proofs.YtinnkaokplmcbaaDoor
open Go.RowKit
set_option linter.unusedVariables false

theorem mvs_short (l : List (Int × Int)) : (mvs l).length < 1000000 := by
  unfold mvs
  rw [List.length_map, List.length_take]
  omega

theorem toV_mvs (l : List (Int × Int)) (s : Int) : -1 ≤ toV (toM (mvs l) s) ∧ toV (toM (mvs l) s) ≤ 63 := by
  cases h : toM (mvs l) s with
  | none => simp [toV]
  | some x =>
    have hm := List.mem_of_find?_eq_some h
    unfold mvs at hm
    obtain ⟨y, _, rfl⟩ := List.mem_map.1 hm
    simp only [toV, mv1]
    omega

theorem mayR_parts {r : Rec} (h : mayR r = true) : 0 ≤ r.seat ∧ r.seat ≤ 63 ∧ r.was = -1 ∧ ∀ s, 0 ≤ s → s ≤ 63 → mayR { r with seat := s, was := -1 } = true := by
  simp only [mayR, Bool.and_eq_true, decide_eq_true_eq] at h
  obtain ⟨⟨⟨⟨⟨⟨⟨h1, h2⟩, h3⟩, h4⟩, h5⟩, h6⟩, h7⟩, h8⟩ := h
  refine ⟨h5, h6, h7, fun s hs0 hs1 => ?_⟩
  simp only [mayR, Bool.and_eq_true, decide_eq_true_eq]
  exact ⟨⟨⟨⟨⟨⟨⟨h1, h2⟩, h3⟩, h4⟩, hs0⟩, hs1⟩, trivial⟩, h8⟩

/-- A record that was lifted is let down as it was. -/
theorem lift_back {r : Rec} {l : List (Int × Int)} (h : mayR r = true) : upR r (mvs l) = ⟨r.hold, r.id, r.person, r.cls, toV (toM (mvs l) r.seat), r.seat, r.til⟩ ∧ upE r = 0 ∧
    may2 ⟨r.hold, r.id, r.person, r.cls, toV (toM (mvs l) r.seat), r.seat, r.til⟩ = true ∧ downR ⟨r.hold, r.id, r.person, r.cls, toV (toM (mvs l) r.seat), r.seat, r.til⟩ = r ∧ downE ⟨r.hold, r.id, r.person, r.cls, toV (toM (mvs l) r.seat), r.seat, r.til⟩ = 0 := by
  obtain ⟨h1, h2, h3, h4⟩ := mayR_parts h
  obtain ⟨t1, t2⟩ := toV_mvs l r.seat
  have hm : may2 ⟨r.hold, r.id, r.person, r.cls, toV (toM (mvs l) r.seat), r.seat, r.til⟩ = true := by
    have h5 := h4 0 (by omega) (by omega)
    simp only [may2, stB, Bool.and_eq_true, decide_eq_true_eq]
    exact ⟨⟨⟨t1, t2⟩, by omega, h2⟩, h5⟩
  have hn : ¬ r.seat = -1 := by omega
  refine ⟨by unfold upR; rw [if_pos h], by unfold upE; rw [if_pos h], hm, ?_, ?_⟩
  · unfold downR
    rw [if_pos hm, if_neg hn]
    obtain ⟨a, b, c, d, e, f, g⟩ := r
    simp only at h3
    subst h3
    rfl
  · unfold downE
    rw [if_pos hm, if_neg hn]

theorem row8 {w : World} {b : Nat} {v0 v1 v2 v3 v4 v5 v6 v7 : Value} {t : TypeId} (h : w.heap[b]? = some (.cells #[v0, v1, v2, v3, v4, v5, v6, v7] t (0, 0))) :
    w.cell? ⟨b, 0, none⟩ = some v0 ∧ w.cell? ⟨b, 1, none⟩ = some v1 ∧ w.cell? ⟨b, 2, none⟩ = some v2 ∧ w.cell? ⟨b, 3, none⟩ = some v3 ∧ w.cell? ⟨b, 4, none⟩ = some v4 ∧ w.cell? ⟨b, 5, none⟩ = some v5 ∧ w.cell? ⟨b, 6, none⟩ = some v6 ∧ w.cell? ⟨b, 7, none⟩ = some v7 ∧ w.frozen? ⟨b, 1, none⟩ = false := by
  refine ⟨?_, ?_, ?_, ?_, ?_, ?_, ?_, ?_, ?_⟩
  all_goals first | (rw [cell_of_row _ _ _ _ _ _ h]; rfl) | (simp [World.frozen?, h])

set_option maxRecDepth 100000 in
set_option maxHeartbeats 8000000 in
theorem back_any (hold second : Bool) (id cls seat was til odd : Int) (l : List (Int × Int)) (v : Value) (w : World) (hid : 0 ≤ id ∧ id < 65536) (hcls : 0 ≤ cls ∧ cls < 256) (hseat : -128 ≤ seat ∧ seat < 128) (hwas : -128 ≤ was ∧ was < 128) (htil : 0 ≤ til ∧ til < 18446744073709551616) (hodd : 0 ≤ odd ∧ odd < 256)
    (hv : RdU w v l) (hl : l.length ≤ maxLen) (hG : GP w) :
    Calls Tryd.prog 4 #[.agg #[.bool hold, .bool second, .int .u16 id, .int .u8 cls, .int .i8 seat, .int .i8 was, .int .u64 til, .int .u8 odd], v] w fun e w' => e = .returned (.bool true) ∧ Below w.heap.size w w' := by
  go_enter Tryd.func4, Tryd.ntmps4
  go_wp2_with fail
  have HA : Below w.heap.size w (w.alloc (.cells #[.bool hold, .bool second, .int .u16 id, .int .u8 cls, .int .i8 seat, .int .i8 was, .int .u64 til, .int .u8 odd] 29)) := (Below.refl _ _).alloc (Nat.le_refl _) _
  refine (works_any _ (hG.below HA)).mono ?_
  rintro e w1 ⟨rfl, hB⟩
  have rd := row_at hB
  have HB := bstep HA hB
  obtain ⟨k0, k1, k2, k3, k4, k5, k6, k7, f1⟩ := row8 rd
  clear hB HA
  go_wp2_with fail
  have HA : Below w1.heap.size w1 w1 := Below.refl _ _
  have HS : Below w.heap.size w (w1.setCell ⟨w.heap.size, 1, none⟩ (.bool false)) := HB.setCell (Nat.le_refl _) _
  refine (drafted_any hold false id cls seat was til odd _ hid hcls hseat hwas htil hodd).mono ?_
  rintro e w2 ⟨⟨r, rfl, hr, hmay⟩, hB⟩
  dsimp only [Rec.val]
  have hk : (w1.setCell ⟨w.heap.size, 1, none⟩ (.bool false)).cell? ⟨w.heap.size, 7, none⟩ = some (.int .u8 odd) := by rw [World.cell?_setCell_other (h := by simp)]; exact k7
  replace k7 := keep_cell hB hk
  replace HB := bstep HS hB
  clear hB HA HS hk k0 k1 k2 k3 k4 k5 k6 f1 rd
  go_wp2_with fail
  refine (moves_any l v _ (hv.below HB) hl).mono ?_
  rintro e w3 ⟨mv, rfl, hm, hB⟩
  replace k7 := keep_cell hB k7
  replace HB := bstep HB hB
  clear hB
  go_wp2_with fail
  obtain ⟨W3, hW3⟩ : ∃ W3, W3 = w3.alloc (.cells #[.bool r.hold, .int .u32 r.id, .string r.person, .int .i64 r.cls, .int .i64 r.seat, .int .i64 r.was, .int .u64 r.til] 25) := ⟨_, rfl⟩
  have HA : Below w3.heap.size w3 W3 := by rw [hW3]; exact (Below.refl _ _).alloc (Nat.le_refl _) _
  have a5 : At W3 w3.heap.size r := by rw [hW3]; exact At.new w3 r _
  rw [← hW3]
  clear hW3
  generalize w3.heap.size = b5 at a5 ⊢
  replace k7 := keep_cell HA k7
  replace HB := bstep HB HA
  replace hm := hm.below HA
  clear HA
  refine (Up_any r (mvs l) mv _ hr (hG.below HB) hm (mvs_short l)).mono ?_
  rintro e w4 ⟨rfl, hB⟩
  replace a5 := At.keep hB a5
  replace k7 := keep_cell hB k7
  replace HB := bstep HB hB
  replace hm := hm.below hB
  clear hB
  cases hM : mayR r with
  | false =>
    have ho : Hid ((odd % 16 != 0) = true) := by
      show (odd % 16 != 0) = true
      simp only [bne_iff_ne, ne_eq]
      intro h
      have := hmay (by first | rfl | trivial) h
      rw [hM] at this
      cases this
    obtain ⟨e1, e2⟩ := upR_no (m := mvs l) hM
    have q0 := fun W => rec_eql zeroR W
    dsimp only [Rec.val, zeroR] at q0
    rw [e1, e2]
    dsimp only [Rec.val, zeroR]
    have k7a := fun o => alloc_cell k7 o
    clear hM e1 e2 hmay
    go_wp2_with fail
    go_ret
    exact ⟨by rw [ho.out]; rfl, HB.alloc HB.size _⟩
  | true =>
    obtain ⟨e1, e2, e3, e4, e5⟩ := lift_back (l := l) hM
    have oka : Rec.Ok ⟨r.hold, r.id, r.person, r.cls, toV (toM (mvs l) r.seat), r.seat, r.til⟩ := ⟨hr.id0, hr.id1, hr.til0, hr.til1, hr.size⟩
    rw [e1, e2]
    dsimp only [Rec.val]
    clear e1 e2 hM hmay k7
    go_wp2_with fail
    obtain ⟨W4, hW4⟩ : ∃ W4, W4 = w4.alloc (.cells #[.bool r.hold, .int .u32 r.id, .string r.person, .int .i64 r.cls, .int .i64 (toV (toM (mvs l) r.seat)), .int .i64 r.seat, .int .u64 r.til] 25) := ⟨_, rfl⟩
    have HA : Below w4.heap.size w4 W4 := by rw [hW4]; exact (Below.refl _ _).alloc (Nat.le_refl _) _
    have a7 : At W4 w4.heap.size ⟨r.hold, r.id, r.person, r.cls, toV (toM (mvs l) r.seat), r.seat, r.til⟩ := by rw [hW4]; exact At.new w4 ⟨r.hold, r.id, r.person, r.cls, toV (toM (mvs l) r.seat), r.seat, r.til⟩ _
    rw [← hW4]
    clear hW4
    generalize w4.heap.size = b7 at a7 ⊢
    replace a5 := At.keep HA a5
    replace HB := bstep HB HA
    replace hm := hm.below HA
    clear HA
    refine (Down_any ⟨r.hold, r.id, r.person, r.cls, toV (toM (mvs l) r.seat), r.seat, r.til⟩ _ oka (hG.below HB)).mono ?_
    rintro e w5 ⟨rfl, hB⟩
    rw [e4, e5]
    dsimp only [Rec.val]
    replace a5 := At.keep hB a5
    replace a7 := At.keep hB a7
    replace HB := bstep HB hB
    replace hm := hm.below hB
    clear hB e4 e5
    have k4 := fun o => alloc_cell a5.2.2.2.2.1 o
    go_wp2_with fail
    clear k4
    obtain ⟨W5, hW5⟩ : ∃ W5, W5 = w5.alloc (.cells #[.bool r.hold, .int .u32 r.id, .string r.person, .int .i64 r.cls, .int .i64 r.seat, .int .i64 r.was, .int .u64 r.til] 25) := ⟨_, rfl⟩
    have HA : Below w5.heap.size w5 W5 := by rw [hW5]; exact (Below.refl _ _).alloc (Nat.le_refl _) _
    have a9 : At W5 w5.heap.size r := by rw [hW5]; exact At.new w5 r _
    rw [← hW5]
    clear hW5
    generalize w5.heap.size = b9 at a9 ⊢
    replace a5 := At.keep HA a5
    replace a7 := At.keep HA a7
    replace HB := bstep HB HA
    replace hm := hm.below HA
    clear HA
    refine (to_any (mvs l) mv r.seat _ hm (mvs_short l)).mono ?_
    rintro e w6 ⟨rfl, hB⟩
    replace a5 := At.keep hB a5
    replace a7 := At.keep hB a7
    replace a9 := At.keep hB a9
    replace HB := bstep HB hB
    clear hB hm
    have q := fun W => rec_eql r W
    dsimp only [Rec.val] at q
    have hx := fun W hG => May_any ⟨r.hold, r.id, r.person, r.cls, toV (toM (mvs l) r.seat), r.seat, r.til⟩ W oka hG
    rw [e3] at hx
    clear e3
    obtain ⟨p0, p1, p2, p3, p4, p5, p6⟩ := a5
    obtain ⟨s0, s1, s2, s3, s4, s5, s6⟩ := a7
    obtain ⟨z0, z1, z2, z3, z4, z5, z6⟩ := a9
    dsimp only at s0 s1 s2 s3 s4 s5 s6
    cases ht : toM (mvs l) r.seat with
    | none =>
      rw [ht] at hx s4
      simp only [toV] at hx s4
      simp only [toV, Option.isSome]
      clear ht
      go_wp2_with (go_at_call 14; refine (hx _ (hG.below HB)).mono ?_; rintro e w7 ⟨rfl, hB⟩; replace p0 := keep_cell hB p0; replace p1 := keep_cell hB p1; replace p2 := keep_cell hB p2; replace p3 := keep_cell hB p3; replace p4 := keep_cell hB p4; replace p5 := keep_cell hB p5; replace p6 := keep_cell hB p6; replace s0 := keep_cell hB s0; replace s1 := keep_cell hB s1; replace s2 := keep_cell hB s2; replace s3 := keep_cell hB s3; replace s4 := keep_cell hB s4; replace s5 := keep_cell hB s5; replace s6 := keep_cell hB s6; replace HB := bstep HB hB; clear hB)
      go_ret
      exact ⟨rfl, HB⟩
    | some x =>
      rw [ht] at hx s4
      simp only [toV] at hx s4
      simp only [toV, Option.isSome]
      clear ht
      go_wp2_with (go_at_call 14; refine (hx _ (hG.below HB)).mono ?_; rintro e w7 ⟨rfl, hB⟩; replace p0 := keep_cell hB p0; replace p1 := keep_cell hB p1; replace p2 := keep_cell hB p2; replace p3 := keep_cell hB p3; replace p4 := keep_cell hB p4; replace p5 := keep_cell hB p5; replace p6 := keep_cell hB p6; replace s0 := keep_cell hB s0; replace s1 := keep_cell hB s1; replace s2 := keep_cell hB s2; replace s3 := keep_cell hB s3; replace s4 := keep_cell hB s4; replace s5 := keep_cell hB s5; replace s6 := keep_cell hB s6; replace HB := bstep HB hB; clear hB)
      go_ret
      exact ⟨rfl, HB⟩
end Go.Proofs.YtinnkaokplmcbaaDoor
