/- keys.ReadPerson, ReadSeat. -/
import Derived.Test.YtdnnbnohemkfkaaDoorQ1
import Derived.Test.YtdnnbnohemkfkaaDoorP8
import Derived.Test.YtdnnbnohemkfkaaDoorFw
namespace Go.Proofs.YtdnnbnohemkfkaaDoor
open Go.RowKit
set_option linter.unusedVariables false

/-- What a person's key is of. -/
def pRest (q : ByteArray) : ByteArray := dropB (dropB q 1) (tLen (dropB q 1))
def isPerson (q : ByteArray) : Prop := 1 ≤ q.size ∧ tCode 24 (dropB q 1) = 0 ∧ 4 ≤ (pRest q).size ∧ q.toList = kPerson (be1 q) (tText (dropB q 1)).data.toList (be4 (pRest q))
instance (q : ByteArray) : Decidable (isPerson q) := by unfold isPerson; infer_instance

theorem Rdr.start {w : World} {p : Nat} {q : ByteArray} (h : RdR w p q 0) (hq : q.size ≤ 140737488351232) : Rdr w p q 0 := ⟨h, by omega, by omega⟩
set_option maxRecDepth 100000 in
set_option maxHeartbeats 4000000 in
theorem ReadPerson_any (q : ByteArray) (w : World) (hG : GP w) (hq : q.size ≤ 140737488351232) : Calls Tryd.prog 30 #[.string q] w fun e w' =>
    (e = .returned (if isPerson q then .tuple #[.int .i64 (be1 q), .string (tText (dropB q 1)), .int .u32 (be4 (pRest q)), .bool true] else .tuple #[.int .i64 0, .string ⟨#[]⟩, .int .u32 0, .bool false])) ∧ Below w.heap.size w w' := by
  have HB := Below.refl w.heap.size w
  have hb := be1_bounds q
  go_enter Tryd.func30, Tryd.ntmps30
  go_wp2_with fail
  have hz : (tText (dropB q 1)).size ≤ 140737488351232 := by
    unfold tText
    rw [dropB_size]
    have : (takeB (dropB q 1) (tLen (dropB q 1))).size ≤ (dropB q 1).size := by show (List.take _ _).toArray.size ≤ _; rw [List.size_toArray, List.length_take, size_toList]; omega
    rw [dropB_size] at this
    omega
  refine wp_scope_fwd 0 rfl ?_
  go_wp2_with (first | (go_at_call 46; refine (New_any _ _).mono ?_; rintro e w1 ⟨rfl, hr, hB, hs⟩; have hp := HB.size; replace HB := HB.trans (hB.mono hp); clear hB hs; replace hr := Rdr.start hr (by assumption)) | (go_at_call 47; refine (U8_all HB hp hr).mono ?_; clear HB hr; rintro e w1 (⟨hs1, a, rfl, hf, hr, hg, HB⟩ | ⟨hs1, rfl, hr, hg, HB⟩)) | (go_at_call 52; refine (Text_all HB hp hr).mono ?_; clear HB hr; rintro e w1 (⟨hsT, a, rfl, hf, hr, hg, HB⟩ | ⟨hsT, hlT, rfl, hr, hg, HB⟩)) | (go_at_call 48; refine (U32_all HB hp hr).mono ?_; clear HB hr; rintro e w1 (⟨hs4, a, rfl, hf, hr, hg, HB⟩ | ⟨hs4, rfl, hr, hg, HB⟩)) | (go_at_call 12; refine (Person_any _ _ _ _ (be4_bounds _).1 (be4_bounds _).2 (hG.below HB) (by assumption)).mono ?_; rintro e w1 ⟨rfl, hB⟩; replace HB := HB.trans (hB.mono HB.size); clear hB))
  all_goals (first | (go_step3; refine ⟨rfl, ?_⟩) | skip)
  go_wp2
  all_goals (first | go_step3 | skip)
  go_wp2
  all_goals (first | rw [Exit.noGoto_ret] | rw [fwd_ret])
  all_goals (repeat go_big_open)
  all_goals go_returns
  all_goals (refine ⟨?_, HB⟩)
  · rw [if_neg (by rintro ⟨g1, g2, g3, g4⟩; omega)]
  · rw [if_neg (by rintro ⟨g1, g2, g3, g4⟩; exact hsT g2)]
  · rw [if_neg (by rintro ⟨g1, g2, g3, g4⟩; unfold pRest at g3; omega)]
  · rename_i h; rw [if_pos ⟨hs1, hsT, hs4, by unfold pRest; simpa using h⟩]; rfl
  · rename_i h; rw [if_neg (by rintro ⟨g1, g2, g3, g4⟩; unfold pRest at g4; rw [← g4] at h; simp at h)]
end Go.Proofs.YtdnnbnohemkfkaaDoor
