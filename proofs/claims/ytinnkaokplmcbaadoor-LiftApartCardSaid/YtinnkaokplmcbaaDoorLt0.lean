/- Lists of records, as they are drawn, with their classes from 0 on. -/
import Derived.Test.YtinnkaokplmcbaaDoorLs1
namespace Go.Proofs.YtinnkaokplmcbaaDoor
open Go.RowKit
set_option linter.unusedVariables false

set_option maxRecDepth 100000 in
set_option maxHeartbeats 8000000 in
/-- A record, as it is drawn. -/
theorem drafted2_any (hold second : Bool) (id cls seat was til odd : Int) (w : World) (hid : 0 ≤ id ∧ id < 65536) (hcls : 0 ≤ cls ∧ cls < 256) (hseat : -128 ≤ seat ∧ seat < 128) (hwas : -128 ≤ was ∧ was < 128) (htil : 0 ≤ til ∧ til < 18446744073709551616) (hodd : 0 ≤ odd ∧ odd < 256) :
    Calls Tryd.prog 8 #[.agg #[.bool hold, .bool second, .int .u16 id, .int .u8 cls, .int .i8 seat, .int .i8 was, .int .u64 til, .int .u8 odd]] w fun e w' => (∃ r : Rec, e = .returned r.val ∧ r.Ok ∧ 0 ≤ r.cls) ∧ Below w.heap.size w w' := by
  have hp : personB (ByteArray.mk #[112]).data.toList = true := by decide
  have HP := Lib.hid hp
  clear hp
  go_enter Tryd.func8, Tryd.ntmps8
  cases hold <;> cases second
  all_goals go_wp2
  all_goals go_returns
  all_goals refine ⟨?_, by go_grown⟩
  all_goals exact ⟨⟨_, _, _, _, _, _, _⟩, rfl, ⟨by dsimp only; omega, by dsimp only; omega, by dsimp only; omega, by dsimp only; omega, by dsimp only; decide⟩, by dsimp only; omega⟩

theorem ok2_snoc {rs : List Rec} {r : Rec} (h : ∀ z ∈ rs, z.Ok ∧ 0 ≤ z.cls) (hr : r.Ok ∧ 0 ≤ r.cls) : Hid (∀ z ∈ rs ++ [r], z.Ok ∧ 0 ≤ z.cls) := by
  intro z hz
  rcases List.mem_append.1 hz with k | k
  · exact h z k
  · have e : z = r := by simpa using k
    rw [e]
    exact hr

set_option maxRecDepth 100000 in
set_option maxHeartbeats 4000000 in
theorem recs2_any (l : List Dr) (v : Value) (w : World) (hv : RdD w v l) (hl : l.length ≤ maxLen) :
    Calls Tryd.prog 18 #[v] w fun e w' => ∃ (v1 : Value) (rs : List Rec), e = .returned v1 ∧ w'.ownsRow w.heap.size 25 7 v1 rs.length (rs.flatMap recC) ∧ rs.length ≤ 40 ∧ (∀ r ∈ rs, r.Ok ∧ 0 ≤ r.cls) ∧ Below w.heap.size w w' := by
  obtain ⟨a, c, rfl, hc, hr⟩ := hv
  have HR := Lib.hid hr
  clear hr
  unfold maxLen at hl
  go_enter Tryd.func18, Tryd.ntmps18
  go_wp2_with fail
  go_loopw [3, 4] (fun oo i wr => ∃ (k : Nat) (rs : List Rec), k ≤ l.length ∧ k ≤ 40 ∧ i = .int .i64 k ∧ Hid (rs.length = k) ∧ Hid (∀ r ∈ rs, r.Ok ∧ 0 ≤ r.cls) ∧ wr.ownsRow w.heap.size 25 7 oo k (rs.flatMap recC) ∧ Below w.heap.size w wr) (fun _ i _ => l.length - (intOf i).toNat)
  case atStart => exact ⟨0, [], Nat.zero_le _, Nat.zero_le _, rfl, rfl, (fun r hr => by cases hr), by simpa using World.ownsRow_nil w w.heap.size 25 7, Below.refl _ _⟩
  case round =>
    obtain ⟨k, rs, hk, hk2, rfl, hlen, hok, HO, HB⟩ := hrel
    by_cases hg : k < l.length ∧ k < 40
    · obtain ⟨hkl, hk40⟩ := hg
      obtain ⟨x, hx⟩ : ∃ x, l[k]? = some x := ⟨l[k], List.getElem?_eq_getElem hkl⟩
      obtain ⟨hxo, b, o, rfl, hcs⟩ := HR.out k x hx
      have c0 := keep_cell HB (hcs 0 _ rfl)
      have c1 := keep_cell HB (hcs 1 _ rfl)
      have c2 := keep_cell HB (hcs 2 _ rfl)
      have c3 := keep_cell HB (hcs 3 _ rfl)
      have c4 := keep_cell HB (hcs 4 _ rfl)
      have c5 := keep_cell HB (hcs 5 _ rfl)
      have c6 := keep_cell HB (hcs 6 _ rfl)
      have c7 := keep_cell HB (hcs 7 _ rfl)
      rw [Nat.add_zero] at c0
      clear hx hcs
      go_wp2_with (first | (go_at_call 8; refine (drafted2_any _ _ _ _ _ _ _ _ _ hxo.id hxo.cls hxo.seat hxo.was hxo.til hxo.odd).mono ?_; rintro e w1 ⟨⟨r, rfl, hro⟩, hB⟩) | (at_builtin; go_loud (refine own_append_box w.heap.size rfl (.tmp 15) (.tmp 21) 46 25 rfl Tryd.underlying46 info_rec rfl (by decide) _ k _ #[.bool r.hold, .int .u32 r.id, .string r.person, .int .i64 r.cls, .int .i64 r.seat, .int .i64 r.was, .int .u64 r.til] rfl (by simp [Value.oneCell']) rfl rfl (own_kept HO hB) (HB.trans (hB.mono HB.size)) (Nat.le_trans HB.size hB.size) (by omega) (by omega) ?_); intro v1 w2 hown hB2 hsz2))
      exact ⟨⟨k + 1, rs ++ [r], by omega, by omega, by go_num, len_snoc hlen.out, ok2_snoc hok.out hro, by rw [List.flatMap_append, List.flatMap_singleton]; exact hown, hB2⟩, by simp [intOf]; omega⟩
    · go_wp2_with fail
      all_goals
        go_ret
        refine ⟨_, rs, rfl, (by rw [hlen.out]; exact HO), by rw [hlen.out]; exact hk2, hok.out, HB⟩
end Go.Proofs.YtinnkaokplmcbaaDoor
