/- fixed.P8, P32, PText. -/
import Derived.Test.YtbnnemiiodhjbaaDoorA
namespace Go.Proofs.YtbnnemiiodhjbaaDoor
open Go.RowKit

set_option maxHeartbeats 1000000 in
theorem P8_any (v : Value) (l : List UInt8) (y : Int) (w : World) (hv : RdB w v l) (h0 : 0 ≤ y) (h1 : y < 256) (hl : l.length < 1000000) :
    Calls Tryd.prog 17 #[v, .int .u8 y] w fun e w' => ∃ v1, e = .returned v1 ∧ w'.ownsRow w.heap.size 5 1 v1 (l ++ beB 1 y.toNat).length (bv (l ++ beB 1 y.toNat)) ∧ Below w.heap.size w w' := by
  go_enter Tryd.func17, Tryd.ntmps17
  go_wp2_with (go_at_call 29; refine (lay8 _ l _ _ hv h0 h1 hl).mono ?_; rintro e w' ⟨v1, rfl, hown, hB⟩)
  go_ret
  exact ⟨v1, rfl, hown, hB⟩

set_option maxHeartbeats 1000000 in
theorem P32_any (v : Value) (l : List UInt8) (y : Int) (w : World) (hv : RdB w v l) (h0 : 0 ≤ y) (h1 : y < 4294967296) (hl : l.length < 1000000) :
    Calls Tryd.prog 28 #[v, .int .u32 y] w fun e w' => ∃ v1, e = .returned v1 ∧ w'.ownsRow w.heap.size 5 1 v1 (l ++ beB 4 y.toNat).length (bv (l ++ beB 4 y.toNat)) ∧ Below w.heap.size w w' := by
  go_enter Tryd.func28, Tryd.ntmps28
  go_wp2_with (go_at_call 42; refine (lay32 _ l _ _ hv h0 h1 hl).mono ?_; rintro e w' ⟨v1, rfl, hown, hB⟩)
  go_ret
  exact ⟨v1, rfl, hown, hB⟩

/-- What PText lays. -/
def textB (s : List UInt8) : List UInt8 := if s.length ≤ 255 then UInt8.ofNat s.length :: s else []

set_option maxHeartbeats 2000000 in
theorem PText_any (v : Value) (l : List UInt8) (s : ByteArray) (w : World) (hv : RdB w v l) (hs : s.size ≤ 140737488351232) (hl : l.length < 1000000) :
    Calls Tryd.prog 10 #[v, .string s] w fun e w' => ∃ v1, e = .returned v1 ∧ w'.ownsRow w.heap.size 5 1 v1 (l ++ textB s.data.toList).length (bv (l ++ textB s.data.toList)) ∧ Below w.heap.size w w' := by
  have hsz : s.data.toList.length = s.size := by rw [Array.length_toList]; rfl
  by_cases h : 255 < (s.size : Int)
  · have e0 : l ++ textB s.data.toList = [] ++ l := by unfold textB; rw [if_neg (by omega)]; simp
    rw [e0]
    clear e0 hsz
    go_enter Tryd.func10, Tryd.ntmps10
    go_wp2_with (at_builtin; go_loud (refine own_append_slice w.heap.size rfl (.const (.slice none 0 0)) (.tmp 8) 22 5 rfl Tryd.underlying22 info_u8 (.slice none 0 0) [] rfl v l rfl (World.ownsRow_nil _ _ _ _) hv (Below.refl _ _) (Nat.le_refl _) (by simp; omega) ?_); intro v1 w1 hown hB)
    go_ret
    exact ⟨v1, rfl, hown, hB⟩
  · have e0 : l ++ textB s.data.toList = (l ++ beB 1 ((s.size : Int)).toNat) ++ s.data.toList := by
      unfold textB
      rw [if_pos (by omega), hsz]
      simp [beB, Nat.mod_eq_of_lt (show s.size < 256 by omega)]
    rw [e0]
    clear e0
    have h' : (s.size : Int) ≤ 255 := by omega
    clear h
    go_enter Tryd.func10, Tryd.ntmps10
    go_wp2_with (first | (go_at_call 29; refine (lay8 _ l _ _ hv (by omega) (by omega) hl).mono ?_; rintro e w' ⟨v1, rfl, hown, hB⟩) | (at_builtin; go_loud (refine own_append_str w.heap.size rfl (.tmp 14) (.tmp 15) 22 5 9 rfl Tryd.underlying22 Tryd.underlying9 info_u8 _ _ rfl s rfl hown hB hB.size (by simp [beB]; omega) ?_); intro v2 w2 hown2 hB2))
    go_ret
    exact ⟨v2, rfl, hown2, hB2⟩
end Go.Proofs.YtbnnemiiodhjbaaDoor
