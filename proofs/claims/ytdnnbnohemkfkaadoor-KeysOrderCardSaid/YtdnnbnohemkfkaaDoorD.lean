/- keys: the pieces of keys. -/
import Derived.Test.YtdnnbnohemkfkaaDoorB
import Derived.Test.YtdnnbnohemkfkaaDoorC
import Derived.Deep.RegionHeld3
namespace Go.Proofs.YtdnnbnohemkfkaaDoor
open Go.RowKit

/-- f lays the bytes bs behind what there is, and says ok. -/
def IsPiece (w0 : World) (f : Value) (bs : List UInt8) (ok : Bool) : Prop :=
  ∃ fid cap, f = .func (.func fid) #[] cap ∧ (∀ args w, (callFunc fid args).run Tryd.prog w = .ok (.enter fid args) w) ∧ ∀ v l w, RdB w v l → l.length < 900000 → Below w0.heap.size w0 w →
    Calls Tryd.prog fid (#[v] ++ cap) w fun e w' => ∃ v1, e = .returned (.tuple #[v1, .bool ok]) ∧ RdB w' v1 (l ++ bs) ∧ Below w.heap.size w w'

set_option maxHeartbeats 2000000 in
theorem number1_any (b1 : Nat) (n : Int) (v : Value) (l : List UInt8) (w : World) (h1 : w.cell? ⟨b1, 0, none⟩ = some (.int .u32 n)) (hn0 : 0 ≤ n) (hn1 : n < 4294967296) (hv : RdB w v l) (hl : l.length < 900000) :
    Calls Tryd.prog 54 #[v, .pointer (some ⟨b1, 0, none⟩)] w fun e w' => ∃ v1, e = .returned (.tuple #[v1, .bool true]) ∧ RdB w' v1 (l ++ beB 4 n.toNat) ∧ Below w.heap.size w w' := by
  go_enter Tryd.func54, Tryd.ntmps54
  go_wp2_with (go_at_call 55; refine (P32_any _ l _ _ hv hn0 hn1 (by omega)).mono ?_; rintro e w' ⟨v1, rfl, hown, hB⟩)
  go_ret2
  exact ⟨v1, rfl, RdB.own hown, hB⟩

set_option maxRecDepth 100000 in
set_option maxHeartbeats 8000000 in
theorem within1_any (b1 b2 b3 : Nat) (n least most : Int) (v : Value) (l : List UInt8) (w : World) (h1 : w.cell? ⟨b1, 0, none⟩ = some (.int .i64 n)) (h2 : w.cell? ⟨b2, 0, none⟩ = some (.int .i64 least)) (h3 : w.cell? ⟨b3, 0, none⟩ = some (.int .i64 most)) (hv : RdB w v l) (hl : l.length < 900000) :
    Calls Tryd.prog 66 #[v, .pointer (some ⟨b1, 0, none⟩), .pointer (some ⟨b2, 0, none⟩), .pointer (some ⟨b3, 0, none⟩)] w fun e w' => ∃ v1, e = .returned (.tuple #[v1, .bool (decide (least ≤ n ∧ n ≤ most))]) ∧ RdB w' v1 (l ++ beB 1 (n % 256).toNat) ∧ Below w.heap.size w w' := by
  by_cases hg : least ≤ n
  · have hg' : decide (least ≤ n) = true := by simpa using hg
    go_enter Tryd.func66, Tryd.ntmps66
    go_wp2_with fail
    go_region_held3 (fun w' => w'.cell? ⟨b1, 0, none⟩ = some (.int .i64 n) ∧ w'.cell? ⟨b2, 0, none⟩ = some (.int .i64 least) ∧ w'.cell? ⟨b3, 0, none⟩ = some (.int .i64 most)) (first | go_keep | (refine ⟨?_, ?_, ?_⟩; exact (hB.cell (World.block_lt_of_cell? w _ h1)).trans h1; exact (hB.cell (World.block_lt_of_cell? w _ h2)).trans h2; exact (hB.cell (World.block_lt_of_cell? w _ h3)).trans h3))
      (first | (go_at_call 67; refine (P8_any _ l _ _ hv.drew ?_ ?_ (by omega)).mono ?_; (first | omega | (simp only [IntKind.wrap_u8]; omega)); (first | omega | (simp only [IntKind.wrap_u8]; omega)); rintro e w' ⟨v1, rfl, hown, hB⟩))
    go_wp2
    go_ret2
    refine ⟨v1, ?_, ?_, of_drew hB⟩
    · have e1 : decide (least ≤ n ∧ n ≤ most) = decide (n ≤ most) := by simp [hg]
      rw [e1]
      rfl
    · have := RdB.own hown
      simpa only [IntKind.wrap_u8] using this
  · have hg' : decide (least ≤ n) = false := by simpa using hg
    go_enter Tryd.func66, Tryd.ntmps66
    go_wp2_with fail
    go_region_with (go_at_call 67; refine (P8_any _ l _ _ hv.drew ?_ ?_ (by omega)).mono ?_; (first | omega | (simp only [IntKind.wrap_u8]; omega)); (first | omega | (simp only [IntKind.wrap_u8]; omega)); rintro e w' ⟨v1, rfl, hown, hB⟩; have hB := of_drew hB; have h1' := (hB.cell (World.block_lt_of_cell? w _ h1)).trans h1; have h2' := (hB.cell (World.block_lt_of_cell? w _ h2)).trans h2; have h3' := (hB.cell (World.block_lt_of_cell? w _ h3)).trans h3)
    all_goals go_wp2
    all_goals go_ret2
    all_goals
      have e1 : decide (least ≤ n ∧ n ≤ most) = false := by simp; omega
      rw [e1]
      have e2 := RdB.own hown
      simp only [IntKind.wrap_u8] at e2
      exact ⟨v1, rfl, by first | exact e2 | exact e2.below (by go_grown), by first | exact hB | go_grown⟩

end Go.Proofs.YtdnnbnohemkfkaaDoor
