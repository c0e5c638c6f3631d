/- What is drawn: records, and moves. -/
import Derived.Test.YtinnkaokplmcbaaDoorLa
import Derived.Test.YtinnkaokplmcbaaDoorLc
import Derived.Test.YtinnkaokplmcbaaDoorAp
import Derived.Deep.RegionHeld3
namespace Go.Proofs.YtinnkaokplmcbaaDoor
open Go.RowKit
set_option linter.unusedVariables false

/-- The value v is a slice that reads as these pairs of bytes. -/
def RdU (w : World) (v : Value) (l : List (Int × Int)) : Prop :=
  ∃ (a : Option Addr) (c : Nat), v = .slice a l.length c ∧ l.length ≤ c ∧
    ∀ (k : Nat) (x : Int × Int), l[k]? = some x → (0 ≤ x.1 ∧ x.1 < 256 ∧ 0 ≤ x.2 ∧ x.2 < 256) ∧ ∃ b o, a = some ⟨b, o, none⟩ ∧ w.cell? ⟨b, o + k * 2, none⟩ = some (.int .u8 x.1) ∧ w.cell? ⟨b, o + k * 2 + 1, none⟩ = some (.int .u8 x.2)
theorem RdU.below {w w1 : World} {v : Value} {l : List (Int × Int)} (h : RdU w v l) (hb : Below w.heap.size w w1) : RdU w1 v l := by
  obtain ⟨a, c, e, h1, h2⟩ := h
  refine ⟨a, c, e, h1, fun k x hx => ?_⟩
  obtain ⟨h3, b, o, h4, h5, h6⟩ := h2 k x hx
  exact ⟨h3, b, o, h4, keep_cell hb h5, keep_cell hb h6⟩

def mv1 (x : Int × Int) : Int × Int := (x.1 % 64, x.2 % 64)
/-- The moves that pairs of bytes are. -/
def mvs (l : List (Int × Int)) : List (Int × Int) := (l.take 30).map mv1
def mvC (x : Int × Int) : List Value := [.int .i64 x.1, .int .i64 x.2]

theorem wrap_mod64 (x : Int) (h0 : 0 ≤ x) (h1 : x < 100000) : IntKind.i64.wrap (x.tmod 64) = x % 64 := by
  rw [Int.tmod_eq_emod_of_nonneg h0]
  simp only [IntKind.wrap_i64]
  omega

theorem info_mv : (Tryd.prog.info? 56).map (fun i => (i.zero, i.size, i.bytes)) = some (some (.agg #[.int .i64 0, .int .i64 0]), 2, 16) := by kernel_rfl

theorem RdM.own {w : World} {base : Nat} {e : TypeId} {v : Value} {m : List (Int × Int)} (h : w.ownsRow base e 2 v m.length (m.flatMap mvC)) : RdM w v m := by
  rcases own_cells h with ⟨h1, h2⟩ | ⟨g, c, h1, h2, _, h3⟩
  · obtain rfl := List.eq_nil_of_length_eq_zero h2
    subst h1
    exact RdM.nil w
  · refine ⟨some (g, 0), c, h1, h2, (fun h => by cases h), fun p hp j x hx => ?_⟩
    obtain rfl : (g, 0) = p := by simpa using hp
    have f0 := flat_at mvC 2 (fun _ => rfl) 0 (by omega) m j x hx
    have f1 := flat_at mvC 2 (fun _ => rfl) 1 (by omega) m j x hx
    rw [Nat.zero_add]
    exact ⟨h3 _ _ f0, h3 _ _ f1⟩

theorem mvs_take {l : List (Int × Int)} {k : Nat} {x : Int × Int} (hx : l[k]? = some x) : ((l.take (k + 1)).map mv1).flatMap mvC = ((l.take k).map mv1).flatMap mvC ++ [.int .i64 (x.1 % 64), .int .i64 (x.2 % 64)] := by
  rw [List.take_add_one, hx, List.map_append, List.flatMap_append]
  rfl

set_option maxRecDepth 100000 in
set_option maxHeartbeats 4000000 in
theorem moves_any (l : List (Int × Int)) (v : Value) (w : World) (hv : RdU w v l) (hl : l.length ≤ maxLen) :
    Calls Tryd.prog 10 #[v] w fun e w' => ∃ v1, e = .returned v1 ∧ RdM w' v1 (mvs l) ∧ Below w.heap.size w w' := by
  obtain ⟨a, c, rfl, hc, hr⟩ := hv
  have HR := Lib.hid hr
  clear hr
  go_enter Tryd.func10, Tryd.ntmps10
  go_wp2_with fail
  go_loopw [3, 4] (fun oo i wr => ∃ k : Nat, k ≤ l.length ∧ k ≤ 30 ∧ i = .int .i64 k ∧ wr.ownsRow w.heap.size 56 2 oo k (((l.take k).map mv1).flatMap mvC) ∧ Below w.heap.size w wr) (fun _ i _ => l.length - (intOf i).toNat)
  case atStart => exact ⟨0, Nat.zero_le _, Nat.zero_le _, rfl, by simpa using World.ownsRow_nil w w.heap.size 56 2, Below.refl _ _⟩
  case round =>
    obtain ⟨k, hk, hk2, rfl, HO, HB⟩ := hrel
    by_cases hkl : k < l.length
    · by_cases hk30 : k < 30
      · obtain ⟨x, hx⟩ : ∃ x, l[k]? = some x := ⟨l[k], List.getElem?_eq_getElem hkl⟩
        obtain ⟨⟨hb0, hb1, hb2, hb3⟩, b, o, rfl, c0, c1⟩ := HR.out k x hx
        have d0 := keep_cell HB c0
        have d1 := keep_cell HB c1
        have HT : Hid (((l.take (k + 1)).map mv1).flatMap mvC = ((l.take k).map mv1).flatMap mvC ++ [.int .i64 (x.1 % 64), .int .i64 (x.2 % 64)]) := mvs_take hx
        have H0 := Lib.hid c0
        have H1 := Lib.hid c1
        clear hx c0 c1
        have hw1 : Hid (IntKind.i64.wrap (x.1.tmod 64) = x.1 % 64) := wrap_mod64 _ hb0 (by omega)
        have hw2 : Hid (IntKind.i64.wrap (x.2.tmod 64) = x.2 % 64) := wrap_mod64 _ hb2 (by omega)
        have HA : Below wr.heap.size wr (wr.alloc (.cells #[.int .i64 (IntKind.i64.wrap (x.1.tmod 64)), .int .i64 (IntKind.i64.wrap (x.2.tmod 64))] 56)).drew := by
          have h := (Below.refl wr.heap.size wr).alloc (Nat.le_refl _) (.cells #[.int .i64 (IntKind.i64.wrap (x.1.tmod 64)), .int .i64 (IntKind.i64.wrap (x.2.tmod 64))] 56)
          exact ⟨h.os, h.tape, h.output, h.size, h.block⟩
        have HBA := bstep HB HA
        have hblk : (wr.alloc (.cells #[.int .i64 (IntKind.i64.wrap (x.1.tmod 64)), .int .i64 (IntKind.i64.wrap (x.2.tmod 64))] 56)).drew.heap[wr.heap.size]? = some (.cells #[.int .i64 (IntKind.i64.wrap (x.1.tmod 64)), .int .i64 (IntKind.i64.wrap (x.2.tmod 64))] 56 (0, 0)) := heap_alloc_new wr _
        have HOA := own_kept HO HA
        have hsz := HBA.size
        go_wp2_with fail
        go_region_held3 (fun w' => w'.cell? ⟨b, o + k * 2, none⟩ = some (.int .u8 x.1) ∧ w'.cell? ⟨b, o + k * 2 + 1, none⟩ = some (.int .u8 x.2)) (first | go_keep | (exact ⟨keep_cell HA d0, keep_cell HA d1⟩) | (exact ⟨keep_cell hB1 H0.out, keep_cell hB1 H1.out⟩)) (first | (refine step_append_box w.heap.size rfl (.tmp 15) (.tmp 31) 36 56 rfl Tryd.underlying36 info_mv rfl (by decide) _ k _ #[.int .i64 (IntKind.i64.wrap (x.1.tmod 64)), .int .i64 (IntKind.i64.wrap (x.2.tmod 64))] rfl (by simp [Value.oneCell']) rfl rfl hblk HOA HBA hsz (by omega) (by omega) ?_; intro v1 w1 hown hB1 hsz1))
        go_wp2_with fail
        go_roundw
        case rel => exact ⟨k + 1, by omega, by omega, by go_num, by rw [HT.out, ← hw1.out, ← hw2.out]; exact hown, hB1⟩
        case measure => simp [intOf]; omega
      · have hke : Hid (((l.take k).map mv1) = mvs l) := by
          have : k = 30 := by omega
          subst this
          rfl
        have hm : (mvs l).length = k := by rw [← hke.out]; simp; omega
        go_wp2_with fail
        go_ret
        refine ⟨_, rfl, RdM.own (base := w.heap.size) (e := 56) ?_, HB⟩
        rw [hm, ← hke.out]
        exact HO
    · have hke : Hid (((l.take k).map mv1) = mvs l) := by
        show _ = (l.take 30).map mv1
        rw [List.take_of_length_le (by omega), List.take_of_length_le (by omega)]
      have hm : (mvs l).length = k := by rw [← hke.out]; simp; omega
      go_wp2_with fail
      go_ret
      refine ⟨_, rfl, RdM.own (base := w.heap.size) (e := 56) ?_, HB⟩
      rw [hm, ← hke.out]
      exact HO
end Go.Proofs.YtinnkaokplmcbaaDoor
