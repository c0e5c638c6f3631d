/- Moves: where a seat goes. -/
import Derived.Test.YtinnkaokplmcbaaDoorLa
namespace Go.Proofs.YtinnkaokplmcbaaDoor
open Go.RowKit
set_option linter.unusedVariables false

/-- The value v is a slice that reads as these moves. -/
def RdM (w : World) (v : Value) (m : List (Int × Int)) : Prop :=
  ∃ (A : Option (Nat × Nat)) (c : Nat), v = .slice (A.map fun p => ⟨p.1, p.2, none⟩) m.length c ∧ m.length ≤ c ∧ (A = none → c = 0) ∧
    ∀ p, A = some p → ∀ (j : Nat) (x : Int × Int), m[j]? = some x → w.cell? ⟨p.1, p.2 + j * 2, none⟩ = some (.int .i64 x.1) ∧ w.cell? ⟨p.1, p.2 + j * 2 + 1, none⟩ = some (.int .i64 x.2)
theorem RdM.nil (w : World) : RdM w (.slice none 0 0) [] := ⟨none, 0, rfl, Nat.le_refl _, fun _ => rfl, fun _ h => by cases h⟩
theorem RdM.below {w w1 : World} {v : Value} {m : List (Int × Int)} (h : RdM w v m) (hb : Below w.heap.size w w1) : RdM w1 v m := by
  obtain ⟨A, c, e, h1, h2, h3⟩ := h
  exact ⟨A, c, e, h1, h2, fun p hp j x hx => ⟨keep_cell hb (h3 p hp j x hx).1, keep_cell hb (h3 p hp j x hx).2⟩⟩

theorem RdM.opn {w : World} {v : Value} {m : List (Int × Int)} (h : RdM w v m) : ∃ (a : Option Addr) (c : Nat), v = .slice a m.length c ∧ m.length ≤ c ∧
    ∀ (k : Nat) (x : Int × Int), m[k]? = some x → ∃ b o, a = some ⟨b, o, none⟩ ∧ w.cell? ⟨b, o + k * 2, none⟩ = some (.int .i64 x.1) ∧ w.cell? ⟨b, o + k * 2 + 1, none⟩ = some (.int .i64 x.2) := by
  obtain ⟨A, c, rfl, h1, h2, h3⟩ := h
  refine ⟨_, c, rfl, h1, fun k x hx => ?_⟩
  cases A with
  | none =>
    have := (List.getElem?_eq_some_iff.1 hx).1
    have := h2 rfl
    omega
  | some p => exact ⟨p.1, p.2, rfl, h3 p rfl k x hx⟩

/-- Where a seat goes. -/
def toM (m : List (Int × Int)) (s : Int) : Option (Int × Int) := m.find? (fun x => x.1 == s)
def idxM (m : List (Int × Int)) (s : Int) : Option Nat := m.findIdx? (fun x => x.1 == s)
def noM (m : List (Int × Int)) (s : Int) : Bool := m.all (fun x => !(x.1 == s))

theorem noM_succ {m : List (Int × Int)} {k : Nat} {x : Int × Int} {s : Int} (hx : m[k]? = some x) (h : noM (m.take k) s = true) (hn : x.1 ≠ s) : noM (m.take (k + 1)) s = true := by
  unfold noM at *
  rw [List.take_add_one, hx, List.all_append, h]
  simp [hn]
theorem toM_hit {m : List (Int × Int)} {k : Nat} {x : Int × Int} {s : Int} (hx : m[k]? = some x) (h : noM (m.take k) s = true) (hs : x.1 = s) : toM m s = some x := by
  have hl := (List.getElem?_eq_some_iff.1 hx)
  obtain ⟨hlt, hxe⟩ := hl
  unfold toM
  rw [List.find?_eq_some_iff_getElem]
  refine ⟨by simp [hs], k, hlt, hxe, fun j hj => ?_⟩
  unfold noM at h
  rw [List.all_eq_true] at h
  have := h (m[j]) (by rw [List.mem_take_iff_getElem]; exact ⟨j, by omega, rfl⟩)
  exact this
theorem toM_none {m : List (Int × Int)} {s : Int} (h : noM m s = true) : toM m s = none := by
  unfold toM
  rw [List.find?_eq_none]
  unfold noM at h
  rw [List.all_eq_true] at h
  intro x hx
  have := h x hx
  simpa using this
theorem idxM_hit {m : List (Int × Int)} {k : Nat} {x : Int × Int} {s : Int} (hx : m[k]? = some x) (h : noM (m.take k) s = true) (hs : x.1 = s) : idxM m s = some k := by
  obtain ⟨hlt, hxe⟩ := List.getElem?_eq_some_iff.1 hx
  unfold idxM
  rw [List.findIdx?_eq_some_iff_getElem]
  refine ⟨hlt, by rw [hxe]; simp [hs], fun j hj => ?_⟩
  unfold noM at h
  rw [List.all_eq_true] at h
  have := h (m[j]) (by rw [List.mem_take_iff_getElem]; exact ⟨j, by omega, rfl⟩)
  simpa using this
theorem idxM_none {m : List (Int × Int)} {s : Int} (h : noM m s = true) : idxM m s = none := by
  unfold idxM
  rw [List.findIdx?_eq_none_iff]
  unfold noM at h
  rw [List.all_eq_true] at h
  intro x hx
  have := h x hx
  simpa using this
theorem idxM_toM {m : List (Int × Int)} {s : Int} {k : Nat} (h : idxM m s = some k) : ∃ x, m[k]? = some x ∧ toM m s = some x := by
  unfold idxM at h
  rw [List.findIdx?_eq_some_iff_getElem] at h
  obtain ⟨hlt, h1, h2⟩ := h
  refine ⟨m[k], List.getElem?_eq_getElem hlt, ?_⟩
  unfold toM
  rw [List.find?_eq_some_iff_getElem]
  refine ⟨h1, k, hlt, rfl, fun j hj => ?_⟩
  simpa using h2 j hj
theorem idxM_toM_none {m : List (Int × Int)} {s : Int} (h : idxM m s = none) : toM m s = none := by
  unfold idxM at h
  rw [List.findIdx?_eq_none_iff] at h
  unfold toM
  rw [List.find?_eq_none]
  intro x hx
  have := h x hx
  simpa using this

def toV (o : Option (Int × Int)) : Int := match o with | some x => x.2 | none => -1

def idxV (o : Option Nat) : Int := match o with | some k => (k : Int) | none => -1

set_option maxRecDepth 100000 in
set_option maxHeartbeats 4000000 in
theorem rto_any (m : List (Int × Int)) (v : Value) (s : Int) (w : World) (hv : RdM w v m) (hl : m.length < 1000000) :
    Calls Tryd.prog 27 #[v, .int .i64 s] w fun e w' => e = .returned (.tuple #[.int .i64 (toV (toM m s)), .bool (toM m s).isSome]) ∧ w' = w := by
  obtain ⟨A, c, rfl, hc, hn, hr⟩ := hv
  have HR := Lib.hid hr
  clear hr
  go_enter Tryd.func27, Tryd.ntmps27
  go_wp2_with fail
  go_loop [6] (fun i => ∃ k : Nat, k ≤ m.length ∧ i = .int .i64 k ∧ Hid (noM (m.take k) s = true)) (fun i => m.length - (intOf i).toNat)
  case atStart => exact ⟨0, Nat.zero_le _, rfl, rfl⟩
  case round =>
    obtain ⟨k, hk, rfl, hno⟩ := hrel
    by_cases hkl : k < m.length
    · obtain ⟨p, rfl⟩ : ∃ p, A = some p := by
        cases A with
        | none => exact absurd (hn rfl) (by omega)
        | some p => exact ⟨p, rfl⟩
      obtain ⟨x, hx⟩ : ∃ x, m[k]? = some x := ⟨m[k], List.getElem?_eq_getElem hkl⟩
      obtain ⟨c0, c1⟩ := HR.out p rfl k x hx
      have hx1 : Hid (m[k]? = some x) := hx
      clear hx
      by_cases hs : x.1 = s
      · have HE : Hid (toM m s = some x) := toM_hit hx1.out hno.out hs
        go_wp2
        go_ret2
        exact ⟨by rw [HE.out]; rfl, rfl⟩
      · have HN : Hid (noM (m.take (k + 1)) s = true) := noM_succ hx1.out hno.out hs
        go_wp2
        go_round
        case rel => exact ⟨k + 1, by omega, by go_num, HN⟩
        case measure => simp [intOf]; omega
    · have HE : Hid (toM m s = none) := by
        have h2 := hno.out
        rw [List.take_of_length_le (by omega)] at h2
        exact toM_none h2
      go_wp2
      go_ret2
      exact ⟨by rw [HE.out]; rfl, rfl⟩

set_option maxHeartbeats 1000000 in
theorem to1_any (x : Int × Int) (b : Nat) (s : Int) (w : World) (hc : w.cell? ⟨b, 0, none⟩ = some (.int .i64 s)) :
    Calls Tryd.prog 32 #[.agg #[.int .i64 x.1, .int .i64 x.2], .pointer (some ⟨b, 0, none⟩)] w fun e w' => e = .returned (.bool (x.1 == s)) ∧ Below w.heap.size w w' := by
  have hc' := keep_cell ((Below.refl w.heap.size w).alloc (Nat.le_refl _) (.cells #[.int .i64 x.1, .int .i64 x.2] 56)) hc
  go_enter Tryd.func32, Tryd.ntmps32
  go_wp2
  go_ret
  exact ⟨rfl, by go_grown⟩

set_option maxRecDepth 100000 in
set_option maxHeartbeats 4000000 in
theorem index_any (m : List (Int × Int)) (v : Value) (b : Nat) (s : Int) (w : World) (hv : RdM w v m) (hl : m.length < 1000000) (hb : w.cell? ⟨b, 0, none⟩ = some (.int .i64 s)) :
    Calls Tryd.prog 31 #[v, .func (.func 32) #[] #[.pointer (some ⟨b, 0, none⟩)]] w fun e w' => e = .returned (.int .i64 (idxV (idxM m s))) ∧ Below w.heap.size w w' := by
  have hen := fun args W => enters Tryd.func32 (by kernel_rfl) rfl args W
  obtain ⟨a, c, rfl, hc, hr⟩ := hv.opn
  clear hv
  have HR := Lib.hid hr
  clear hr
  go_enter Tryd.func31, Tryd.ntmps31
  go_wp2_with fail
  go_loopw [8] (fun i wr => ∃ k : Nat, k ≤ m.length ∧ i = .int .i64 k ∧ Hid (noM (m.take k) s = true) ∧ Below w.heap.size w wr) (fun i _ => m.length - (intOf i).toNat)
  case atStart => exact ⟨0, Nat.zero_le _, rfl, rfl, Below.refl _ _⟩
  case round =>
    obtain ⟨k, hk, rfl, hno, HB⟩ := hrel
    by_cases hkl : k < m.length
    · obtain ⟨x, hx⟩ : ∃ x, m[k]? = some x := ⟨m[k], List.getElem?_eq_getElem hkl⟩
      obtain ⟨bb, oo, rfl, c0, c1⟩ := HR.out k x hx
      have d0 := keep_cell HB c0
      have d1 := keep_cell HB c1
      have hx1 : Hid (m[k]? = some x) := hx
      clear hx c0 c1
      have hbr := keep_cell HB hb
      by_cases hs : x.1 = s
      · have HE : Hid (idxM m s = some k) := idxM_hit hx1.out hno.out hs
        have hse : (x.1 == s) = true := by simpa using hs
        clear hs
        go_wp2_with (go_at_call 32; refine (to1_any x b s _ hbr).mono ?_; rw [hse]; rintro e w' ⟨rfl, hB⟩; replace HB := bstep HB hB; clear hB)
        go_ret
        exact ⟨by rw [HE.out]; rfl, HB⟩
      · have HN : Hid (noM (m.take (k + 1)) s = true) := noM_succ hx1.out hno.out hs
        have hse : (x.1 == s) = false := by simpa using hs
        clear hs
        go_wp2_with (go_at_call 32; refine (to1_any x b s _ hbr).mono ?_; rw [hse]; rintro e w' ⟨rfl, hB⟩; replace HB := bstep HB hB; clear hB)
        go_roundw
        case rel => exact ⟨k + 1, by omega, by go_num, HN, HB⟩
        case measure => simp [intOf]; omega
    · have HE : Hid (idxM m s = none) := by
        have h2 := hno.out
        rw [List.take_of_length_le (by omega)] at h2
        exact idxM_none h2
      go_wp2
      go_ret
      exact ⟨by rw [HE.out]; rfl, HB⟩

set_option maxRecDepth 100000 in
set_option maxHeartbeats 2000000 in
theorem to_any (m : List (Int × Int)) (v : Value) (s : Int) (w : World) (hv : RdM w v m) (hl : m.length < 1000000) :
    Calls Tryd.prog 17 #[v, .int .i64 s] w fun e w' => e = .returned (.tuple #[.int .i64 (toV (toM m s)), .bool (toM m s).isSome]) ∧ Below w.heap.size w w' := by
  have HB : Below w.heap.size w (w.alloc (.cells #[.int .i64 s] 3)) := (Below.refl _ _).alloc (Nat.le_refl _) _
  have hv1 := hv.below HB
  have hb : (w.alloc (.cells #[.int .i64 s] 3)).cell? ⟨w.heap.size, 0, none⟩ = some (.int .i64 s) := cell_of_row _ _ 0 _ _ _ (heap_alloc_new w _)
  have hi := index_any m v w.heap.size s _ hv1 hl hb
  cases hix : idxM m s with
  | none =>
    have HE : Hid (toM m s = none) := idxM_toM_none hix
    simp only [hix, idxV] at hi
    clear hix
    obtain ⟨A, c, rfl, hc, hn, hr⟩ := hv
    clear hr hv1
    go_enter Tryd.func17, Tryd.ntmps17
    go_wp2_with (go_at_call 31; refine hi.mono ?_; rintro e w' ⟨rfl, hB⟩; replace HB := bstep HB hB; clear hB)
    go_ret2
    exact ⟨by rw [HE.out]; rfl, HB⟩
  | some k =>
    obtain ⟨x, hx, ht⟩ := idxM_toM hix
    have HE : Hid (toM m s = some x) := ht
    simp only [hix, idxV] at hi
    clear hix ht
    have hkl := (List.getElem?_eq_some_iff.1 hx).1
    obtain ⟨A, c, rfl, hc, hn, hr⟩ := hv
    obtain ⟨p, rfl⟩ : ∃ p, A = some p := by
      cases A with
      | none => exact absurd (hn rfl) (by omega)
      | some p => exact ⟨p, rfl⟩
    obtain ⟨c0, c1⟩ := hr p rfl k x hx
    clear hr hv1 hx
    go_enter Tryd.func17, Tryd.ntmps17
    go_wp2_with (go_at_call 31; refine hi.mono ?_; rintro e w' ⟨rfl, hB⟩; replace HB := bstep HB hB; have d1 := keep_cell HB c1; clear hB)
    go_ret2
    exact ⟨by rw [HE.out]; rfl, HB⟩
end Go.Proofs.YtinnkaokplmcbaaDoor
