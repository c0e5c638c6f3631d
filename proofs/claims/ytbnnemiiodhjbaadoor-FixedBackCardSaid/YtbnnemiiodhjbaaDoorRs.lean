/- fixed's reader: what each call gives, in one contract a call. -/
import Derived.Test.YtbnnemiiodhjbaaDoorTx
namespace Go.Proofs.YtbnnemiiodhjbaaDoor
open Go.RowKit
set_option linter.unusedVariables false

/-- A reader at p, whose count can't overflow. -/
structure Rdr (w : World) (p : Nat) (q : ByteArray) (t : Int) : Prop where
  r : RdR w p q t
  h0 : 0 ≤ t
  h1 : t + q.size < 9223372036854775807
theorem Rdr.lt {w : World} {p : Nat} {q : ByteArray} {t : Int} (h : Rdr w p q t) : p < w.heap.size := World.block_lt_of_cell? w _ h.r.c0
theorem Rdr.keep {w W : World} {p : Nat} {q : ByteArray} {t : Int} (h : Rdr w p q t) (hB : Below w.heap.size w W) : Rdr W p q t := ⟨h.r.keep hB, h.h0, h.h1⟩
/-- A fault lies at a. -/
def FaultAt (w : World) (a : Nat) (c t : Int) : Prop := w.cell? ⟨a, 0, none⟩ = some (.int .i64 c) ∧ w.cell? ⟨a, 1, none⟩ = some (.int .i64 t)
theorem FaultAt.keep {w W : World} {a : Nat} {c t : Int} (h : FaultAt w a c t) (hB : Below w.heap.size w W) : FaultAt W a c t := ⟨keep_cell' hB h.1, keep_cell' hB h.2⟩
theorem FaultAt.new (w : World) (c t : Int) (T : TypeId) : FaultAt (w.alloc (.cells #[.int .i64 c, .int .i64 t] T)) w.heap.size c t :=
  ⟨cell_of_row _ _ 0 _ _ _ (heap_alloc_new w _), cell_of_row _ _ 1 _ _ _ (heap_alloc_new w _)⟩

theorem extract_drop (q : ByteArray) (n : Nat) : q.extract n q.size = dropB q n := by
  apply ByteArray.ext
  rw [← Array.toList_inj, Lib.extract_data]
  have hsz : q.data.toList.length = q.size := by rw [Array.length_toList]; rfl
  simp only [dropB, List.toList_toArray]
  rw [List.take_of_length_le (by rw [List.length_drop, hsz]; exact Nat.le_refl _)]

/-- What reading a number of n bytes gives. -/
def NumP (n B p : Nat) (q : ByteArray) (t : Int) (w0 w : World) (zero good : Value) (e : Ending) (w' : World) : Prop :=
  (q.size < n ∧ ∃ a, e = .returned (.tuple #[zero, .iface 81 (.pointer (some ⟨a, 0, none⟩))]) ∧ FaultAt w' a 3 t ∧ Rdr w' p q t ∧ w.grownBy w' (some p) ∧ Below B w0 w') ∨
  (n ≤ q.size ∧ e = .returned (.tuple #[good, .nilIface]) ∧ Rdr w' p (dropB q n) (t + n) ∧ w.grownBy w' (some p) ∧ Below B w0 w')

theorem Rdr.drop {w : World} {p : Nat} {q : ByteArray} {t : Int} {n : Nat} (h : RdR w p (dropB q n) (t + n)) (h0 : 0 ≤ t) (h1 : t + q.size < 9223372036854775807) (hn : n ≤ q.size) : Rdr w p (dropB q n) (t + n) :=
  ⟨h, by omega, by rw [dropB_size]; omega⟩

theorem num_no {n B p : Nat} {q : ByteArray} {t : Int} {w0 w w' : World} {zero good : Value} {e : Ending} (HB : Below B w0 w) (hp : B ≤ p) (hr : Rdr w p q t) (hs : q.size < n)
    (he : e = .returned (.tuple #[zero, FV w.heap.size])) (hw : w' = w.alloc (.cells #[.int .i64 3, .int .i64 t] 35)) : NumP n B p q t w0 w zero good e w' := by
  subst hw
  have hb : Below w.heap.size w (w.alloc (.cells #[.int .i64 3, .int .i64 t] 35)) := (Below.refl _ _).alloc (Nat.le_refl _) _
  exact .inl ⟨hs, _, he, FaultAt.new _ _ _ _, hr.keep hb, grown_below hb _, HB.trans (hb.mono (Nat.le_trans hp (Nat.le_of_lt hr.lt)))⟩

theorem U8_all {B p : Nat} {q : ByteArray} {t : Int} {w0 w : World} (HB : Below B w0 w) (hp : B ≤ p) (hr : Rdr w p q t) : Calls Tryd.prog 13 #[.pointer (some ⟨p, 0, none⟩)] w (NumP 1 B p q t w0 w (.int .u8 0) (.int .u8 (be1 q))) := by
  by_cases hs : q.size < 1
  · exact (U8_no p q t w hr.r hs).mono fun e w' ⟨he, hw⟩ => num_no HB hp hr hs he hw
  · have h0 := hr.h0
    have h1 := hr.h1
    exact (U8_is p q t w hr.r (by omega) hr.lt (by omega)).mono fun e w' ⟨he, hr2, hB⟩ => .inr ⟨by omega, he, Rdr.drop hr2 hr.h0 hr.h1 (by omega), hB, below_grown HB hB hp hr.lt⟩
theorem U32_all {B p : Nat} {q : ByteArray} {t : Int} {w0 w : World} (HB : Below B w0 w) (hp : B ≤ p) (hr : Rdr w p q t) : Calls Tryd.prog 39 #[.pointer (some ⟨p, 0, none⟩)] w (NumP 4 B p q t w0 w (.int .u32 0) (.int .u32 (be4 q))) := by
  by_cases hs : q.size < 4
  · exact (U32_no p q t w hr.r hs).mono fun e w' ⟨he, hw⟩ => num_no HB hp hr hs he hw
  · have h0 := hr.h0
    have h1 := hr.h1
    exact (U32_is p q t w hr.r (by omega) hr.lt (by omega)).mono fun e w' ⟨he, hr2, hB⟩ => .inr ⟨by omega, he, Rdr.drop hr2 hr.h0 hr.h1 (by omega), hB, below_grown HB hB hp hr.lt⟩

/-- What comes ahead. -/
def AheadP (n : Nat) (q : ByteArray) (t : Int) (w : World) (e : Ending) (w' : World) : Prop :=
  (q.size < n ∧ e = .returned (.tuple #[.string ⟨#[]⟩, .iface 81 (.pointer (some ⟨w.heap.size, 0, none⟩))]) ∧ w' = w.alloc (.cells #[.int .i64 3, .int .i64 t] 35)) ∨
  (n ≤ q.size ∧ e = .returned (.tuple #[.string (takeB q n), .nilIface]) ∧ w' = w)
theorem ahead_all (p : Nat) (q : ByteArray) (t : Int) (n : Nat) (w : World) (hr : RdR w p q t) : Calls Tryd.prog 34 #[.pointer (some ⟨p, 0, none⟩), .int .i64 n] w (AheadP n q t w) := by
  by_cases hs : q.size < n
  · exact (ahead_no p q t n w hr hs).mono fun e w' ⟨he, hw⟩ => .inl ⟨hs, he, hw⟩
  · exact (ahead_is p q t n w hr (by omega)).mono fun e w' ⟨he, hw⟩ => .inr ⟨by omega, he, hw⟩

/-- How long a text's bytes are, with their length. -/
def tLen (q : ByteArray) : Nat := (be1 q).toNat + 1
/-- The text. -/
def tText (q : ByteArray) : ByteArray := dropB (takeB q (tLen q)) 1
/-- What is wrong with it: 0: nothing. -/
def tCode (most : Int) (q : ByteArray) : Int := if most < 0 then 2 else if q.size < 1 then 3 else if most < be1 q then 4 else if q.size < tLen q then 3 else 0

def TextP (most : Int) (B p : Nat) (q : ByteArray) (t : Int) (w0 w : World) (e : Ending) (w' : World) : Prop :=
  (tCode most q ≠ 0 ∧ ∃ a, e = .returned (.tuple #[.string ⟨#[]⟩, .iface 81 (.pointer (some ⟨a, 0, none⟩))]) ∧ FaultAt w' a (tCode most q) t ∧ Rdr w' p q t ∧ w.grownBy w' (some p) ∧ Below B w0 w') ∨
  (tCode most q = 0 ∧ tLen q ≤ q.size ∧ e = .returned (.tuple #[.string (tText q), .nilIface]) ∧ Rdr w' p (dropB q (tLen q)) (t + tLen q) ∧ w.grownBy w' (some p) ∧ Below B w0 w')

theorem tText_eq (q : ByteArray) (n : Nat) (h : tLen q = n) : tText q = (takeB q n).extract 1 (takeB q n).size := by
  rw [extract_drop, ← h]; rfl

theorem text_no {B p : Nat} {most c : Int} {q : ByteArray} {t : Int} {w0 w : World} (HB : Below B w0 w) (hp : B ≤ p) (hr : Rdr w p q t) (hc : tCode most q = c) (h0 : c ≠ 0) :
    TextP most B p q t w0 w (.returned (.tuple #[.string ⟨#[]⟩, .iface 81 (.pointer (some ⟨w.heap.size, 0, none⟩))])) (w.alloc (.cells #[.int .i64 c, .int .i64 t] 35)) := by
  have hb : Below w.heap.size w (w.alloc (.cells #[.int .i64 c, .int .i64 t] 35)) := (Below.refl _ _).alloc (Nat.le_refl _) _
  exact .inl ⟨by rw [hc]; exact h0, _, rfl, by rw [hc]; exact FaultAt.new _ _ _ _, hr.keep hb, grown_below hb _, HB.trans (hb.mono (Nat.le_trans hp (Nat.le_of_lt hr.lt)))⟩

set_option maxRecDepth 100000 in
set_option maxHeartbeats 4000000 in
theorem Text_all {most : Int} {B p : Nat} {q : ByteArray} {t : Int} {w0 w : World} (HB : Below B w0 w) (hp : B ≤ p) (hr : Rdr w p q t) : Calls Tryd.prog 15 #[.pointer (some ⟨p, 0, none⟩), .int .i64 most] w (TextP most B p q t w0 w) := by
  have hb := be1_bounds q
  have hR := hr
  obtain ⟨hr, ht0, ht1⟩ := hr
  by_cases hm : most < 0
  · have HC : Hid (tCode most q = 2) := if_pos hm
    go_enter Tryd.func15, Tryd.ntmps15
    go_wp2_with (go_at_call 33; refine (wrong_any p q t 2 _ hr).mono ?_; rintro e w' ⟨rfl, rfl⟩; dsimp only [FV])
    go_ret2
    exact text_no HB hp hR HC.out (by decide)
  · obtain ⟨n, hn⟩ : ∃ n : Nat, 1 + be1 q = (n : Int) := ⟨(1 + be1 q).toNat, by omega⟩
    have HN : Hid (tLen q = n) := by show tLen q = n; unfold tLen; omega
    have HC : Hid (tCode most q = if q.size < 1 then 3 else if most < be1 q then 4 else if q.size < n then 3 else 0) := by
      show tCode most q = _
      unfold tCode
      rw [if_neg hm, HN.out]
    have HT : Hid (tText q = (takeB q n).extract 1 (takeB q n).size) := tText_eq q n HN.out
    go_enter Tryd.func15, Tryd.ntmps15
    go_wp2_with fail
    refine (ahead_all p q t 1 _ hr).mono ?_
    rintro e w' (⟨hs, rfl, rfl⟩ | ⟨hs, rfl, rfl⟩)
    · go_wp2_with fail
      go_ret2
      exact text_no HB hp hR (by rw [HC.out, if_pos hs]) (by decide)
    · have hix := index_head q hs
      go_wp2_with (go_at_call 33; refine (wrong_any p q t 4 _ hr).mono ?_; rintro e w' ⟨rfl, rfl⟩; dsimp only [FV])
      · go_ret2
        exact text_no HB hp hR (by rw [HC.out, if_neg (by omega), if_pos (by assumption)]) (by decide)
      · refine (ahead_all p q t n _ hr).mono ?_
        rintro e w2 (⟨hs2, rfl, rfl⟩ | ⟨hs2, rfl, rfl⟩)
        · have hi := is_fault w'.heap.size 3 _ (FaultAt.new w' 3 t 35).1
          dsimp only [ErrV] at hi
          go_wp2_with (go_at_call 35; refine hi.mono ?_; rintro e w3 ⟨rfl, rfl⟩)
          go_ret2
          exact text_no HB hp hR (by rw [HC.out, if_neg (by omega), if_neg (by omega), if_pos hs2]) (by decide)
        · have hts := takeB_size q n hs2
          go_wp2_with (first | (go_at_call 35; refine (is_nil 3 _).mono ?_; rintro e w3 ⟨rfl, rfl⟩) | (go_at_call 36; refine (skip_any p q t n _ hr hs2 (by omega)).mono ?_; rintro e w4 ⟨rfl, hr4, hB4, hs4⟩))
          go_ret2
          have hc : tCode most q = 0 := by rw [HC.out, if_neg (by omega), if_neg (by omega), if_neg (by omega)]
          refine .inr ⟨hc, by rw [HN.out]; exact hs2, by rw [HT.out, hts]; rfl, by rw [HN.out]; exact Rdr.drop hr4 ht0 ht1 hs2, hB4, below_grown HB hB4 hp hR.lt⟩
end Go.Proofs.YtbnnemiiodhjbaaDoor
