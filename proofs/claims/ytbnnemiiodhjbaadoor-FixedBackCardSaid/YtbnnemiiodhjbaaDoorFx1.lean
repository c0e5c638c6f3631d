/- The reader of layer 1 by functions: what each call gives, and where it goes on. -/
import Derived.Test.YtbnnemiiodhjbaaDoorRs
import Derived.Test.YtbnnemiiodhjbaaDoorU16
import Derived.Test.YtbnnemiiodhjbaaDoorU64
namespace Go.Proofs.YtbnnemiiodhjbaaDoor
open Go.RowKit
set_option linter.unusedVariables false
set_option linter.unusedSimpArgs false

/-- A number of bytes, the highest first. -/
def foldB (l : List UInt8) : Nat := l.foldl (fun a b => a * 256 + b.toNat) 0
def beN (n : Nat) (q : ByteArray) : Int := ((foldB (q.data.toList.take n) : Nat) : Int)
theorem be1_eq (q : ByteArray) (h : 1 ≤ q.size) : be1 q = beN 1 q := by
  have hl : 1 ≤ q.data.toList.length := by rw [Array.length_toList]; exact h
  unfold be1 beN
  generalize q.data.toList = l at hl
  match l, hl with
  | b0 :: r, _ => simp [foldB]
theorem be2_eq (q : ByteArray) (h : 2 ≤ q.size) : be2 q = beN 2 q := by
  have hl : 2 ≤ q.data.toList.length := by rw [Array.length_toList]; exact h
  unfold be2 beN
  generalize q.data.toList = l at hl
  match l, hl with
  | b0 :: b1 :: r, _ => simp [foldB]
theorem be4_eq (q : ByteArray) (h : 4 ≤ q.size) : be4 q = beN 4 q := by
  have hl : 4 ≤ q.data.toList.length := by rw [Array.length_toList]; exact h
  unfold be4 beN
  generalize q.data.toList = l at hl
  match l, hl with
  | b0 :: b1 :: b2 :: b3 :: r, _ => simp [foldB]
theorem be8_eq (q : ByteArray) (h : 8 ≤ q.size) : be8 q = beN 8 q := by
  have hl : 8 ≤ q.data.toList.length := by rw [Array.length_toList]; exact h
  unfold be8 beN
  generalize q.data.toList = l at hl
  match l, hl with
  | b0 :: b1 :: b2 :: b3 :: b4 :: b5 :: b6 :: b7 :: r, _ => simp [foldB]
theorem be4_bounds (q : ByteArray) : 0 ≤ be4 q ∧ be4 q < 4294967296 := by
  unfold be4
  have h0 := (q.data.toList.getD 0 0).toNat_lt
  have h1 := (q.data.toList.getD 1 0).toNat_lt
  have h2 := (q.data.toList.getD 2 0).toNat_lt
  have h3 := (q.data.toList.getD 3 0).toNat_lt
  omega
theorem U16_all {B p : Nat} {q : ByteArray} {t : Int} {w0 w : World} (HB : Below B w0 w) (hp : B ≤ p) (hr : Rdr w p q t) : Calls Tryd.prog 30 #[.pointer (some ⟨p, 0, none⟩)] w (NumP 2 B p q t w0 w (.int .u16 0) (.int .u16 (be2 q))) := by
  by_cases hs : q.size < 2
  · exact (U16_no p q t w hr.r hs).mono fun e w' ⟨he, hw⟩ => num_no HB hp hr hs he hw
  · have h0 := hr.h0
    have h1 := hr.h1
    exact (U16_is p q t w hr.r (by omega) hr.lt (by omega)).mono fun e w' ⟨he, hr2, hB⟩ => .inr ⟨by omega, he, Rdr.drop hr2 hr.h0 hr.h1 (by omega), hB, below_grown HB hB hp hr.lt⟩
theorem U64_all {B p : Nat} {q : ByteArray} {t : Int} {w0 w : World} (HB : Below B w0 w) (hp : B ≤ p) (hr : Rdr w p q t) : Calls Tryd.prog 14 #[.pointer (some ⟨p, 0, none⟩)] w (NumP 8 B p q t w0 w (.int .u64 0) (.int .u64 (be8 q))) := by
  by_cases hs : q.size < 8
  · exact (U64_no p q t w hr.r hs).mono fun e w' ⟨he, hw⟩ => num_no HB hp hr hs he hw
  · have h0 := hr.h0
    have h1 := hr.h1
    exact (U64_is p q t w hr.r (by omega) hr.lt (by omega)).mono fun e w' ⟨he, hr2, hB⟩ => .inr ⟨by omega, he, Rdr.drop hr2 hr.h0 hr.h1 (by omega), hB, below_grown HB hB hp hr.lt⟩

/-- An error is this fault; none, if the code is 0. -/
def ErrIs (w : World) (v : Value) (c t : Int) : Prop := (c = 0 ∧ t = 0 ∧ v = .nilIface) ∨ (c ≠ 0 ∧ ∃ a, v = .iface 81 (.pointer (some ⟨a, 0, none⟩)) ∧ FaultAt w a c t)
theorem ErrIs.keep {w W : World} {v : Value} {c t : Int} (h : ErrIs w v c t) (hB : Below w.heap.size w W) : ErrIs W v c t := by
  rcases h with h | ⟨h, a, e, hf⟩
  · exact .inl h
  · exact .inr ⟨h, a, e, hf.keep hB⟩
theorem dropB_zero (q : ByteArray) : dropB q 0 = q := by
  apply ByteArray.ext
  simp [dropB]

/-- What a number of n bytes is read as. -/
def nmV (n : Nat) (q : ByteArray) : Int := if q.size < n then 0 else beN n q
/-- What is wrong: 0: nothing. -/
def nmC (n : Nat) (q : ByteArray) : Int := if q.size < n then 3 else 0
/-- How many bytes are taken. -/
def nmL (n : Nat) (q : ByteArray) : Nat := if q.size < n then 0 else n
/-- Where it is told. -/
def atF (c t : Int) : Int := if c = 0 then 0 else t
/-- What a call of a reader gives. -/
def RdP (B p : Nat) (q : ByteArray) (t : Int) (w0 w : World) (x : Value) (c : Int) (l : Nat) (e : Ending) (w' : World) : Prop :=
  ∃ v, e = .returned (.tuple #[x, v]) ∧ ErrIs w' v c (atF c t) ∧ l ≤ q.size ∧ Rdr w' p (dropB q l) (t + l) ∧ w.grownBy w' (some p) ∧ Below B w0 w'
theorem NumP.rd {n B p : Nat} {q : ByteArray} {t : Int} {w0 w : World} {zero good x : Value} {e : Ending} {w' : World} (h : NumP n B p q t w0 w zero good e w') (hx : x = if q.size < n then zero else good) : RdP B p q t w0 w x (nmC n q) (nmL n q) e w' := by
  rcases h with ⟨hs, a, he, hf, hr, hg, hB⟩ | ⟨hs, he, hr, hg, hB⟩
  · have e1 : nmC n q = 3 := if_pos hs
    have e2 : nmL n q = 0 := if_pos hs
    rw [e1, e2, hx, if_pos hs]
    refine ⟨_, he, .inr ⟨by decide, a, rfl, ?_⟩, Nat.zero_le _, by rw [dropB_zero]; simpa using hr, hg, hB⟩
    exact hf
  · have hs' : ¬ q.size < n := by omega
    have e1 : nmC n q = 0 := if_neg hs'
    have e2 : nmL n q = n := if_neg hs'
    rw [e1, e2, hx, if_neg hs']
    exact ⟨_, he, .inl ⟨rfl, rfl, rfl⟩, hs, hr, hg, hB⟩
/-- What a text is read as. -/
def txV (most : Int) (q : ByteArray) : ByteArray := if tCode most q = 0 then tText q else ⟨#[]⟩
def txL (most : Int) (q : ByteArray) : Nat := if tCode most q = 0 then tLen q else 0
theorem TextP.rd {most : Int} {B p : Nat} {q : ByteArray} {t : Int} {w0 w : World} {e : Ending} {w' : World} (h : TextP most B p q t w0 w e w') : RdP B p q t w0 w (.string (txV most q)) (tCode most q) (txL most q) e w' := by
  rcases h with ⟨hc, a, he, hf, hr, hg, hB⟩ | ⟨hc, hs, he, hr, hg, hB⟩
  · have e1 : txV most q = ⟨#[]⟩ := if_neg hc
    have e2 : txL most q = 0 := if_neg hc
    rw [e1, e2]
    refine ⟨_, he, .inr ⟨hc, a, rfl, ?_⟩, Nat.zero_le _, by rw [dropB_zero]; simpa using hr, hg, hB⟩
    unfold atF
    rw [if_neg hc]
    exact hf
  · have e1 : txV most q = tText q := if_pos hc
    have e2 : txL most q = tLen q := if_pos hc
    rw [e1, e2]
    exact ⟨_, he, .inl ⟨hc, by unfold atF; rw [if_pos hc], rfl⟩, hs, hr, hg, hB⟩

set_option maxHeartbeats 1000000 in
theorem Place_any (p : Nat) (q : ByteArray) (t : Int) (w : World) (hr : RdR w p q t) : Calls Tryd.prog 19 #[.pointer (some ⟨p, 0, none⟩)] w fun e w' => e = .returned (.int .i64 t) ∧ w' = w := by
  have c1 := hr.c1
  go_enter Tryd.func19, Tryd.ntmps19
  go_wp2
  go_ret
  exact ⟨rfl, rfl⟩
/-- What End tells. -/
def enC (q : ByteArray) : Int := if q.size = 0 then 0 else 4
theorem toList_data (s : ByteArray) : s.toList = s.data.toList := ByteArray.toList_eq s
theorem empty_is (q : ByteArray) (b : Bool) (hb : (q.size != 0) = b) : q.toList.isEmpty = !b := by
  rw [toList_data, ← hb]
  have hl : q.data.toList.length = q.size := by rw [Array.length_toList]; rfl
  rw [← hl]
  cases q.data.toList with
  | nil => rfl
  | cons a l => rfl
set_option maxHeartbeats 1000000 in
theorem End_any (p : Nat) (q : ByteArray) (t : Int) (w : World) (hr : RdR w p q t) : Calls Tryd.prog 21 #[.pointer (some ⟨p, 0, none⟩)] w fun e w' => ∃ v, e = .returned v ∧ ErrIs w' v (enC q) (atF (enC q) t) ∧ Below w.heap.size w w' := by
  have c0 := hr.c0
  cases hb : (q.size != 0) with
  | false =>
    have hE : enC q = 0 := if_pos (by simpa using hb)
    have hn : q.toList.isEmpty = true := empty_is q false hb
    have HE := Lib.hid hE
    clear hE hb
    go_enter Tryd.func21, Tryd.ntmps21
    go_wp2_with fail
    go_ret
    exact ⟨_, rfl, .inl ⟨HE.out, by rw [HE.out]; rfl, rfl⟩, Below.refl _ _⟩
  | true =>
    have hE : enC q = 4 := if_neg (by simpa using hb)
    have hn : q.toList.isEmpty = false := empty_is q true hb
    have HE := Lib.hid hE
    clear hE hb
    go_enter Tryd.func21, Tryd.ntmps21
    go_wp2_with (go_at_call 33; refine (wrong_any p q t 4 _ hr).mono ?_; rintro e w' ⟨rfl, rfl⟩; dsimp only [FV])
    go_ret
    refine ⟨_, rfl, .inr ⟨by rw [HE.out]; decide, _, rfl, ?_⟩, by go_grown⟩
    rw [HE.out]
    exact FaultAt.new _ _ _ _
end Go.Proofs.YtbnnemiiodhjbaaDoor
