/- vary.field: one field is read. -/
import Derived.Test.YtemngdhbicndlaaDoorVc3
namespace Go.Proofs.YtemngdhbicndlaaDoor
open Go.RowKit
set_option linter.unusedVariables false
set_option linter.unusedSimpArgs false

theorem rdF_eq (last : Int) (h : UInt8) (l : List UInt8) : rdF last h l = if h.toNat < 2 ∨ 127 < h.toNat then .inl 2 else if ((h.toNat / 2 : Nat) : Int) ≤ last then .inl 7 else match rdN l with
    | .inl c => .inl c
    | .inr (n, r) => if h.toNat % 2 = 0 then .inr (⟨(h.toNat / 2 : Nat), false, n, ⟨#[]⟩⟩, r) else if 2000 < n then .inl 4 else if r.length < n then .inl 3 else .inr (⟨(h.toNat / 2 : Nat), true, 0, ⟨(r.take n).toArray⟩⟩, r.drop n) := by
  unfold rdF
  by_cases c1 : h.toNat < 2 ∨ 127 < h.toNat
  · rw [if_pos c1, if_pos c1]
  rw [if_neg c1, if_neg c1]
  by_cases c2 : ((h.toNat / 2 : Nat) : Int) ≤ last
  · rw [if_pos c2, if_pos c2]
  rw [if_neg c2, if_neg c2]
  cases l with
  | nil => rfl
  | cons k l2 =>
    rw [rdN]
    simp only []
    by_cases c3 : 8 < k.toNat
    · rw [if_pos c3, if_pos c3]
    rw [if_neg c3, if_neg c3]
    by_cases c4 : l2.length < k.toNat
    · rw [if_pos c4, if_pos c4]
    rw [if_neg c4, if_neg c4]
    by_cases c5 : 0 < k.toNat ∧ l2.head? = some 0
    · rw [if_pos c5, if_pos c5]
    rw [if_neg c5, if_neg c5]
theorem and_one (b : UInt8) : bits .and .u8 (b.toNat : Int) 1 = ((b.toNat % 2 : Nat) : Int) := by
  have hb := b.toNat_lt
  have e8 : (2 : Int) ^ 8 = 256 := by decide
  have := bits_mask .u8 8 (by decide) (fun n h0 h1 => by rw [IntKind.wrap_u8]; omega) 1 (by decide) (b.toNat : Int) (by omega) (by omega)
  rw [show (2 : Int) ^ 1 - 1 = 1 by decide] at this
  rw [this, show (2 : Int) ^ 1 = 2 by decide]
  omega
theorem keep_off {w : World} {g o R j : Nat} {u v : Value} (h : w.cell? ⟨g, o, none⟩ = some u) (hne : g ≠ R) : (w.setCell ⟨R, j, none⟩ v).cell? ⟨g, o, none⟩ = some u :=
  (World.cell?_of_block (Below.heap_setCell _ _ _ g (by show g ≠ R; exact hne))).trans h
theorem grown_new {w a : World} {row : Option Nat} {R j : Nat} {v : Value} (h : w.grownBy a row) (hR : w.heap.size ≤ R) : w.grownBy (a.setCell ⟨R, j, none⟩ v) row :=
  ⟨h.os, h.tape, h.output, by rw [World.size_setCell]; exact h.size, fun k hk hn => (Below.heap_setCell _ _ _ k (by show k ≠ R; omega)).trans (h.block k hk hn)⟩
theorem grown_box {w a : World} {p R : Nat} {o : Obj} (h : w.grownBy a (some p)) (hR : w.heap[R]? = some o) (hne : R ≠ p) : a.heap[R]? = some o :=
  (h.block R (by
    rcases Nat.lt_or_ge R w.heap.size with h' | h'
    · exact h'
    · rw [Array.getElem?_eq_none h'] at hR
      cases hR) (fun e => hne (by injection e))).trans hR
theorem rdN_code {l : List UInt8} {c : Int} (h : rdN l = .inl c) : c ≠ 0 := by
  cases l with
  | nil => cases h; decide
  | cons k l2 =>
    rw [rdN] at h
    split at h
    · cases h; decide
    split at h
    · cases h; decide
    split at h
    · cases h; decide
    cases h
theorem box_no_byte {w : World} {R : Nat} {a c : Int} {b : Bool} {st : ByteArray} {t : TypeId} (h : w.heap[R]? = some (.cells #[.int .i64 a, .bool b, .int .u64 c, .string st] t (0, 0))) : ∀ j y, w.cell? ⟨R, j, none⟩ ≠ some (.int .u8 y) := by
  intro j y e
  rw [cell_of_row _ _ j _ _ _ h] at e
  match j, e with
  | 0, e => simp at e
  | 1, e => simp at e
  | 2, e => simp at e
  | 3, e => simp at e
  | j + 4, e => simp at e
theorem RestAt.set {w : World} {p R j : Nat} {l : List UInt8} {v : Value} {a c : Int} {b : Bool} {st : ByteArray} {t : TypeId} (h : RestAt w p l) (hx : w.heap[R]? = some (.cells #[.int .i64 a, .bool b, .int .u64 c, .string st] t (0, 0))) (hne : R ≠ p) : RestAt (w.setCell ⟨R, j, none⟩ v) p l := by
  obtain ⟨u, h1, h2, h3⟩ := h
  exact ⟨u, (Below.heap_setCell _ _ _ p (by show p ≠ R; omega)).trans h1, h2.other (grown_set w ⟨R, j, none⟩ v) (box_no_byte hx), h3⟩
theorem RestAt.set4 {w : World} {p R : Nat} {l : List UInt8} {n0 n1 n2 n3 : Value} {a c : Int} {b : Bool} {st : ByteArray} {t : TypeId} (h : RestAt w p l) (hx : w.heap[R]? = some (.cells #[.int .i64 a, .bool b, .int .u64 c, .string st] t (0, 0))) (hne : R ≠ p) :
    RestAt ((((w.setCell ⟨R, 0, none⟩ n0).setCell ⟨R, 1, none⟩ n1).setCell ⟨R, 2, none⟩ n2).setCell ⟨R, 3, none⟩ n3) p l := by
  obtain ⟨u, h1, h2, h3⟩ := h
  have hb : ∀ (W : World) (j : Nat) (v : Value), (W.setCell ⟨R, j, none⟩ v).heap[p]? = W.heap[p]? := fun W j v => Below.heap_setCell _ _ _ p (by show p ≠ R; omega)
  have hg : w.grownBy ((((w.setCell ⟨R, 0, none⟩ n0).setCell ⟨R, 1, none⟩ n1).setCell ⟨R, 2, none⟩ n2).setCell ⟨R, 3, none⟩ n3) (some R) := grown_trans (grown_trans (grown_trans (grown_set w ⟨R, 0, none⟩ n0) (grown_set _ ⟨R, 1, none⟩ n1)) (grown_set _ ⟨R, 2, none⟩ n2)) (grown_set _ ⟨R, 3, none⟩ n3)
  exact ⟨u, by rw [hb, hb, hb, hb]; exact h1, h2.other hg (box_no_byte hx), h3⟩
/-- What reading one field gives. -/
def FieldP (p : Nat) (last : Int) (h : UInt8) (l : List UInt8) (w : World) (e : Ending) (w' : World) : Prop :=
  (∃ c, rdF last h l = .inl c ∧ e = .returned (.tuple #[zeroF.val, .int .i64 c]) ∧ w.grownBy w' (some p)) ∨
  (∃ f r, rdF last h l = .inr (f, r) ∧ e = .returned (.tuple #[f.val, .int .i64 0]) ∧ RestAt w' p r ∧ w.grownBy w' (some p))
set_option maxRecDepth 100000 in
set_option maxHeartbeats 1000000 in
theorem field_any (p : Nat) (last : Int) (h : UInt8) (l : List UInt8) (w : World) (hr : RestAt w p (h :: l)) :
    Calls Tryd.prog 25 #[takeV p, .int .i64 last] w (FieldP p last h l w) := by
  have hpl := hr.lt
  have HC := Lib.hid (take_yes p 1 (h :: l) (w.alloc (.cells #[.int .i64 0, .bool false, .int .u64 0, .string ⟨#[]⟩] 50)) (hr.below ((Below.refl _ _).alloc (Nat.le_refl _) _)) (by simp))
  have HX0 : Hid ((w.alloc (.cells #[.int .i64 0, .bool false, .int .u64 0, .string ⟨#[]⟩] 50)).heap[w.heap.size]? = some (.cells #[.int .i64 0, .bool false, .int .u64 0, .string ⟨#[]⟩] 50 (0, 0))) := heap_alloc_new _ _
  have HG0 : Hid (w.grownBy (w.alloc (.cells #[.int .i64 0, .bool false, .int .u64 0, .string ⟨#[]⟩] 50)) (some p)) := grown_below ((Below.refl _ _).alloc (Nat.le_refl _) _) _
  have hRp : w.heap.size ≠ p := by omega
  unfold takeV
  go_enter Tryd.func25, Tryd.ntmps25
  go_wp2_with fail
  refine HC.out.mono ?_
  rintro e w1 ⟨v1, rfl, hr1, hs1, hg1⟩
  obtain ⟨g, o, cc, rfl, hcc, c0⟩ := RdB.one (t := []) hr1
  have hx := grown_box hg1 HX0.out hRp
  have HS := Lib.hid hs1
  have HG := Lib.hid (grown_trans HG0.out hg1)
  have HX := Lib.hid hx
  obtain ⟨x0, x1, x2, x3, _⟩ := box_S hx
  have y0 := box_fr hx 0
  have y1 := box_fr hx 1
  have hne : g ≠ w.heap.size := by
    intro e
    rw [e, cell_of_row _ _ o _ _ _ hx] at c0
    match o, c0 with
    | 0, c0 => simp at c0
    | 1, c0 => simp at c0
    | 2, c0 => simp at c0
    | 3, c0 => simp at c0
    | o + 4, c0 => simp at c0
  have hand := and_one h
  have hh := h.toNat_lt
  obtain ⟨T, hT⟩ : ∃ T : Int, T = ((h.toNat / 2 : Nat) : Int) := ⟨_, rfl⟩
  have hTw : IntKind.i64.wrap ((h.toNat : Int) / 2) = T := by rw [IntKind.wrap_i64, hT]; omega
  obtain ⟨isT, hI⟩ : ∃ isT : Bool, ((h.toNat : Int) % 2 == 1) = isT := ⟨_, rfl⟩
  have HRS : Hid (RestAt ((w1.setCell ⟨w.heap.size, 0, none⟩ (.int .i64 T)).setCell ⟨w.heap.size, 1, none⟩ (.bool isT)) p l) := (hs1.set hx hRp).set (set_heap hx 0 (.int .i64 T) (by simp)) hRp
  have HXS := Lib.hid (set_heap (set_heap hx 0 (.int .i64 T) (by simp)) 1 (.bool isT) (by simp))
  have HGS0 := Lib.hid (grown_new (j := 1) (v := .bool isT) (grown_new (j := 0) (v := .int .i64 T) HG.out (Nat.le_refl _)) (Nat.le_refl _))
  have HT : Hid (∀ _ : Unit, T = ((h.toNat / 2 : Nat) : Int)) := fun _ => hT
  have HI : Hid (∀ _ : Unit, ((h.toNat : Int) % 2 == 1) = isT) := fun _ => hI
  clear hr1 hs1 hg1 hx HC HX0 HG0 hr HG HX HS hT
  go_wp2_with fail
  go_region_held3 (fun w' => w'.cell? ⟨g, o, none⟩ = some (.int .u8 (h.toNat : Int))) (first | exact c0 | exact keep_off c0 hne | exact keep_off (keep_off c0 hne) hne) (fail)
  replace HRS : Hid (RestAt ((w1.setCell ⟨w.heap.size, 0, none⟩ (.int .i64 T)).setCell ⟨w.heap.size, 1, none⟩ (.bool isT)).drew p l) := HRS
  replace HXS : Hid (((w1.setCell ⟨w.heap.size, 0, none⟩ (.int .i64 T)).setCell ⟨w.heap.size, 1, none⟩ (.bool isT)).drew.heap[w.heap.size]? = some (.cells #[.int .i64 T, .bool isT, .int .u64 0, .string ⟨#[]⟩] 50 (0, 0))) := HXS
  replace HGS0 : Hid (w.grownBy ((w1.setCell ⟨w.heap.size, 0, none⟩ (.int .i64 T)).setCell ⟨w.heap.size, 1, none⟩ (.bool isT)).drew (some p)) := grown_drew HGS0.out
  have hTN := HT.out ()
  clear hTw hI hand x0 x1 x2 x3 y0 y1 c0 hne
  generalize ((w1.setCell ⟨w.heap.size, 0, none⟩ (.int .i64 T)).setCell ⟨w.heap.size, 1, none⟩ (.bool isT)).drew = W at HRS HXS HGS0 ⊢
  obtain ⟨z0, z1, z2, z3, _⟩ := box_S HXS.out
  by_cases hb : h.toNat < 2 ∨ 127 < h.toNat
  · have HE : Hid (∀ _ : Unit, rdF last h l = .inl 2) := by intro _; rw [rdF_eq, if_pos hb]
    rcases hb with hb | hb
    · have hb1 : T < 1 := by omega
      have y0 := box_fr HXS.out 0
      have y1 := box_fr HXS.out 1
      have y2 := box_fr HXS.out 2
      have y3 := box_fr HXS.out 3
      go_wp2_with fail
      have HS4 := Lib.hid (set4_heap HXS.out (.int .i64 0) (.bool false) (.int .u64 0) (.string ⟨#[]⟩))
      have HGS := Lib.hid (grown_new (j := 3) (v := .string ⟨#[]⟩) (grown_new (j := 2) (v := .int .u64 0) (grown_new (j := 1) (v := .bool false) (grown_new (j := 0) (v := .int .i64 0) HGS0.out (Nat.le_refl _)) (Nat.le_refl _)) (Nat.le_refl _)) (Nat.le_refl _))
      obtain ⟨q0, q1, q2, q3, _⟩ := box_S HS4.out
      refine bodyPost_ret (v := .tuple #[zeroF.val, .int .i64 2]) (by simp [results, Tryd.results25, go_sem, q0, q1, q2, q3, Fd.val, zeroF]; try rfl) rfl ?_
      exact .inl ⟨_, HE.out (), rfl, HGS.out⟩
    · have hb1 : ¬ T < 1 := by omega
      have hb2 : 63 < T := by omega
      have y0 := box_fr HXS.out 0
      have y1 := box_fr HXS.out 1
      have y2 := box_fr HXS.out 2
      have y3 := box_fr HXS.out 3
      go_wp2_with fail
      have HS4 := Lib.hid (set4_heap HXS.out (.int .i64 0) (.bool false) (.int .u64 0) (.string ⟨#[]⟩))
      have HGS := Lib.hid (grown_new (j := 3) (v := .string ⟨#[]⟩) (grown_new (j := 2) (v := .int .u64 0) (grown_new (j := 1) (v := .bool false) (grown_new (j := 0) (v := .int .i64 0) HGS0.out (Nat.le_refl _)) (Nat.le_refl _)) (Nat.le_refl _)) (Nat.le_refl _))
      obtain ⟨q0, q1, q2, q3, _⟩ := box_S HS4.out
      refine bodyPost_ret (v := .tuple #[zeroF.val, .int .i64 2]) (by simp [results, Tryd.results25, go_sem, q0, q1, q2, q3, Fd.val, zeroF]; try rfl) rfl ?_
      exact .inl ⟨_, HE.out (), rfl, HGS.out⟩
  have hb1 : ¬ T < 1 := by omega
  have hb2 : ¬ 63 < T := by omega
  have HB : Hid (¬ (h.toNat < 2 ∨ 127 < h.toNat)) := hb
  clear hb hTN hh
  by_cases hl : T ≤ last
  · have HE : Hid (∀ _ : Unit, rdF last h l = .inl 7) := by intro _; rw [rdF_eq, if_neg HB.out, if_pos (by rw [← HT.out ()]; exact hl)]
    have y0 := box_fr HXS.out 0
    have y1 := box_fr HXS.out 1
    have y2 := box_fr HXS.out 2
    have y3 := box_fr HXS.out 3
    go_wp2_with fail
    have HS4 := Lib.hid (set4_heap HXS.out (.int .i64 0) (.bool false) (.int .u64 0) (.string ⟨#[]⟩))
    have HGS := Lib.hid (grown_new (j := 3) (v := .string ⟨#[]⟩) (grown_new (j := 2) (v := .int .u64 0) (grown_new (j := 1) (v := .bool false) (grown_new (j := 0) (v := .int .i64 0) HGS0.out (Nat.le_refl _)) (Nat.le_refl _)) (Nat.le_refl _)) (Nat.le_refl _))
    obtain ⟨q0, q1, q2, q3, _⟩ := box_S HS4.out
    refine bodyPost_ret (v := .tuple #[zeroF.val, .int .i64 7]) (by simp [results, Tryd.results25, go_sem, q0, q1, q2, q3, Fd.val, zeroF]; try rfl) rfl ?_
    exact .inl ⟨_, HE.out (), rfl, HGS.out⟩
  have HF : Hid (∀ _ : Unit, rdF last h l = match rdN l with
    | .inl c => .inl c
    | .inr (n, r) => if h.toNat % 2 = 0 then .inr (⟨(h.toNat / 2 : Nat), false, n, ⟨#[]⟩⟩, r) else if 2000 < n then .inl 4 else if r.length < n then .inl 3 else .inr (⟨(h.toNat / 2 : Nat), true, 0, ⟨(r.take n).toArray⟩⟩, r.drop n)) := by
    intro _
    rw [rdF_eq, if_neg HB.out, if_neg (by rw [← HT.out ()]; exact hl)]
  cases hN : rdN l with
  | inl c =>
    have HE : Hid (∀ _ : Unit, rdF last h l = .inl c) := by intro _; rw [HF.out (), hN]
    have hc0 : (c == 0) = false := by rw [beq_eq_false_iff_ne]; exact rdN_code hN
    have HC := Lib.hid (value_no p l c W HRS.out hN)
    clear hN
    unfold takeV at HC
    go_wp2_with fail
    refine HC.out.mono ?_
    rintro e w2 ⟨rfl, hg2⟩
    have HX2 := Lib.hid (grown_box hg2 HXS.out hRp)
    have HG2 := Lib.hid (grown_trans HGS0.out hg2)
    clear hg2 z0 z1 z2 z3
    obtain ⟨z0, z1, z2, z3, _⟩ := box_S HX2.out
    have y0 := box_fr HX2.out 0
    have y1 := box_fr HX2.out 1
    have y2 := box_fr HX2.out 2
    have y3 := box_fr HX2.out 3
    go_wp2_with fail
    have HS4 := Lib.hid (set4_heap HX2.out (.int .i64 0) (.bool false) (.int .u64 0) (.string ⟨#[]⟩))
    have HGS := Lib.hid (grown_new (j := 3) (v := .string ⟨#[]⟩) (grown_new (j := 2) (v := .int .u64 0) (grown_new (j := 1) (v := .bool false) (grown_new (j := 0) (v := .int .i64 0) HG2.out (Nat.le_refl _)) (Nat.le_refl _)) (Nat.le_refl _)) (Nat.le_refl _))
    obtain ⟨q0, q1, q2, q3, _⟩ := box_S HS4.out
    refine bodyPost_ret (v := .tuple #[zeroF.val, .int .i64 c]) (by simp [results, Tryd.results25, go_sem, q0, q1, q2, q3, Fd.val, zeroF]; try rfl) rfl ?_
    exact .inl ⟨_, HE.out (), rfl, HGS.out⟩
  | inr nr =>
    obtain ⟨n, r⟩ := nr
    have hF2 := HF.out ()
    rw [hN] at hF2
    simp only [] at hF2
    have HC := Lib.hid (value_yes p l n r W HRS.out hN)
    clear HF hN
    have HF : Hid (∀ _ : Unit, _) := fun _ => hF2
    clear hF2
    unfold takeV at HC
    cases isT with
    | false =>
      have h2 : h.toNat % 2 = 0 := by have := HI.out (); rw [beq_eq_false_iff_ne] at this; omega
      have HE : Hid (∀ _ : Unit, rdF last h l = .inr (⟨T, false, n, ⟨#[]⟩⟩, r)) := by intro _; rw [HF.out (), if_pos h2, ← HT.out ()]
      clear HF h2
      go_wp2_with fail
      refine HC.out.mono ?_
      rintro e w2 ⟨rfl, hs2, hg2⟩
      have HX2 := Lib.hid (grown_box hg2 HXS.out hRp)
      have HG2 := Lib.hid (grown_trans HGS0.out hg2)
      clear hg2 z0 z1 z2 z3
      obtain ⟨z0, z1, z2, z3, _⟩ := box_S HX2.out
      have y0 := box_fr HX2.out 0
      have y1 := box_fr HX2.out 1
      have y2 := box_fr HX2.out 2
      have y3 := box_fr HX2.out 3
      have HR2 := Lib.hid hs2
      clear hs2
      go_wp2_with fail
      have HS4 := set4_heap (set_heap HX2.out 2 (.int .u64 (n : Nat)) (by simp)) (.int .i64 T) (.bool false) (.int .u64 (n : Nat)) (.string ⟨#[]⟩)
      have HR4 := (HR2.out.set (j := 2) (v := .int .u64 (n : Nat)) HX2.out hRp).set4 (set_heap HX2.out 2 (.int .u64 (n : Nat)) (by simp)) hRp (n0 := .int .i64 T) (n1 := .bool false) (n2 := .int .u64 (n : Nat)) (n3 := .string ⟨#[]⟩)
      have HGS := grown_new (j := 3) (v := .string ⟨#[]⟩) (grown_new (j := 2) (v := .int .u64 (n : Nat)) (grown_new (j := 1) (v := .bool false) (grown_new (j := 0) (v := .int .i64 T) (grown_new (j := 2) (v := .int .u64 (n : Nat)) HG2.out (Nat.le_refl _)) (Nat.le_refl _)) (Nat.le_refl _)) (Nat.le_refl _)) (Nat.le_refl _)
      obtain ⟨q0, q1, q2, q3, _⟩ := box_S HS4
      refine bodyPost_ret (v := .tuple #[(⟨T, false, n, ⟨#[]⟩⟩ : Fd).val, .int .i64 0]) (by simp [results, Tryd.results25, go_sem, q0, q1, q2, q3, Fd.val]; try rfl) rfl ?_
      exact .inr ⟨_, _, HE.out (), rfl, HR4, HGS⟩
    | true =>
      have h2 : ¬ h.toNat % 2 = 0 := by have := HI.out (); rw [beq_iff_eq] at this; omega
      have hF3 := HF.out ()
      rw [if_neg h2, ← HT.out ()] at hF3
      have HF : Hid (∀ _ : Unit, _) := fun _ => hF3
      clear h2 hF3
      by_cases hn : 2000 < n
      · have HE : Hid (∀ _ : Unit, rdF last h l = .inl 4) := by intro _; rw [HF.out (), if_pos hn]
        go_wp2_with fail
        refine HC.out.mono ?_
        rintro e w2 ⟨rfl, hs2, hg2⟩
        have HX2 := Lib.hid (grown_box hg2 HXS.out hRp)
        have HG2 := Lib.hid (grown_trans HGS0.out hg2)
        clear hg2 hs2 z0 z1 z2 z3
        obtain ⟨z0, z1, z2, z3, _⟩ := box_S HX2.out
        have y0 := box_fr HX2.out 0
        have y1 := box_fr HX2.out 1
        have y2 := box_fr HX2.out 2
        have y3 := box_fr HX2.out 3
        go_wp2_with fail
        have HS4 := Lib.hid (set4_heap HX2.out (.int .i64 0) (.bool false) (.int .u64 0) (.string ⟨#[]⟩))
        have HGS := Lib.hid (grown_new (j := 3) (v := .string ⟨#[]⟩) (grown_new (j := 2) (v := .int .u64 0) (grown_new (j := 1) (v := .bool false) (grown_new (j := 0) (v := .int .i64 0) HG2.out (Nat.le_refl _)) (Nat.le_refl _)) (Nat.le_refl _)) (Nat.le_refl _))
        obtain ⟨q0, q1, q2, q3, _⟩ := box_S HS4.out
        refine bodyPost_ret (v := .tuple #[zeroF.val, .int .i64 4]) (by simp [results, Tryd.results25, go_sem, q0, q1, q2, q3, Fd.val, zeroF]; try rfl) rfl ?_
        exact .inl ⟨_, HE.out (), rfl, HGS.out⟩
      have hwn : IntKind.i64.wrap ((n : Nat) : Int) = (n : Int) := by rw [IntKind.wrap_i64]; omega
      have hwn2 : wrap64 ((n : Nat) : Int) = (n : Int) := by unfold wrap64; omega
      by_cases hrn : r.length < n
      · have HE : Hid (∀ _ : Unit, rdF last h l = .inl 3) := by intro _; rw [HF.out (), if_neg hn, if_pos hrn]
        go_wp2_with fail
        refine HC.out.mono ?_
        rintro e w2 ⟨rfl, hs2, hg2⟩
        have HX2 := Lib.hid (grown_box hg2 HXS.out hRp)
        have HG2 := Lib.hid (grown_trans HGS0.out hg2)
        have HC3 := Lib.hid (take_no p n r w2 hs2 (by omega))
        clear hg2 hs2 z0 z1 z2 z3
        obtain ⟨z0, z1, z2, z3, _⟩ := box_S HX2.out
        go_wp2_with fail
        refine HC3.out.mono ?_
        rintro e w3 ⟨rfl, rfl⟩
        have y0 := box_fr HX2.out 0
        have y1 := box_fr HX2.out 1
        have y2 := box_fr HX2.out 2
        have y3 := box_fr HX2.out 3
        go_wp2_with fail
        have HS4 := Lib.hid (set4_heap HX2.out (.int .i64 0) (.bool false) (.int .u64 0) (.string ⟨#[]⟩))
        have HGS := Lib.hid (grown_new (j := 3) (v := .string ⟨#[]⟩) (grown_new (j := 2) (v := .int .u64 0) (grown_new (j := 1) (v := .bool false) (grown_new (j := 0) (v := .int .i64 0) HG2.out (Nat.le_refl _)) (Nat.le_refl _)) (Nat.le_refl _)) (Nat.le_refl _))
        obtain ⟨q0, q1, q2, q3, _⟩ := box_S HS4.out
        refine bodyPost_ret (v := .tuple #[zeroF.val, .int .i64 3]) (by simp [results, Tryd.results25, go_sem, q0, q1, q2, q3, Fd.val, zeroF]; try rfl) rfl ?_
        exact .inl ⟨_, HE.out (), rfl, HGS.out⟩
      have HE : Hid (∀ _ : Unit, rdF last h l = .inr (⟨T, true, 0, ⟨(r.take n).toArray⟩⟩, r.drop n)) := by intro _; rw [HF.out (), if_neg hn, if_neg hrn]
      go_wp2_with fail
      refine HC.out.mono ?_
      rintro e w2 ⟨rfl, hs2, hg2⟩
      have hx2 := grown_box hg2 HXS.out hRp
      have hg2' := grown_trans HGS0.out hg2
      have HX20 := Lib.hid hx2
      have HG20 := Lib.hid hg2'
      have HC3 := Lib.hid (take_yes p n r w2 hs2 (by omega))
      clear hg2 hs2 z0 z1 z2 z3
      obtain ⟨z0, z1, z2, z3, _⟩ := box_S hx2
      clear hx2 hg2'
      go_wp2_with fail
      refine HC3.out.mono ?_
      rintro e w3 ⟨v3, rfl, hr3, hs3, hg3⟩
      have hcv := hr3.str (P := Tryd.prog) 60 9 5 Tryd.underlying60 Tryd.underlying5 Tryd.underlying9
      obtain ⟨S, hS⟩ : ∃ S : ByteArray, S = ⟨(r.take n).toArray⟩ := ⟨_, rfl⟩
      rw [← hS] at hcv
      have HE : Hid (∀ _ : Unit, rdF last h l = .inr (⟨T, true, 0, S⟩, r.drop n)) := by intro _; rw [HE.out (), hS]
      have HX2 := Lib.hid (grown_box hg3 HX20.out hRp)
      have HG2 := Lib.hid (grown_trans HG20.out hg3)
      have HR2 := Lib.hid hs3
      clear hg3 hs3 z0 z1 z2 z3 hr3 hS HX20 HG20
      obtain ⟨z0, z1, z2, z3, _⟩ := box_S HX2.out
      have y0 := box_fr HX2.out 0
      have y1 := box_fr HX2.out 1
      have y2 := box_fr HX2.out 2
      have y3 := box_fr HX2.out 3
      go_wp2_with fail
      have HS4 := set4_heap (set_heap HX2.out 3 (.string S) (by simp)) (.int .i64 T) (.bool true) (.int .u64 0) (.string S)
      have HR4 := (HR2.out.set (j := 3) (v := .string S) HX2.out hRp).set4 (set_heap HX2.out 3 (.string S) (by simp)) hRp (n0 := .int .i64 T) (n1 := .bool true) (n2 := .int .u64 0) (n3 := .string S)
      have HGS := grown_new (j := 3) (v := .string S) (grown_new (j := 2) (v := .int .u64 0) (grown_new (j := 1) (v := .bool true) (grown_new (j := 0) (v := .int .i64 T) (grown_new (j := 3) (v := .string S) HG2.out (Nat.le_refl _)) (Nat.le_refl _)) (Nat.le_refl _)) (Nat.le_refl _)) (Nat.le_refl _)
      obtain ⟨q0, q1, q2, q3, _⟩ := box_S HS4
      refine bodyPost_ret (v := .tuple #[(⟨T, true, 0, S⟩ : Fd).val, .int .i64 0]) (by simp [results, Tryd.results25, go_sem, q0, q1, q2, q3, Fd.val]; try rfl) rfl ?_
      exact .inr ⟨_, _, HE.out (), rfl, HR4, HGS⟩
end Go.Proofs.YtemngdhbicndlaaDoor
