/- Tagged fields, plain: what is put is read, what is read was put, and where bytes are cut. -/
import Derived.Test.YtemngdhbicndlaaDoorVa1
namespace Go.Proofs.YtemngdhbicndlaaDoor
set_option linter.unusedVariables false
set_option linter.unusedSimpArgs false

/-- A field that may be, of a text that is not too long. -/
structure Fd.Ok (f : Fd) : Prop where
  may : mayF f = true
  len : f.s.size ≤ 2000
  num : f.n < 18446744073709551616
theorem may_tag {f : Fd} (h : mayF f = true) : 1 ≤ f.tag ∧ f.tag ≤ 63 := by
  unfold mayF at h
  simp only [Bool.and_eq_true, decide_eq_true_eq] at h
  exact h.1
theorem may_text {f : Fd} (h : mayF f = true) (ht : f.isT = true) : f.n = 0 := by
  unfold mayF at h
  rw [ht] at h
  simp only [Bool.and_eq_true, if_true, beq_iff_eq] at h
  exact h.2
theorem may_num {f : Fd} (h : mayF f = true) (ht : f.isT = false) : f.s = ⟨#[]⟩ := by
  unfold mayF at h
  rw [ht] at h
  simp only [Bool.and_eq_true, beq_iff_eq] at h
  have h2 : f.s.size = 0 := by simpa using h.2
  apply ByteArray.ext
  apply Array.eq_empty_of_size_eq_zero
  exact h2
theorem toNat_of (n : Nat) (h : n < 256) : (UInt8.ofNat n).toNat = n := by
  simp [Nat.mod_eq_of_lt h]
theorem size_list (s : ByteArray) : s.data.toList.length = s.size := by rw [Array.length_toList]; rfl
theorem fieldL_len (f : Fd) (h : f.Ok) : 2 ≤ (fieldL f).length ∧ (fieldL f).length ≤ 2010 := by
  have h1 := h.len
  have h2 := nb_8 h.num
  have h3 := nb_lt 2 f.s.size (by omega)
  unfold fieldL
  split
  · simp only [List.length_cons, List.length_append, numL_len, size_list]; omega
  · simp only [List.length_cons, numL_len]; omega
theorem num_head (n : Nat) : ¬ (0 < nb n ∧ (beB (nb n) n).head? = some 0) := by
  rintro ⟨h, h1⟩
  have hn : n ≠ 0 := fun e => by subst e; rw [nb_zero] at h; omega
  obtain ⟨a, l, h2, h3⟩ := beB_head hn
  rw [h2] at h1
  simp at h1
  exact h3 h1
/-- The head's byte. -/
def headN (f : Fd) : Nat := if f.isT then (2 * f.tag + 1).toNat else (2 * f.tag).toNat
theorem take_app (a b : List UInt8) (n : Nat) (h : a.length = n) : (a ++ b).take n = a := by subst h; simp
theorem drop_app (a b : List UInt8) (n : Nat) (h : a.length = n) : (a ++ b).drop n = b := by subst h; simp
theorem head_app (n : Nat) (r : List UInt8) : ¬ (0 < nb n ∧ (beB (nb n) n ++ r).head? = some 0) := by
  rintro ⟨h, h1⟩
  refine num_head n ⟨h, ?_⟩
  have hl := beB_len (nb n) n
  cases hb : beB (nb n) n with
  | nil => rw [hb] at hl; simp at hl; omega
  | cons x xs => rw [hb] at h1; simpa using h1
/-- A field that was put is read. -/
theorem rdF_field {f : Fd} (hf : f.Ok) (last : Int) (hl : last < f.tag) (r : List UInt8) : ∃ h l, fieldL f = h :: l ∧ rdF last h (l ++ r) = .inr (f, r) := by
  obtain ⟨t1, t2⟩ := may_tag hf.may
  cases ht : f.isT with
  | true =>
    have hn := may_text hf.may ht
    have h3 := nb_lt 2 f.s.size (by have := hf.len; omega)
    have hlen := hf.len
    refine ⟨UInt8.ofNat (2 * f.tag + 1).toNat, numL f.s.size ++ f.s.data.toList, by rw [fieldL, if_pos ht], ?_⟩
    have hh : (UInt8.ofNat (2 * f.tag + 1).toNat).toNat = (2 * f.tag + 1).toNat := toNat_of _ (by omega)
    have hk : (UInt8.ofNat (nb f.s.size)).toNat = nb f.s.size := toNat_of _ (by omega)
    have e : numL f.s.size ++ f.s.data.toList ++ r = UInt8.ofNat (nb f.s.size) :: (beB (nb f.s.size) f.s.size ++ (f.s.data.toList ++ r)) := by simp [numL]
    rw [e]
    have hb := beB_len (nb f.s.size) f.s.size
    unfold rdF
    rw [hh, if_neg (by omega), if_neg (by omega)]
    simp only []
    rw [hk, if_neg (by omega), if_neg (by rw [List.length_append, hb]; omega), if_neg (head_app _ _), if_neg (by omega), take_app _ _ _ hb, drop_app _ _ _ hb, foldB_beB _ _ (nb_is _), if_neg (by omega), if_neg (by rw [List.length_append, size_list]; omega), take_app _ _ _ (size_list _), drop_app _ _ _ (size_list _)]
    congr 2
    obtain ⟨a, b, c, d⟩ := f
    simp only at ht hn
    subst ht hn
    simp only [Fd.mk.injEq, and_true, true_and]
    simp only [Fd.tag] at t1 t2 ⊢
    omega
  | false =>
    have hs := may_num hf.may ht
    have h3 := nb_8 hf.num
    refine ⟨UInt8.ofNat (2 * f.tag).toNat, numL f.n, by rw [fieldL, ht]; rfl, ?_⟩
    have hh : (UInt8.ofNat (2 * f.tag).toNat).toNat = (2 * f.tag).toNat := toNat_of _ (by omega)
    have hk : (UInt8.ofNat (nb f.n)).toNat = nb f.n := toNat_of _ (by omega)
    have e : numL f.n ++ r = UInt8.ofNat (nb f.n) :: (beB (nb f.n) f.n ++ r) := by simp [numL]
    rw [e]
    have hb := beB_len (nb f.n) f.n
    unfold rdF
    rw [hh, if_neg (by omega), if_neg (by omega)]
    simp only []
    rw [hk, if_neg (by omega), if_neg (by rw [List.length_append, hb]; omega), if_neg (head_app _ _), if_pos (by omega), take_app _ _ _ hb, drop_app _ _ _ hb, foldB_beB _ _ (nb_is _)]
    congr 2
    obtain ⟨a, b, c, d⟩ := f
    simp only at ht hs
    subst ht hs
    simp only [Fd.mk.injEq, and_true, true_and]
    simp only [Fd.tag] at t1 t2 ⊢
    omega
theorem nb_of_list (l : List UInt8) (h : ¬ (0 < l.length ∧ l.head? = some 0)) : nb (foldB l) = l.length := by
  cases l with
  | nil => exact nb_zero
  | cons a l =>
    rw [nb_foldB (fun e => h ⟨by simp, by rw [e]; rfl⟩)]
    rfl
theorem ofNat_toNat8 (k : UInt8) : UInt8.ofNat k.toNat = k := by simp
theorem num_of (k : UInt8) (l : List UInt8) (hk : k.toNat ≤ l.length) (h : ¬ (0 < k.toNat ∧ l.head? = some 0)) : numL (foldB (l.take k.toNat)) = k :: l.take k.toNat := by
  have hl : (l.take k.toNat).length = k.toNat := by rw [List.length_take]; omega
  have hn : nb (foldB (l.take k.toNat)) = k.toNat := by
    have := nb_of_list (l.take k.toNat) (by
      rw [hl]
      rintro ⟨h1, h2⟩
      refine h ⟨h1, ?_⟩
      rw [List.head?_take] at h2
      simpa [show k.toNat ≠ 0 by omega] using h2)
    rw [this, hl]
  unfold numL
  rw [hn, ofNat_toNat8]
  congr 1
  have := beB_foldB (l.take k.toNat)
  rw [hl] at this
  exact this
/-- A field that is read was put. -/
theorem field_rdF {last : Int} {h : UInt8} {l : List UInt8} {f : Fd} {r : List UInt8} (hr : rdF last h l = .inr (f, r)) : h :: l = fieldL f ++ r ∧ f.Ok ∧ last < f.tag := by
  unfold rdF at hr
  have hh := h.toNat_lt
  split at hr
  · cases hr
  rename_i c1
  split at hr
  · cases hr
  rename_i c2
  cases l with
  | nil => cases hr
  | cons k l2 =>
    simp only [] at hr
    split at hr
    · cases hr
    rename_i c3
    split at hr
    · cases hr
    rename_i c4
    split at hr
    · cases hr
    rename_i c5
    have hnum := num_of k l2 (by omega) c5
    have hlt := foldB_lt (l2.take k.toNat)
    have hlk : (l2.take k.toNat).length ≤ 8 := by rw [List.length_take]; omega
    have hlt2 : foldB (l2.take k.toNat) < 18446744073709551616 := Nat.lt_of_lt_of_le hlt (by
      have := Nat.pow_le_pow_right (show 0 < 256 by decide) hlk
      exact this)
    split at hr
    · rename_i c6
      simp only [Sum.inr.injEq, Prod.mk.injEq] at hr
      obtain ⟨rfl, rfl⟩ := hr
      refine ⟨?_, ⟨?_, by show (0 : Nat) ≤ 2000; omega, hlt2⟩, by show last < ((h.toNat / 2 : Nat) : Int); omega⟩
      · unfold fieldL
        simp only [Bool.false_eq_true, if_false]
        rw [hnum]
        have e : (2 * ((h.toNat / 2 : Nat) : Int)).toNat = h.toNat := by omega
        rw [e, ofNat_toNat8]
        simp
      · unfold mayF
        simp only [Bool.false_eq_true, if_false, Bool.and_eq_true, decide_eq_true_eq]
        refine ⟨⟨by omega, by omega⟩, by decide⟩
    · rename_i c6
      split at hr
      · cases hr
      rename_i c7
      split at hr
      · cases hr
      rename_i c8
      simp only [Sum.inr.injEq, Prod.mk.injEq] at hr
      obtain ⟨rfl, rfl⟩ := hr
      have hsz : ((⟨((l2.drop k.toNat).take (foldB (l2.take k.toNat))).toArray⟩ : ByteArray)).size = foldB (l2.take k.toNat) := by
        show (List.toArray _).size = _
        rw [List.size_toArray, List.length_take]
        omega
      refine ⟨?_, ⟨?_, by show ByteArray.size _ ≤ 2000; rw [hsz]; omega, by show (0 : Nat) < _; omega⟩, by show last < ((h.toNat / 2 : Nat) : Int); omega⟩
      · unfold fieldL
        simp only [if_true]
        rw [hsz, hnum]
        have e : (2 * ((h.toNat / 2 : Nat) : Int) + 1).toNat = h.toNat := by omega
        rw [e, ofNat_toNat8]
        simp only [List.cons_append, List.append_assoc, List.take_append_drop]
      · unfold mayF
        simp only [if_true, Bool.and_eq_true, decide_eq_true_eq]
        refine ⟨⟨by omega, by omega⟩, by decide⟩
theorem rdF_code {last : Int} {h : UInt8} {l : List UInt8} {c : Int} (hr : rdF last h l = .inl c) : c ≠ 0 := by
  unfold rdF at hr
  split at hr
  · simp only [Sum.inl.injEq] at hr; omega
  split at hr
  · simp only [Sum.inl.injEq] at hr; omega
  cases l with
  | nil => simp only [Sum.inl.injEq] at hr; omega
  | cons k l2 =>
    simp only [] at hr
    split at hr
    · simp only [Sum.inl.injEq] at hr; omega
    split at hr
    · simp only [Sum.inl.injEq] at hr; omega
    split at hr
    · simp only [Sum.inl.injEq] at hr; omega
    split at hr
    · cases hr
    split at hr
    · simp only [Sum.inl.injEq] at hr; omega
    split at hr
    · simp only [Sum.inl.injEq] at hr; omega
    cases hr
/-- Where a field's bytes are cut, the next one is short. -/
theorem rdF_cut {f : Fd} (hf : f.Ok) (last : Int) (hl : last < f.tag) {n : Nat} (h0 : 0 < n) (hn : n < (fieldL f).length) : ∃ h l, (fieldL f).take n = h :: l ∧ l.length + 1 = n ∧ rdF last h l = .inl 3 := by
  obtain ⟨t1, t2⟩ := may_tag hf.may
  obtain ⟨m, rfl⟩ : ∃ m, n = m + 1 := ⟨n - 1, by omega⟩
  cases ht : f.isT with
  | true =>
    have hn0 := may_text hf.may ht
    have h3 := nb_lt 2 f.s.size (by have := hf.len; omega)
    have hlen := hf.len
    have e0 : fieldL f = UInt8.ofNat (2 * f.tag + 1).toNat :: (UInt8.ofNat (nb f.s.size) :: (beB (nb f.s.size) f.s.size ++ f.s.data.toList)) := by rw [fieldL, if_pos ht]; simp [numL]
    have hb := beB_len (nb f.s.size) f.s.size
    rw [e0] at hn ⊢
    simp only [List.length_cons, List.length_append, hb, size_list] at hn
    refine ⟨UInt8.ofNat (2 * f.tag + 1).toNat, _, by rw [List.take_succ_cons], by rw [List.length_take]; simp [hb, size_list]; omega, ?_⟩
    have hh : (UInt8.ofNat (2 * f.tag + 1).toNat).toNat = (2 * f.tag + 1).toNat := toNat_of _ (by omega)
    have hk : (UInt8.ofNat (nb f.s.size)).toNat = nb f.s.size := toNat_of _ (by omega)
    unfold rdF
    rw [hh, if_neg (by omega), if_neg (by omega)]
    cases m with
    | zero => rfl
    | succ m =>
      rw [List.take_succ_cons]
      simp only []
      rw [hk, if_neg (by omega)]
      by_cases c : m < nb f.s.size
      · rw [if_pos (by rw [List.length_take, List.length_append, hb, size_list]; omega)]
      · rw [if_neg (by rw [List.length_take, List.length_append, hb, size_list]; omega)]
        obtain ⟨j, rfl⟩ : ∃ j, m = nb f.s.size + j := ⟨m - nb f.s.size, by omega⟩
        have e1 : (beB (nb f.s.size) f.s.size ++ f.s.data.toList).take (nb f.s.size + j) = beB (nb f.s.size) f.s.size ++ f.s.data.toList.take j := by
          rw [List.take_append, hb, List.take_of_length_le (by omega)]
          congr 2
          omega
        rw [e1, if_neg (head_app _ _), if_neg (by omega), take_app _ _ _ hb, drop_app _ _ _ hb, foldB_beB _ _ (nb_is _), if_neg (by omega), if_pos (by rw [List.length_take, size_list]; omega)]
  | false =>
    have hs := may_num hf.may ht
    have h3 := nb_8 hf.num
    have e0 : fieldL f = UInt8.ofNat (2 * f.tag).toNat :: (UInt8.ofNat (nb f.n) :: beB (nb f.n) f.n) := by rw [fieldL, ht]; rfl
    have hb := beB_len (nb f.n) f.n
    rw [e0] at hn ⊢
    simp only [List.length_cons, hb] at hn
    refine ⟨UInt8.ofNat (2 * f.tag).toNat, _, by rw [List.take_succ_cons], by rw [List.length_take]; simp [hb]; omega, ?_⟩
    have hh : (UInt8.ofNat (2 * f.tag).toNat).toNat = (2 * f.tag).toNat := toNat_of _ (by omega)
    have hk : (UInt8.ofNat (nb f.n)).toNat = nb f.n := toNat_of _ (by omega)
    unfold rdF
    rw [hh, if_neg (by omega), if_neg (by omega)]
    cases m with
    | zero => rfl
    | succ m =>
      rw [List.take_succ_cons]
      simp only []
      rw [hk, if_neg (by omega), if_pos (by rw [List.length_take, hb]; omega)]

/-- What bytes are read as, behind a tag, at most k fields: the code, how many bytes are left where it is told, and the fields. -/
def rdK : Nat → Int → List UInt8 → Int × Nat × List Fd
  | _, _, [] => (0, 0, [])
  | 0, _, h :: l => (4, l.length + 1, [])
  | k + 1, last, h :: l => match rdF last h l with
    | .inl c => (c, l.length + 1, [])
    | .inr (f, r) => ((rdK k f.tag r).1, (rdK k f.tag r).2.1, f :: (rdK k f.tag r).2.2)
theorem rdK_nil (k : Nat) (last : Int) : rdK k last [] = (0, 0, []) := by cases k <;> rfl
theorem rdK_zero (last : Int) (h : UInt8) (l : List UInt8) : rdK 0 last (h :: l) = (4, l.length + 1, []) := rfl
theorem rdK_bad {k : Nat} {last : Int} {h : UInt8} {l : List UInt8} {c : Int} (hr : rdF last h l = .inl c) : rdK (k + 1) last (h :: l) = (c, l.length + 1, []) := by
  rw [rdK, hr]
theorem rdK_good {k : Nat} {last : Int} {h : UInt8} {l : List UInt8} {f : Fd} {r : List UInt8} (hr : rdF last h l = .inr (f, r)) : rdK (k + 1) last (h :: l) = ((rdK k f.tag r).1, (rdK k f.tag r).2.1, f :: (rdK k f.tag r).2.2) := by
  rw [rdK, hr]
/-- The bytes of fields. -/
def flatL (l : List Fd) : List UInt8 := (l.map fieldL).flatten
theorem flatL_cons (f : Fd) (l : List Fd) : flatL (f :: l) = fieldL f ++ flatL l := rfl
theorem flatL_append (a b : List Fd) : flatL (a ++ b) = flatL a ++ flatL b := by simp [flatL]
theorem codeL_cons {last : Int} {f : Fd} {l : List Fd} (hn : f.n < 18446744073709551616) (h : codeL last (f :: l) = 0) : f.Ok ∧ last < f.tag ∧ codeL f.tag l = 0 := by
  rw [codeL] at h
  split at h
  · omega
  rename_i c1
  split at h
  · omega
  rename_i c2
  split at h
  · omega
  rename_i c3
  exact ⟨⟨by simpa using c1, by omega, hn⟩, by omega, h⟩
theorem codeL_of {last : Int} {f : Fd} {l : List Fd} (hf : f.Ok) (hl : last < f.tag) : codeL last (f :: l) = codeL f.tag l := by
  rw [codeL, if_neg (by rw [hf.may]; decide), if_neg (by omega), if_neg (by have := hf.len; omega)]
/-- What was put is read. -/
theorem rdK_flat : ∀ (l : List Fd) (k : Nat) (last : Int), (∀ f ∈ l, f.n < 18446744073709551616) → codeL last l = 0 → l.length ≤ k → rdK k last (flatL l) = (0, 0, l)
  | [], k, last, _, _, _ => rdK_nil k last
  | f :: l, k, last, hn, hc, hk => by
    obtain ⟨hf, hl, hc2⟩ := codeL_cons (hn f List.mem_cons_self) hc
    obtain ⟨h, q, e1, e2⟩ := rdF_field hf last hl (flatL l)
    obtain ⟨k, rfl⟩ : ∃ j, k = j + 1 := ⟨k - 1, by simp at hk; omega⟩
    rw [flatL_cons, e1, List.cons_append, rdK_good e2, rdK_flat l k f.tag (fun g hg => hn g (List.mem_cons_of_mem _ hg)) hc2 (by simpa using hk)]
/-- What is read was put. -/
theorem flat_rdK : ∀ (k : Nat) (last : Int) (b : List UInt8), (rdK k last b).1 = 0 → flatL (rdK k last b).2.2 = b ∧ codeL last (rdK k last b).2.2 = 0 ∧ (rdK k last b).2.2.length ≤ k ∧ ∀ f ∈ (rdK k last b).2.2, f.Ok
  | k, last, [], _ => by
    rw [rdK_nil]
    exact ⟨rfl, rfl, Nat.zero_le _, fun f hf => by cases hf⟩
  | 0, last, h :: l, hc => by
    rw [rdK_zero] at hc
    cases hc
  | k + 1, last, h :: l, hc => by
    cases e : rdF last h l with
    | inl c =>
      rw [rdK_bad e] at hc
      exact absurd hc (rdF_code e)
    | inr p =>
      obtain ⟨f, r⟩ := p
      rw [rdK_good e] at hc ⊢
      obtain ⟨h1, h2, h3⟩ := field_rdF e
      obtain ⟨i1, i2, i3, i4⟩ := flat_rdK k f.tag r hc
      refine ⟨by rw [flatL_cons, i1, h1], by rw [codeL_of h2 h3]; exact i2, by simpa using i3, fun g hg => ?_⟩
      rcases List.mem_cons.1 hg with rfl | hg
      · exact h2
      · exact i4 g hg
end Go.Proofs.YtemngdhbicndlaaDoor
