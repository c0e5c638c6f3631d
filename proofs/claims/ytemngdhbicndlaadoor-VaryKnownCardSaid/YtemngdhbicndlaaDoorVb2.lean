/- Tagged fields, plain: what loops keep; lists one behind the other; cuts. -/
import Derived.Test.YtemngdhbicndlaaDoorVb1
namespace Go.Proofs.YtemngdhbicndlaaDoor
set_option linter.unusedVariables false
set_option linter.unusedSimpArgs false

/-- The last tag of fields. -/
def lastT : Int → List Fd → Int
  | last, [] => last
  | _, f :: l => lastT f.tag l
theorem lastT_snoc : ∀ (l : List Fd) (last : Int) (f : Fd), lastT last (l ++ [f]) = f.tag
  | [], _, _ => rfl
  | g :: l, _, f => lastT_snoc l g.tag f
/-- So far a list of fields is all right. -/
def PutI (l : List Fd) (k : Nat) : Prop := codeL 0 l = codeL (lastT 0 (l.take k)) (l.drop k)
theorem PutI.start (l : List Fd) : PutI l 0 := rfl
theorem drop_at {l : List Fd} {k : Nat} {f : Fd} (h : l[k]? = some f) : l.drop k = f :: l.drop (k + 1) := by
  have hk := (List.getElem?_eq_some_iff.1 h).1
  rw [List.drop_eq_getElem_cons hk]
  congr 1
  exact (List.getElem?_eq_some_iff.1 h).2
theorem take_at {l : List Fd} {k : Nat} {f : Fd} (h : l[k]? = some f) : l.take (k + 1) = l.take k ++ [f] := by
  rw [List.take_add_one, h]
  rfl
theorem PutI.at {l : List Fd} {k : Nat} {f : Fd} (h : PutI l k) (hf : l[k]? = some f) : codeL 0 l = if mayF f = false then 2 else if f.tag ≤ lastT 0 (l.take k) then 7 else if 2000 < f.s.size then 4 else codeL f.tag (l.drop (k + 1)) := by
  unfold PutI at h
  rw [drop_at hf, codeL] at h
  exact h
theorem PutI.next {l : List Fd} {k : Nat} {f : Fd} (h : PutI l k) (hf : l[k]? = some f) (h1 : mayF f = true) (h2 : ¬ f.tag ≤ lastT 0 (l.take k)) (h3 : ¬ 2000 < f.s.size) : PutI l (k + 1) := by
  have q := h.at hf
  rw [if_neg (by rw [h1]; decide), if_neg h2, if_neg h3] at q
  unfold PutI
  rw [q, take_at hf, lastT_snoc]
theorem PutI.all {l : List Fd} (h : PutI l l.length) : codeL 0 l = 0 := by
  unfold PutI at h
  rw [List.drop_length, codeL] at h
  exact h
theorem flat_at1 {l : List Fd} {k : Nat} {f : Fd} (h : l[k]? = some f) : flatL (l.take (k + 1)) = flatL (l.take k) ++ fieldL f := by
  rw [take_at h, flatL_append]
  simp [flatL]

theorem codeL_low : ∀ (l : List Fd) (a b : Int), a ≤ b → codeL b l = 0 → codeL a l = 0
  | [], _, _, _, _ => rfl
  | f :: l, a, b, hab, h => by
    rw [codeL] at h ⊢
    split at h
    · omega
    rename_i c1
    split at h
    · omega
    rename_i c2
    split at h
    · omega
    rename_i c3
    rw [if_neg c1, if_neg (by omega), if_neg c3]
    exact h
theorem codeL_append : ∀ (a b : List Fd) (last : Int), codeL last (a ++ b) = 0 → codeL last a = 0 ∧ codeL (lastT last a) b = 0
  | [], b, last, h => ⟨rfl, h⟩
  | f :: a, b, last, h => by
    rw [List.cons_append, codeL] at h
    rw [codeL]
    split at h
    · omega
    rename_i c1
    split at h
    · omega
    rename_i c2
    split at h
    · omega
    rename_i c3
    rw [if_neg c1, if_neg c2, if_neg c3]
    exact codeL_append a b f.tag h
theorem lastT_ge : ∀ (a : List Fd) (last : Int), codeL last a = 0 → last ≤ lastT last a
  | [], _, _ => Int.le_refl _
  | f :: a, last, h => by
    rw [codeL] at h
    split at h
    · omega
    split at h
    · omega
    split at h
    · omega
    have := lastT_ge a f.tag h
    show last ≤ lastT f.tag a
    omega
theorem codeL_drop {l : List Fd} (i : Nat) (h : codeL 0 l = 0) : codeL 0 (l.take i) = 0 ∧ codeL 0 (l.drop i) = 0 := by
  rw [← List.take_append_drop i l] at h
  obtain ⟨h1, h2⟩ := codeL_append _ _ _ h
  exact ⟨h1, codeL_low _ _ _ (lastT_ge _ _ h1) h2⟩
theorem rdK_app : ∀ (l : List Fd) (k : Nat) (last : Int) (r : List UInt8), (∀ f ∈ l, f.n < 18446744073709551616) → codeL last l = 0 → l.length ≤ k →
    rdK k last (flatL l ++ r) = ((rdK (k - l.length) (lastT last l) r).1, (rdK (k - l.length) (lastT last l) r).2.1, l ++ (rdK (k - l.length) (lastT last l) r).2.2)
  | [], k, last, r, _, _, _ => rfl
  | f :: l, k, last, r, hn, hc, hk => by
    obtain ⟨hf, hl, hc2⟩ := codeL_cons (hn f List.mem_cons_self) hc
    obtain ⟨h, q, e1, e2⟩ := rdF_field hf last hl (flatL l ++ r)
    obtain ⟨k, rfl⟩ : ∃ j, k = j + 1 := ⟨k - 1, by simp at hk; omega⟩
    rw [flatL_cons, e1, List.append_assoc, List.cons_append, rdK_good e2, rdK_app l k f.tag r (fun g hg => hn g (List.mem_cons_of_mem _ hg)) hc2 (by simpa using hk)]
    have e : k + 1 - (f :: l).length = k - l.length := by rw [List.length_cons]; omega
    rw [e]
    rfl

/-- The code of what is read. -/
def readC (L : List UInt8) : Int := (rdK 32 0 L).1
/-- Where it is told. -/
def readT (L : List UInt8) : Int := if readC L = 0 then 0 else ((L.length - (rdK 32 0 L).2.1 : Nat) : Int)
/-- The fields that are read. -/
def readF (L : List UInt8) : List Fd := if readC L = 0 then (rdK 32 0 L).2.2 else []
/-- So far bytes are read. -/
structure RdI (L : List UInt8) (acc : List Fd) (last : Int) (m : Nat) : Prop where
  len : acc.length ≤ 32
  le : m ≤ L.length
  is : rdK 32 0 L = ((rdK (32 - acc.length) last (L.drop m)).1, (rdK (32 - acc.length) last (L.drop m)).2.1, acc ++ (rdK (32 - acc.length) last (L.drop m)).2.2)
theorem RdI.start (L : List UInt8) : RdI L [] 0 0 := ⟨Nat.zero_le _, Nat.zero_le _, rfl⟩
theorem RdI.all {L : List UInt8} {acc : List Fd} {last : Int} (h : RdI L acc last L.length) : readC L = 0 ∧ readT L = 0 ∧ readF L = acc := by
  have q := h.is
  rw [List.drop_length, rdK_nil] at q
  unfold readT readF readC
  rw [q]
  simp
theorem dropL_at {L : List UInt8} {m : Nat} (h : m < L.length) : L.drop m = L[m] :: L.drop (m + 1) := List.drop_eq_getElem_cons h
theorem RdI.full {L : List UInt8} {acc : List Fd} {last : Int} {m : Nat} (h : RdI L acc last m) (hm : m < L.length) (ha : acc.length = 32) : readC L = 4 ∧ readT L = m ∧ readF L = [] := by
  have q := h.is
  rw [dropL_at hm, ha, Nat.sub_self, rdK_zero] at q
  unfold readT readF readC
  rw [q]
  simp
  omega
theorem RdI.bad {L : List UInt8} {acc : List Fd} {last : Int} {m : Nat} (h : RdI L acc last m) (hm : m < L.length) (ha : acc.length ≠ 32) {c : Int} (hc : rdF last L[m] (L.drop (m + 1)) = .inl c) : readC L = c ∧ readT L = m ∧ readF L = [] ∧ c ≠ 0 := by
  have q := h.is
  have hl := h.len
  have h0 := rdF_code hc
  obtain ⟨k, hk⟩ : ∃ k, 32 - acc.length = k + 1 := ⟨31 - acc.length, by omega⟩
  rw [dropL_at hm, hk, rdK_bad hc] at q
  unfold readT readF readC
  rw [q]
  simp [h0]
  omega
theorem RdI.good {L : List UInt8} {acc : List Fd} {last : Int} {m : Nat} (h : RdI L acc last m) (hm : m < L.length) (ha : acc.length ≠ 32) {f : Fd} {m' : Nat} (hm' : m' ≤ L.length) (hc : rdF last L[m] (L.drop (m + 1)) = .inr (f, L.drop m')) : RdI L (acc ++ [f]) f.tag m' := by
  have q := h.is
  have hl := h.len
  obtain ⟨k, hk⟩ : ∃ k, 32 - acc.length = k + 1 := ⟨31 - acc.length, by omega⟩
  rw [dropL_at hm, hk, rdK_good hc] at q
  refine ⟨by simp; omega, hm', ?_⟩
  have e : 32 - (acc ++ [f]).length = k := by simp; omega
  rw [q, e]
  simp
/-- What was put is read. -/
theorem read_flat {l : List Fd} (hn : ∀ f ∈ l, f.n < 18446744073709551616) (h : putC l = 0) : readC (flatL l) = 0 ∧ readT (flatL l) = 0 ∧ readF (flatL l) = l := by
  unfold putC at h
  split at h
  · omega
  have q := rdK_flat l 32 0 hn h (by omega)
  unfold readT readF readC
  rw [q]
  simp
theorem putL_of {l : List Fd} (h : putC l = 0) : putL l = flatL l := by
  unfold putL
  rw [if_pos h]
  rfl
/-- What is read was put. -/
theorem flat_read {L : List UInt8} (h : readC L = 0) : putC (readF L) = 0 ∧ putL (readF L) = L ∧ ∀ f ∈ readF L, f.n < 18446744073709551616 ∧ f.s.size ≤ 2000 := by
  obtain ⟨h1, h2, h3, h4⟩ := flat_rdK 32 0 L h
  have e : readF L = (rdK 32 0 L).2.2 := if_pos h
  have hp : putC (readF L) = 0 := by
    unfold putC
    rw [e, if_neg (by omega)]
    exact h2
  refine ⟨hp, by rw [putL_of hp, e]; exact h1, fun f hf => ?_⟩
  rw [e] at hf
  exact ⟨(h4 f hf).num, (h4 f hf).len⟩
theorem readF_len (L : List UInt8) : (readF L).length ≤ 32 := by
  unfold readF
  split
  · rename_i h
    exact (flat_rdK 32 0 L h).2.2.1
  · simp
theorem put_part {l : List Fd} (i : Nat) (h : putC l = 0) : putC (l.take i) = 0 ∧ putC (l.drop i) = 0 ∧ putL (l.take i) ++ putL (l.drop i) = putL l := by
  have h0 := h
  unfold putC at h
  split at h
  · omega
  rename_i c
  obtain ⟨h1, h2⟩ := codeL_drop i h
  have p1 : putC (l.take i) = 0 := by
    unfold putC
    rw [if_neg (by rw [List.length_take]; omega)]
    exact h1
  have p2 : putC (l.drop i) = 0 := by
    unfold putC
    rw [if_neg (by rw [List.length_drop]; omega)]
    exact h2
  refine ⟨p1, p2, ?_⟩
  rw [putL_of p1, putL_of p2, putL_of h0, ← flatL_append, List.take_append_drop]
/-- How many bytes the first i fields have. -/
def begA (l : List Fd) (i : Nat) : Nat := (flatL (l.take i)).length
theorem begA_mono {l : List Fd} {i : Nat} {f : Fd} (h : l[i]? = some f) : begA l (i + 1) = begA l i + (fieldL f).length := by
  unfold begA
  rw [flat_at1 h, List.length_append]
theorem begA_all (l : List Fd) : begA l l.length = (flatL l).length := by unfold begA; rw [List.take_length]
/-- Bytes that are cut between two fields. -/
theorem cut_at {l : List Fd} (hn : ∀ f ∈ l, f.n < 18446744073709551616) (h : putC l = 0) {i : Nat} (hi : i ≤ l.length) : (flatL l).take (begA l i) = flatL (l.take i) := by
  have e : flatL l = flatL (l.take i) ++ flatL (l.drop i) := by rw [← flatL_append, List.take_append_drop]
  rw [e]
  exact take_app _ _ _ rfl
theorem read_cut_at {l : List Fd} (hn : ∀ f ∈ l, f.n < 18446744073709551616) (h : putC l = 0) {i : Nat} (hi : i ≤ l.length) : readC ((flatL l).take (begA l i)) = 0 ∧ readT ((flatL l).take (begA l i)) = 0 ∧ readF ((flatL l).take (begA l i)) = l.take i := by
  rw [cut_at hn h hi]
  exact read_flat (fun f hf => hn f (List.mem_of_mem_take hf)) (put_part i h).1
/-- Bytes that are cut within a field. -/
theorem read_cut_in {l : List Fd} (hn : ∀ f ∈ l, f.n < 18446744073709551616) (h : putC l = 0) {i n : Nat} {f : Fd} (hi : l[i]? = some f) (h0 : begA l i < n) (h1 : n < begA l (i + 1)) : readC ((flatL l).take n) = 3 ∧ readT ((flatL l).take n) = begA l i ∧ readF ((flatL l).take n) = [] := by
  have hl := (List.getElem?_eq_some_iff.1 hi).1
  have h' := h
  unfold putC at h'
  split at h'
  · omega
  rename_i c
  rw [begA_mono hi] at h1
  rw [← List.take_append_drop i l] at h'
  obtain ⟨q1, q2⟩ := codeL_append _ _ _ h'
  rw [drop_at hi] at q2
  obtain ⟨hf, hlt, _⟩ := codeL_cons (hn f (List.mem_of_getElem? hi)) q2
  obtain ⟨b, p, e1, e2, e3⟩ := rdF_cut hf _ hlt (n := n - begA l i) (by omega) (by omega)
  have e : (flatL l).take n = flatL (l.take i) ++ (b :: p) := by
    have e0 : flatL l = flatL (l.take i) ++ (fieldL f ++ flatL (l.drop (i + 1))) := by
      rw [← flatL_cons, ← drop_at hi, ← flatL_append, List.take_append_drop]
    have e4 : n = (flatL (l.take i)).length + (n - begA l i) := by unfold begA at h0 ⊢; omega
    rw [e0, ← e1]
    conv => lhs; rw [e4]
    rw [List.take_length_add_append]
    congr 1
    rw [List.take_append_of_le_length (by omega)]
  have hk := rdK_app (l.take i) 32 0 (b :: p) (fun f hf => hn f (List.mem_of_mem_take hf)) q1 (by rw [List.length_take]; omega)
  obtain ⟨k, hkk⟩ : ∃ k, 32 - (l.take i).length = k + 1 := ⟨31 - (l.take i).length, by rw [List.length_take]; omega⟩
  rw [hkk, rdK_bad e3] at hk
  unfold readT readF readC
  rw [e, hk]
  simp only [List.length_append, List.length_cons]
  simp
  unfold begA
  rfl
theorem find_at {l : List Fd} {tag : Int} {k : Nat} {f : Fd} (h : l[k]? = some f) (hn : (l.take k).find? (fun g => g.tag == tag) = none) : l.find? (fun g => g.tag == tag) = if f.tag = tag then some f else (l.drop (k + 1)).find? (fun g => g.tag == tag) := by
  conv => lhs; rw [← List.take_append_drop k l, List.find?_append, hn, drop_at h, List.find?_cons]
  by_cases c : f.tag = tag
  · rw [if_pos c]
    simp [c]
  · have e : (f.tag == tag) = false := by simp [c]
    rw [if_neg c, e]
    rfl
theorem find_next {l : List Fd} {tag : Int} {k : Nat} {f : Fd} (h : l[k]? = some f) (hn : (l.take k).find? (fun g => g.tag == tag) = none) (hf : f.tag ≠ tag) : (l.take (k + 1)).find? (fun g => g.tag == tag) = none := by
  rw [take_at h, List.find?_append, hn]
  simp [hf]
theorem find_none {l : List Fd} {tag : Int} (hn : (l.take l.length).find? (fun g => g.tag == tag) = none) : l.find? (fun g => g.tag == tag) = none := by
  rwa [List.take_length] at hn
end Go.Proofs.YtemngdhbicndlaaDoor
