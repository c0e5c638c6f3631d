/- Labels of seats, plain. -/
import Derived.Test.YteelccgaemmmpaaDoorId1
import Derived.Lib.Join
namespace Go.Proofs.YteelccgaemmmpaaDoor
set_option linter.unusedVariables false
set_option linter.unusedSimpArgs false

def inS (x : Int) : Bool := decide (0 ≤ x ∧ x < 64)
def lab (n : Nat) : List UInt8 := [UInt8.ofNat (49 + n / 8), UInt8.ofNat (65 + n % 8)]
def labL (x : Int) : List UInt8 := if inS x = true then lab x.toNat else []
def seatN (a b : UInt8) : Int := 8 * ((a.toNat : Int) - 49) + ((b.toNat : Int) - 65)
def isL (a b : UInt8) : Bool := decide (49 ≤ a.toNat ∧ a.toNat ≤ 56 ∧ 65 ≤ b.toNat ∧ b.toNat ≤ 72)
/-- The seat of a label; -1: none. -/
def seatI : List UInt8 → Int
  | [a, b] => if isL a b = true then seatN a b else -1
  | _ => -1
theorem u8_toNat {n : Nat} (h : n < 256) : (UInt8.ofNat n).toNat = n := by simp [Nat.mod_eq_of_lt h]
theorem lab_isL (n : Nat) (h : n < 64) : isL (UInt8.ofNat (49 + n / 8)) (UInt8.ofNat (65 + n % 8)) = true ∧ seatN (UInt8.ofNat (49 + n / 8)) (UInt8.ofNat (65 + n % 8)) = n := by
  unfold isL seatN
  rw [u8_toNat (by omega), u8_toNat (by omega), decide_eq_true_eq]
  omega
theorem seatI_lab (n : Nat) (h : n < 64) : seatI (lab n) = n := by
  show (if isL _ _ = true then seatN _ _ else -1) = _
  rw [if_pos (lab_isL n h).1, (lab_isL n h).2]
theorem seatI_bd (l : List UInt8) : -1 ≤ seatI l ∧ seatI l < 64 := by
  unfold seatI
  split
  · split
    · rename_i h
      unfold isL at h
      rw [decide_eq_true_eq] at h
      unfold seatN
      omega
    · omega
  · omega
theorem lab_seatI {l : List UInt8} (h : 0 ≤ seatI l) : l = labL (seatI l) := by
  have hb := (seatI_bd l).2
  unfold labL
  rw [if_pos (by unfold inS; rw [decide_eq_true_eq]; exact ⟨h, hb⟩)]
  unfold seatI at h ⊢
  split at h
  · rename_i a b
    split at h
    · rename_i hi
      simp only [if_pos hi]
      unfold isL at hi
      rw [decide_eq_true_eq] at hi
      unfold lab seatN
      have e1 : 49 + (8 * ((a.toNat : Int) - 49) + ((b.toNat : Int) - 65)).toNat / 8 = a.toNat := by omega
      have e2 : 65 + (8 * ((a.toNat : Int) - 49) + ((b.toNat : Int) - 65)).toNat % 8 = b.toNat := by omega
      rw [e1, e2]
      simp
    · omega
  · omega
theorem labL_len (x : Int) (h : inS x = true) : (labL x).length = 2 := by unfold labL; rw [if_pos h]; rfl
theorem labL_no (x : Int) (h : inS x = false) : labL x = [] := by unfold labL; rw [if_neg (by simp [h])]
theorem seatI_labL (x : Int) (h : inS x = true) : seatI (labL x) = x := by
  unfold labL
  rw [if_pos h]
  unfold inS at h
  rw [decide_eq_true_eq] at h
  rw [seatI_lab _ (by omega)]
  omega
theorem seatI_nil : seatI [] = -1 := rfl
theorem lab_no32 (x : Int) (h : inS x = true) : ∀ c ∈ labL x, c ≠ 32 := by
  unfold labL
  rw [if_pos h]
  unfold inS at h
  rw [decide_eq_true_eq] at h
  intro c hc
  unfold lab at hc
  simp only [List.mem_cons, List.not_mem_nil, or_false] at hc
  rcases hc with rfl | rfl
  · intro e
    have := congrArg UInt8.toNat e
    rw [u8_toNat (by omega)] at this
    simp at this
    omega
  · intro e
    have := congrArg UInt8.toNat e
    rw [u8_toNat (by omega)] at this
    simp at this
    omega

/-- The labels, one blank between two. -/
def labsL (l : List Int) : List UInt8 := Lib.join ((l.filter inS).map labL) [32]
theorem join_nil : Lib.join [] [32] = [] := rfl
theorem join_cons (p q : List UInt8) (ps : List (List UInt8)) : Lib.join (p :: q :: ps) [32] = p ++ 32 :: Lib.join (q :: ps) [32] := by
  simp [Lib.join, List.intercalate]
theorem join_sing (p : List UInt8) : Lib.join [p] [32] = p := by simp [Lib.join, List.intercalate]
theorem join_snoc (ps : List (List UInt8)) (q : List UInt8) (h : ps ≠ []) : Lib.join (ps ++ [q]) [32] = Lib.join ps [32] ++ 32 :: q := by
  induction ps with
  | nil => exact absurd rfl h
  | cons p ps ih =>
    cases ps with
    | nil => rw [List.cons_append, List.nil_append, join_cons, join_sing, join_sing]
    | cons r rs =>
      have := ih (by simp)
      rw [List.cons_append, List.cons_append, join_cons, ← List.cons_append, this, join_cons, List.append_assoc, List.cons_append]
theorem join_len2 (l : List Int) (h : ∀ x ∈ l, inS x = true) : (Lib.join (l.map labL) [32]).length = 3 * l.length - 1 := by
  induction l with
  | nil => rfl
  | cons x l ih =>
    have hx := labL_len x (h x (by simp))
    have i := ih (fun y hy => h y (by simp [hy]))
    cases l with
    | nil => rw [List.map_cons, List.map_nil, join_sing, hx]; rfl
    | cons y l =>
      rw [List.map_cons, List.map_cons, join_cons, List.length_append, List.length_cons, ← List.map_cons, i, hx]
      simp only [List.length_cons]
      omega
theorem labsL_len (l : List Int) : (labsL l).length ≤ 3 * l.length := by
  unfold labsL
  rw [join_len2 _ (fun x hx => (List.mem_filter.1 hx).2)]
  have := List.length_filter_le inS l
  omega
theorem labsL_snoc (l : List Int) (x : Int) : labsL (l ++ [x]) = if inS x = true then (if labsL l = [] then labL x else labsL l ++ 32 :: labL x) else labsL l := by
  unfold labsL
  rw [List.filter_append]
  by_cases hx : inS x = true
  · rw [if_pos hx, List.filter_cons, if_pos hx, List.filter_nil, List.map_append, List.map_cons, List.map_nil]
    by_cases hl : l.filter inS = []
    · rw [hl, List.map_nil, join_nil, if_pos rfl, List.nil_append, join_sing]
    · have hn : Lib.join ((l.filter inS).map labL) [32] ≠ [] := by
        intro e
        have h2 := join_len2 (l.filter inS) (fun x hx => (List.mem_filter.1 hx).2)
        rw [e] at h2
        have h3 : 0 < (l.filter inS).length := List.length_pos_iff.2 hl
        rw [List.length_nil] at h2
        omega
      rw [if_neg hn, join_snoc _ _ (by simpa using hl)]
  · rw [if_neg hx, List.filter_cons, if_neg hx, List.filter_nil, List.append_nil]

/-- The seats of labels that rise above last; none: they don't, or one is no label. -/
def riseL : Int → List (List UInt8) → Option (List Int)
  | _, [] => some []
  | last, p :: ps => if last < seatI p then (riseL (seatI p) ps).map (seatI p :: ·) else none
def seatsO (s : List UInt8) : Option (List Int) := if s = [] then some [] else riseL (-1) (cutL 32 s)
/-- They rise above last. -/
def Ris : Int → List Int → Prop
  | _, [] => True
  | last, x :: l => last < x ∧ inS x = true ∧ Ris x l
theorem Ris.ins : ∀ (l : List Int) (last : Int), Ris last l → ∀ x ∈ l, inS x = true
  | [], _, _, _, h => by simp at h
  | y :: l, last, h, x, hx => by
    rcases List.mem_cons.1 hx with rfl | hx
    · exact h.2.1
    · exact Ris.ins l y h.2.2 x hx
theorem Ris.filt {l : List Int} {last : Int} (h : Ris last l) : l.filter inS = l := List.filter_eq_self.2 (Ris.ins l last h)
theorem inS_seatI {p : List UInt8} (h : 0 ≤ seatI p) : inS (seatI p) = true := by
  unfold inS
  rw [decide_eq_true_eq]
  exact ⟨h, (seatI_bd p).2⟩
theorem rise_ris : ∀ (ps : List (List UInt8)) (last : Int) (l : List Int), -1 ≤ last → riseL last ps = some l → Ris last l ∧ ps = l.map labL
  | [], last, l, _, h => by
    obtain rfl : [] = l := by simpa [riseL] using h
    exact ⟨trivial, rfl⟩
  | p :: ps, last, l, hl, h => by
    rw [riseL] at h
    split at h
    · rename_i hlt
      obtain ⟨m, hm, rfl⟩ := Option.map_eq_some_iff.1 h
      obtain ⟨i1, i2⟩ := rise_ris ps (seatI p) m (by omega) hm
      refine ⟨⟨hlt, inS_seatI (by omega), i1⟩, ?_⟩
      rw [List.map_cons, ← i2, ← lab_seatI (by omega)]
    · cases h
theorem ris_rise : ∀ (l : List Int) (last : Int), Ris last l → riseL last (l.map labL) = some l
  | [], _, _ => rfl
  | x :: l, last, h => by
    obtain ⟨h1, h2, h3⟩ := h
    rw [List.map_cons, riseL, seatI_labL x h2, if_pos h1, ris_rise l x h3]
    rfl
theorem join_cut : ∀ (l : List UInt8), Lib.join (cutL 32 l) [32] = l
  | [] => by rw [cutL, join_sing]
  | x :: l => by
    have ih := join_cut l
    obtain ⟨p, ps, hp⟩ := cutL_ne 32 l
    by_cases hx : x = 32
    · subst hx
      rw [cutL_eq, hp, join_cons, ← hp, ih]
      rfl
    · rw [cutL_cons hx hp]
      rw [hp] at ih
      cases ps with
      | nil => rw [join_sing] at ih ⊢; rw [ih]
      | cons q qs => rw [join_cons] at ih ⊢; rw [List.cons_append, ih]
theorem cut_plain : ∀ (p : List UInt8), (∀ c ∈ p, c ≠ 32) → cutL 32 p = [p]
  | [], _ => rfl
  | x :: l, h => cutL_cons (h x (by simp)) (cut_plain l (fun c hc => h c (by simp [hc])))
theorem cut_app : ∀ (p r : List UInt8), (∀ c ∈ p, c ≠ 32) → cutL 32 (p ++ 32 :: r) = p :: cutL 32 r
  | [], r, _ => by rw [List.nil_append, cutL_eq]
  | x :: l, r, h => by
    rw [List.cons_append, cutL_cons (h x (by simp)) (cut_app l r (fun c hc => h c (by simp [hc])))]
theorem cut_join : ∀ (ps : List (List UInt8)), ps ≠ [] → (∀ p ∈ ps, ∀ c ∈ p, c ≠ 32) → cutL 32 (Lib.join ps [32]) = ps
  | [], h, _ => absurd rfl h
  | [p], _, h => by rw [join_sing]; exact cut_plain p (h p (by simp))
  | p :: q :: ps, _, h => by
    rw [join_cons, cut_app p _ (h p (by simp)), cut_join (q :: ps) (by simp) (fun r hr => h r (by simp [hr]))]
/-- The labels of seats that rise are read as those. -/
theorem seats_labs (l : List Int) (h : Ris (-1) l) : seatsO (labsL l) = some l := by
  unfold seatsO labsL
  rw [h.filt]
  have hi := Ris.ins l (-1) h
  cases l with
  | nil => rfl
  | cons x l =>
    have hn : Lib.join ((x :: l).map labL) [32] ≠ [] := by
      intro e
      have := join_len2 (x :: l) hi
      rw [e] at this
      simp at this
      omega
    rw [if_neg hn, cut_join _ (by simp) (fun p hp => by
      obtain ⟨y, hy, rfl⟩ := List.mem_map.1 hp
      exact lab_no32 y (hi y hy)), ris_rise _ _ h]
theorem labs_seats {s : List UInt8} {l : List Int} (h : seatsO s = some l) : Ris (-1) l ∧ labsL l = s := by
  unfold seatsO at h
  split at h
  · rename_i hs
    obtain rfl : [] = l := by simpa using h
    exact ⟨trivial, hs.symm ▸ rfl⟩
  · obtain ⟨h1, h2⟩ := rise_ris _ _ _ (by omega) h
    refine ⟨h1, ?_⟩
    unfold labsL
    rw [h1.filt, ← h2, join_cut]

-- the reference
def refK : Int → List UInt8 → Option (List Int)
  | last, a :: b :: r => if last < seatI [a, b] then (refK (seatI [a, b]) (r.drop 1)).map (seatI [a, b] :: ·) else none
  | _, _ => some []
termination_by _ s => s.length
decreasing_by simp; omega
theorem refK_cons (last : Int) (a b : UInt8) (r : List UInt8) : refK last (a :: b :: r) = if last < seatI [a, b] then (refK (seatI [a, b]) (r.drop 1)).map (seatI [a, b] :: ·) else none := by rw [refK]
theorem refK_ris : ∀ (n : Nat) (s : List UInt8) (last : Int) (l : List Int), s.length ≤ n → -1 ≤ last → refK last s = some l → Ris last l
  | n, [], last, l, _, _, h => by
    obtain rfl : [] = l := by simpa [refK] using h
    trivial
  | n, [a], last, l, _, _, h => by
    obtain rfl : [] = l := by simpa [refK] using h
    trivial
  | 0, a :: b :: r, last, l, hn, _, h => by simp at hn
  | n + 1, a :: b :: r, last, l, hn, hl, h => by
    rw [refK_cons] at h
    split at h
    · rename_i hlt
      obtain ⟨m, hm, rfl⟩ := Option.map_eq_some_iff.1 h
      exact ⟨hlt, inS_seatI (by omega), refK_ris n (r.drop 1) _ m (by simp at hn ⊢; omega) (by omega) hm⟩
    · cases h
theorem labL_two (x : Int) (h : inS x = true) : ∃ a b, labL x = [a, b] := by
  unfold labL
  rw [if_pos h]
  exact ⟨_, _, rfl⟩
theorem refK_join : ∀ (l : List Int) (last : Int), Ris last l → refK last (Lib.join (l.map labL) [32]) = some l
  | [], _, _ => by
    show refK _ (Lib.join [] [32]) = _
    rw [join_nil, refK]
    all_goals simp
  | [x], last, h => by
    obtain ⟨a, b, e⟩ := labL_two x h.2.1
    have hs := seatI_labL x h.2.1
    rw [List.map_cons, List.map_nil, join_sing, e, refK_cons, ← e, hs, if_pos h.1]
    show Option.map _ (refK x []) = _
    rw [refK]
    all_goals simp
  | x :: y :: l, last, h => by
    obtain ⟨a, b, e⟩ := labL_two x h.2.1
    have hs := seatI_labL x h.2.1
    have ih := refK_join (y :: l) x h.2.2
    rw [List.map_cons, List.map_cons, join_cons, ← List.map_cons, e]
    show refK last (a :: b :: 32 :: _) = _
    rw [refK_cons, ← e, hs, if_pos h.1, List.drop_succ_cons, List.drop_zero, ih]
    rfl
/-- What the reference reads is what the program does. -/
theorem ref_seats (s : List UInt8) : seatsO s = match refK (-1) s with
    | some l => if labsL l = s then some l else none
    | none => none := by
  cases hs : seatsO s with
  | some l =>
    obtain ⟨h1, h2⟩ := labs_seats hs
    have : refK (-1) s = some l := by
      rw [← h2]
      unfold labsL
      rw [h1.filt]
      exact refK_join l (-1) h1
    rw [this]
    simp only [h2, if_true]
  | none =>
    cases hr : refK (-1) s with
    | none => rfl
    | some l =>
      have h1 := refK_ris s.length s (-1) l (Nat.le_refl _) (by omega) hr
      split
      · rename_i m hm
        obtain rfl := Option.some.inj hm
        split
        · rename_i he
          have := seats_labs l h1
          rw [he, hs] at this
          cases this
        · rfl
      · rfl
end Go.Proofs.YteelccgaemmmpaaDoor
