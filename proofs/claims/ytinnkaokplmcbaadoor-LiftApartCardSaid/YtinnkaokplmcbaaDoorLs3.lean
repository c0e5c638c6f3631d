/- Two records with one seat. -/
import Derived.Test.YtinnkaokplmcbaaDoorLs2
import Derived.Deep.QuietTactic
import Derived.BigQuiet
namespace Go.Proofs.YtinnkaokplmcbaaDoor
open Go.RowKit
set_option linter.unusedVariables false
set_option linter.unusedSimpArgs false

/-- Two have one seat. -/
def Same (s : List Int) (a b : Nat) : Prop := s.getD a (-1) = s.getD b (-1) ∧ s.getD b (-1) ≠ -1
/-- None below b has. -/
def NoC (s : List Int) (b : Nat) : Prop := ∀ y, y < b → ∀ x, x < y → ¬ Same s x y
def Fst (s : List Int) (a b : Nat) : Prop := a < b ∧ b < s.length ∧ Same s a b ∧ (∀ x, x < a → ¬ Same s x b) ∧ NoC s b
theorem Fst.unique {s : List Int} {a b c d : Nat} (h : Fst s a b) (k : Fst s c d) : a = c ∧ b = d := by
  obtain ⟨h1, h2, h3, h4, h5⟩ := h
  obtain ⟨k1, k2, k3, k4, k5⟩ := k
  have e : b = d := by
    rcases Nat.lt_trichotomy b d with h | h | h
    · exact absurd h3 (k5 b h a h1)
    · exact h
    · exact absurd k3 (h5 d h c k1)
  subst e
  refine ⟨?_, rfl⟩
  rcases Nat.lt_trichotomy a c with h | h | h
  · exact absurd h3 (k4 a h)
  · exact h
  · exact absurd k3 (h4 c h)
open Classical in
noncomputable def clP (s : List Int) : Int × Int × Bool := if h : ∃ p : Nat × Nat, Fst s p.1 p.2 then ((h.choose.1 : Int), (h.choose.2 : Int), true) else (-1, -1, false)
theorem clP_some {s : List Int} {a b : Nat} (h : Fst s a b) : clP s = ((a : Int), (b : Int), true) := by
  have he : ∃ p : Nat × Nat, Fst s p.1 p.2 := ⟨(a, b), h⟩
  unfold clP
  rw [dif_pos he]
  obtain ⟨h1, h2⟩ := he.choose_spec.unique h
  rw [h1, h2]
theorem clP_none {s : List Int} (h : NoC s s.length) : clP s = (-1, -1, false) := by
  unfold clP
  rw [dif_neg]
  rintro ⟨⟨a, b⟩, h1, h2, h3, _⟩
  exact h b h2 a h1 h3
noncomputable def clV (s : List Int) : Value := .tuple #[.int .i64 (clP s).1, .int .i64 (clP s).2.1, .bool (clP s).2.2]
theorem clV_some {s : List Int} {a b : Nat} (h : Fst s a b) : clV s = .tuple #[.int .i64 (a : Int), .int .i64 (b : Int), .bool true] := by unfold clV; rw [clP_some h]
theorem clV_none {s : List Int} (h : NoC s s.length) : clV s = .tuple #[.int .i64 (-1), .int .i64 (-1), .bool false] := by unfold clV; rw [clP_none h]

def seats (l : List Rec) : List Int := l.map (·.seat)
theorem seats_at {l : List Rec} {k : Nat} {r : Rec} (h : l[k]? = some r) : (seats l).getD k (-1) = r.seat := by
  unfold seats
  rw [List.getD_eq_getElem?_getD, List.getElem?_map, h]
  rfl

set_option maxRecDepth 100000 in
set_option maxHeartbeats 8000000 in
theorem rClash_any (l : List Rec) (lv : Value) (w : World) (hl : RdL w lv l) (hlen : l.length ≤ 100) :
    Calls Tryd.prog 22 #[lv] w fun e w' => e = .returned (clV (seats l)) ∧ Below w.heap.size w w' := by
  obtain ⟨a, c, rfl, hc, hr⟩ := hl.opn
  have HR := Lib.hid hr
  have HZ : Hid ((seats l).length = l.length) := List.length_map _
  clear hr hl
  go_enter Tryd.func22, Tryd.ntmps22
  go_wp2_with fail
  go_loopw [5, 6] (fun i _ wr => ∃ b : Nat, b ≤ l.length ∧ i = .int .i64 b ∧ Hid (NoC (seats l) b) ∧ Below w.heap.size w wr) (fun i _ _ => l.length - (intOf i).toNat)
  case atStart => exact ⟨0, Nat.zero_le _, rfl, (fun y hy => absurd hy (by omega)), Below.refl _ _⟩
  case round =>
    obtain ⟨b, hb, rfl, hno, HB⟩ := hrel
    by_cases hbl : b < l.length
    · obtain ⟨r, hr⟩ : ∃ r, l[b]? = some r := ⟨l[b], List.getElem?_eq_getElem hbl⟩
      obtain ⟨g, o, rfl, hcs⟩ := HR.out b r hr
      have hcb := hcs 4 _ rfl
      have HSB := Lib.hid (seats_at hr)
      clear hr hcs
      obtain ⟨wo, rfl⟩ : ∃ wo : World, wo = wr := ⟨_, rfl⟩
      go_wp2_with fail
      go_loopw [6] (fun i wr => ∃ a : Nat, a ≤ b ∧ i = .int .i64 a ∧ Hid (∀ x, x < a → ¬ Same (seats l) x b) ∧ Below w.heap.size w wr) (fun i _ => b - (intOf i).toNat)
      case atStart => exact ⟨0, Nat.zero_le _, rfl, (fun y hy => absurd hy (by omega)), HB⟩
      case round =>
        clear HB
        obtain ⟨a, ha, rfl, hna, HB⟩ := hrel
        by_cases hab : a < b
        · obtain ⟨q, hq⟩ : ∃ q, l[a]? = some q := ⟨l[a], List.getElem?_eq_getElem (by omega)⟩
          obtain ⟨g', o', hgo, hcs⟩ := HR.out a q hq
          obtain ⟨rfl, rfl⟩ : g = g' ∧ o = o' := by simpa using hgo
          have d1 := keep_cell HB (hcs 4 _ rfl)
          have d2 := keep_cell HB hcb
          have HSA := Lib.hid (seats_at hq)
          clear hq hcs hgo
          by_cases hs : q.seat = r.seat
          · by_cases hs1 : r.seat = -1
            · have HN : Hid (∀ x, x < a + 1 → ¬ Same (seats l) x b) := by
                intro x hx
                rcases Nat.lt_succ_iff_lt_or_eq.1 hx with h | h
                · exact hna.out x h
                · rintro ⟨_, h2⟩; rw [HSB.out] at h2; exact h2 hs1
              have e1 : (q.seat == r.seat) = true := by simpa using hs
              have e2 : (q.seat == -1) = true := by simp [hs, hs1]
              have e3 : (q.seat != -1) = false := by simp [hs, hs1]
              clear hs hs1
              go_wp2_with fail
              go_quiet (fail)
              go_wp2
              go_roundw
              case rel => exact ⟨a + 1, by omega, by go_num, HN, below_drewN HB _⟩
              case measure => simp [intOf]; omega
            · have HF : Hid (Fst (seats l) a b) := ⟨hab, by rw [HZ.out]; exact hbl, ⟨by rw [HSA.out, HSB.out]; exact hs, by rw [HSB.out]; exact hs1⟩, hna.out, hno.out⟩
              have e1 : (q.seat == r.seat) = true := by simpa using hs
              have e2 : (q.seat == -1) = false := by simp [hs, hs1]
              have e3 : (q.seat != -1) = true := by simp [hs, hs1]
              clear hs hs1
              go_wp2_with fail
              go_quiet (fail)
              go_wp2
              go_returns
              exact ⟨by rw [clV_some HF.out]; rfl, below_drewN HB _⟩
          · have HN : Hid (∀ x, x < a + 1 → ¬ Same (seats l) x b) := by
              intro x hx
              rcases Nat.lt_succ_iff_lt_or_eq.1 hx with h | h
              · exact hna.out x h
              · rintro ⟨h1, _⟩; rw [h, HSA.out, HSB.out] at h1; exact hs h1
            have e1 : (q.seat == r.seat) = false := by simpa using hs
            clear hs
            go_wp2_with fail
            go_quiet (fail)
            go_wp2
            go_roundw
            case rel => exact ⟨a + 1, by omega, by go_num, HN, below_drewN HB _⟩
            case measure => simp [intOf]; omega
        · have HN : Hid (NoC (seats l) (b + 1)) := by
            intro y hy
            rcases Nat.lt_succ_iff_lt_or_eq.1 hy with h | h
            · exact hno.out y h
            · subst h; intro x hx; exact hna.out x (by omega)
          go_wp2
          go_roundw
          case rel => exact ⟨b + 1, by omega, by go_num, HN, HB⟩
          case measure => simp [intOf]; omega
    · have HN : Hid (NoC (seats l) (seats l).length) := by
        have e : (seats l).length = b := by rw [HZ.out]; omega
        rw [e]
        exact hno
      go_wp2
      go_returns
      exact ⟨by rw [clV_none HN.out]; rfl, HB⟩
end Go.Proofs.YtinnkaokplmcbaaDoor
