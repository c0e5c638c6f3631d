/- Lists of records, as they are drawn. -/
import Derived.Test.YtinnkaokplmcbaaDoorLg
import Derived.Test.YtinnkaokplmcbaaDoorLh
import Derived.Test.YtinnkaokplmcbaaDoorLf
import Derived.Test.YtinnkaokplmcbaaDoorAp
namespace Go.Proofs.YtinnkaokplmcbaaDoor
open Go.RowKit
set_option linter.unusedVariables false

/-- A draft. -/
structure Dr where
  hold : Bool
  second : Bool
  id : Int
  cls : Int
  seat : Int
  was : Int
  til : Int
  odd : Int
structure Dr.Ok (d : Dr) : Prop where
  id : 0 ≤ d.id ∧ d.id < 65536
  cls : 0 ≤ d.cls ∧ d.cls < 256
  seat : -128 ≤ d.seat ∧ d.seat < 128
  was : -128 ≤ d.was ∧ d.was < 128
  til : 0 ≤ d.til ∧ d.til < 18446744073709551616
  odd : 0 ≤ d.odd ∧ d.odd < 256
def drC (d : Dr) : List Value := [.bool d.hold, .bool d.second, .int .u16 d.id, .int .u8 d.cls, .int .i8 d.seat, .int .i8 d.was, .int .u64 d.til, .int .u8 d.odd]
/-- The value v is a slice that reads as these drafts. -/
def RdD (w : World) (v : Value) (l : List Dr) : Prop :=
  ∃ (a : Option Addr) (c : Nat), v = .slice a l.length c ∧ l.length ≤ c ∧ ∀ (k : Nat) (x : Dr), l[k]? = some x → x.Ok ∧ ∃ b o, a = some ⟨b, o, none⟩ ∧ ∀ (j : Nat) (u : Value), (drC x)[j]? = some u → w.cell? ⟨b, o + k * 8 + j, none⟩ = some u

/-- A record's cells. -/
def recC (r : Rec) : List Value := [.bool r.hold, .int .u32 r.id, .string r.person, .int .i64 r.cls, .int .i64 r.seat, .int .i64 r.was, .int .u64 r.til]
/-- The value v is a slice that reads as these records. -/
def RdL (w : World) (v : Value) (l : List Rec) : Prop :=
  ∃ (A : Option (Nat × Nat)) (c : Nat), v = .slice (A.map fun p => ⟨p.1, p.2, none⟩) l.length c ∧ l.length ≤ c ∧ (A = none → c = 0) ∧
    ∀ p, A = some p → ∀ (k : Nat) (r : Rec), l[k]? = some r → ∀ (j : Nat) (u : Value), (recC r)[j]? = some u → w.cell? ⟨p.1, p.2 + k * 7 + j, none⟩ = some u
theorem RdL.nil (w : World) : RdL w (.slice none 0 0) [] := ⟨none, 0, rfl, Nat.le_refl _, fun _ => rfl, fun _ h => by cases h⟩
theorem RdL.below {w w1 : World} {v : Value} {l : List Rec} (h : RdL w v l) (hb : Below w.heap.size w w1) : RdL w1 v l := by
  obtain ⟨A, c, e, h1, h2, h3⟩ := h
  exact ⟨A, c, e, h1, h2, fun p hp k r hr j u hu => keep_cell hb (h3 p hp k r hr j u hu)⟩
theorem RdL.own {w : World} {base : Nat} {e : TypeId} {v : Value} {l : List Rec} (h : w.ownsRow base e 7 v l.length (l.flatMap recC)) : RdL w v l := by
  rcases own_cells h with ⟨h1, h2⟩ | ⟨g, c, h1, h2, _, h3⟩
  · obtain rfl := List.eq_nil_of_length_eq_zero h2
    subst h1
    exact RdL.nil w
  · refine ⟨some (g, 0), c, h1, h2, (fun h => by cases h), fun p hp k r hr j u hu => ?_⟩
    obtain rfl : (g, 0) = p := by simpa using hp
    have hj : j < 7 := (List.getElem?_eq_some_iff.1 hu).1
    have f := flat_at recC 7 (fun _ => rfl) j hj l k r hr
    show w.cell? ⟨g, 0 + k * 7 + j, none⟩ = some u
    rw [Nat.zero_add]
    exact h3 _ _ (f.trans hu)
theorem info_rec : (Tryd.prog.info? 25).map (fun i => (i.zero, i.size, i.bytes)) = some (some (.agg #[.bool false, .int .u32 0, .string ⟨#[]⟩, .int .i64 0, .int .i64 0, .int .i64 0, .int .u64 0]), 7, 56) := by kernel_rfl

theorem ok_snoc {rs : List Rec} {r : Rec} (h : ∀ z ∈ rs, z.Ok) (hr : r.Ok) : Hid (∀ z ∈ rs ++ [r], z.Ok) := by
  intro z hz
  rcases List.mem_append.1 hz with k | k
  · exact h z k
  · have e : z = r := by simpa using k
    rw [e]
    exact hr
theorem len_snoc {rs : List Rec} {r : Rec} {k : Nat} (h : rs.length = k) : Hid ((rs ++ [r]).length = k + 1) := by
  show (rs ++ [r]).length = k + 1
  rw [List.length_append, h]
  rfl

set_option maxRecDepth 100000 in
set_option maxHeartbeats 4000000 in
theorem recs_any (l : List Dr) (v : Value) (w : World) (hv : RdD w v l) (hl : l.length ≤ maxLen) :
    Calls Tryd.prog 18 #[v] w fun e w' => ∃ v1 rs, e = .returned v1 ∧ RdL w' v1 rs ∧ rs.length ≤ 40 ∧ (∀ r ∈ rs, r.Ok) ∧ Below w.heap.size w w' := by
  obtain ⟨a, c, rfl, hc, hr⟩ := hv
  have HR := Lib.hid hr
  clear hr
  unfold maxLen at hl
  go_enter Tryd.func18, Tryd.ntmps18
  go_wp2_with fail
  go_loopw [3, 4] (fun oo i wr => ∃ (k : Nat) (rs : List Rec), k ≤ l.length ∧ k ≤ 40 ∧ i = .int .i64 k ∧ Hid (rs.length = k) ∧ Hid (∀ r ∈ rs, r.Ok) ∧ wr.ownsRow w.heap.size 25 7 oo k (rs.flatMap recC) ∧ Below w.heap.size w wr) (fun _ i _ => l.length - (intOf i).toNat)
  case atStart => exact ⟨0, [], Nat.zero_le _, Nat.zero_le _, rfl, rfl, (fun r hr => by cases hr), by simpa using World.ownsRow_nil w w.heap.size 25 7, Below.refl _ _⟩
  case round =>
    obtain ⟨k, rs, hk, hk2, rfl, hlen, hok, HO, HB⟩ := hrel
    by_cases hg : k < l.length ∧ k < 40
    · obtain ⟨hkl, hk40⟩ := hg
      obtain ⟨x, hx⟩ : ∃ x, l[k]? = some x := ⟨l[k], List.getElem?_eq_getElem hkl⟩
      obtain ⟨hxo, b, o, rfl, hcs⟩ := HR.out k x hx
      have c0 := keep_cell HB (hcs 0 _ rfl)
      have c1 := keep_cell HB (hcs 1 _ rfl)
      have c2 := keep_cell HB (hcs 2 _ rfl)
      have c3 := keep_cell HB (hcs 3 _ rfl)
      have c4 := keep_cell HB (hcs 4 _ rfl)
      have c5 := keep_cell HB (hcs 5 _ rfl)
      have c6 := keep_cell HB (hcs 6 _ rfl)
      have c7 := keep_cell HB (hcs 7 _ rfl)
      rw [Nat.add_zero] at c0
      clear hx hcs
      go_wp2_with (first | (go_at_call 8; refine (drafted_any _ _ _ _ _ _ _ _ _ hxo.id hxo.cls hxo.seat hxo.was hxo.til hxo.odd).mono ?_; rintro e w1 ⟨⟨r, rfl, hro, _⟩, hB⟩) | (at_builtin; go_loud (refine own_append_box w.heap.size rfl (.tmp 15) (.tmp 21) 46 25 rfl Tryd.underlying46 info_rec rfl (by decide) _ k _ #[.bool r.hold, .int .u32 r.id, .string r.person, .int .i64 r.cls, .int .i64 r.seat, .int .i64 r.was, .int .u64 r.til] rfl (by simp [Value.oneCell']) rfl rfl (own_kept HO hB) (HB.trans (hB.mono HB.size)) (Nat.le_trans HB.size hB.size) (by omega) (by omega) ?_); intro v1 w2 hown hB2 hsz2))
      exact ⟨⟨k + 1, rs ++ [r], by omega, by omega, by go_num, len_snoc hlen.out, ok_snoc hok.out hro, by rw [List.flatMap_append, List.flatMap_singleton]; exact hown, hB2⟩, by simp [intOf]; omega⟩
    · go_wp2_with fail
      all_goals
        go_ret
        refine ⟨_, rs, rfl, RdL.own (base := w.heap.size) (e := 25) (by rw [hlen.out]; exact HO), by rw [hlen.out]; exact hk2, hok.out, HB⟩
end Go.Proofs.YtinnkaokplmcbaaDoor
