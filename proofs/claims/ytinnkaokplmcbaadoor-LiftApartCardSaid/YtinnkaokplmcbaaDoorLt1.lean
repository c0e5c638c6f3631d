/- LiftApart: the plain law. -/
import Derived.Test.YtinnkaokplmcbaaDoorLs4
namespace Go.Proofs.YtinnkaokplmcbaaDoor
set_option linter.unusedVariables false
set_option linter.unusedSimpArgs false

/-- What holds of the records that were kept, and of the flags of their seats. -/
structure Kept (a : List Rec) (T : Nat → Bool) : Prop where
  ok : ∀ r ∈ a, r.Ok ∧ mayR r = true
  on : ∀ r ∈ a, ∀ j : Nat, r.seat = (j : Int) → T j = true
  no : NoC (seats a) a.length
theorem Kept.nil : Kept [] (fun _ => false) := ⟨(fun r h => by cases h), (fun r h => by cases h), fun y hy => absurd hy (Nat.not_lt_zero y)⟩
theorem seats_get {a : List Rec} {k : Nat} (h : k < a.length) : (seats a).getD k (-1) = a[k].seat := seats_at (List.getElem?_eq_getElem h)
theorem Kept.snoc {a : List Rec} {T : Nat → Bool} (h : Kept a T) {r : Rec} (hr : r.Ok) (hm : mayR r = true) {j : Nat} (hj : r.seat = (j : Int)) (hT : T j = false) : Kept (a ++ [r]) (fun x => x == j || T x) := by
  refine ⟨fun z hz => ?_, fun z hz i hi => ?_, fun y hy x hx => ?_⟩
  · rcases List.mem_append.1 hz with k | k
    · exact h.ok z k
    · obtain rfl : z = r := by simpa using k
      exact ⟨hr, hm⟩
  · rcases List.mem_append.1 hz with k | k
    · simp [h.on z k i hi]
    · obtain rfl : z = r := by simpa using k
      have : i = j := by omega
      simp [this]
  · rw [List.length_append, List.length_singleton] at hy
    have hx2 : x < a.length := by omega
    have ex : (seats (a ++ [r])).getD x (-1) = a[x].seat := seats_at (by rw [List.getElem?_append_left hx2, List.getElem?_eq_getElem hx2])
    rcases Nat.lt_succ_iff_lt_or_eq.1 hy with k | k
    · have ey : (seats (a ++ [r])).getD y (-1) = a[y].seat := seats_at (by rw [List.getElem?_append_left k, List.getElem?_eq_getElem k])
      rintro ⟨h1, h2⟩
      rw [ex, ey] at h1
      rw [ey] at h2
      exact h.no y k x hx ⟨by rw [seats_get hx2, seats_get k, h1], by rw [seats_get k]; exact h2⟩
    · have ey : (seats (a ++ [r])).getD y (-1) = r.seat := seats_at (by rw [k]; simp)
      rintro ⟨h1, h2⟩
      rw [ex, ey, hj] at h1
      have := h.on _ (List.getElem_mem hx2) j h1
      rw [hT] at this
      cases this

/-- What holds of the moves that were kept, and of the flags of both ends. -/
structure Movs (g : List (Int × Int)) (F T : Nat → Bool) : Prop where
  rng : ∀ x ∈ g, 0 ≤ x.1 ∧ x.1 < 64 ∧ 0 ≤ x.2 ∧ x.2 < 64
  fr : ∀ j : Nat, F j = g.any (fun x => x.1 == (j : Int))
  dst : ∀ x ∈ g, ∀ j : Nat, x.2 = (j : Int) → T j = true
  inj : ∀ x ∈ g, ∀ y ∈ g, x.2 = y.2 → x = y
theorem Movs.nil : Movs [] (fun _ => false) (fun _ => false) := ⟨(fun r h => by cases h), (fun _ => rfl), (fun r h => by cases h), (fun r h => by cases h)⟩
theorem Movs.snoc {g : List (Int × Int)} {F T : Nat → Bool} (h : Movs g F T) {x : Int × Int} (hx : 0 ≤ x.1 ∧ x.1 < 64 ∧ 0 ≤ x.2 ∧ x.2 < 64) {i j : Nat} (hi : x.1 = (i : Int)) (hj : x.2 = (j : Int)) (hT : T j = false) : Movs (g ++ [x]) (fun k => k == i || F k) (fun k => k == j || T k) := by
  refine ⟨fun z hz => ?_, fun k => ?_, fun z hz k hk => ?_, fun y hy z hz e => ?_⟩
  · rcases List.mem_append.1 hz with k | k
    · exact h.rng z k
    · obtain rfl : z = x := by simpa using k
      exact hx
  · rw [List.any_append, h.fr k, Bool.or_comm]
    congr 1
    simp only [List.any_cons, List.any_nil, Bool.or_false]
    rw [hi]
    by_cases e : k = i
    · subst e
      rw [beq_self_eq_true, beq_self_eq_true]
    · have e2 : ¬ (i : Int) = (k : Int) := by omega
      rw [beq_eq_false_iff_ne.2 e, beq_eq_false_iff_ne.2 e2]
  · rcases List.mem_append.1 hz with q | q
    · show (k == j || T k) = true
      rw [h.dst z q k hk, Bool.or_true]
    · obtain rfl : z = x := by simpa using q
      have e : k = j := by omega
      show (k == j || T k) = true
      rw [e, beq_self_eq_true, Bool.true_or]
  · rcases List.mem_append.1 hy with q | q
    · rcases List.mem_append.1 hz with q' | q'
      · exact h.inj y q z q' e
      · obtain rfl : z = x := by simpa using q'
        have := h.dst y q j (by rw [e, hj])
        rw [hT] at this
        cases this
    · obtain rfl : y = x := by simpa using q
      rcases List.mem_append.1 hz with q' | q'
      · have := h.dst z q' j (by rw [← e, hj])
        rw [hT] at this
        cases this
      · have : z = y := by simpa using q'
        exact this.symm

theorem toM_some {g : List (Int × Int)} {s : Int} {x : Int × Int} (h : toM g s = some x) : x ∈ g ∧ x.1 = s := by
  unfold toM at h
  exact ⟨List.mem_of_find?_eq_some h, by simpa using List.find?_some h⟩
theorem seat_up {r : Rec} {g : List (Int × Int)} (h : mayR r = true) : (upR r g).seat = toV (toM g r.seat) := by rw [upR, if_pos h]
theorem hold_up {r : Rec} {g : List (Int × Int)} (h : mayR r = true) : (upR r g).hold = r.hold := by rw [upR, if_pos h]
theorem id_up {r : Rec} {g : List (Int × Int)} (h : mayR r = true) : (upR r g).id = r.id := by rw [upR, if_pos h]
theorem may_seat {r : Rec} (h : mayR r = true) : 0 ≤ r.seat ∧ r.seat ≤ 63 := by
  simp only [mayR, Bool.and_eq_true, decide_eq_true_eq] at h
  exact ⟨h.1.1.1.2, h.1.1.2⟩
theorem outs_len (a : List Rec) (g : List (Int × Int)) : (outs a g).length = a.length := by simp [outs]
theorem outs_at {a : List Rec} {g : List (Int × Int)} {k : Nat} {r : Rec} (h : a[k]? = some r) : (outs a g)[k]? = some (upR r g) := by
  unfold outs
  rw [List.getElem?_map, h]
  rfl
theorem behind {a : List Rec} {g : List (Int × Int)} {T F U : Nat → Bool} (hk : Kept a T) (hm : Movs g F U) : NoC (seats (outs a g)) (seats (outs a g)).length := by
  have hl : (seats (outs a g)).length = a.length := by simp [seats, outs]
  rw [hl]
  intro y hy x hx
  have hx2 : x < a.length := by omega
  have ma := (hk.ok _ (List.getElem_mem hx2)).2
  have mb := (hk.ok _ (List.getElem_mem hy)).2
  have ex : (seats (outs a g)).getD x (-1) = toV (toM g a[x].seat) := (seats_at (outs_at (List.getElem?_eq_getElem hx2))).trans (seat_up ma)
  have ey : (seats (outs a g)).getD y (-1) = toV (toM g a[y].seat) := (seats_at (outs_at (List.getElem?_eq_getElem hy))).trans (seat_up mb)
  rintro ⟨h1, h2⟩
  rw [ex, ey] at h1
  rw [ey] at h2
  cases e2 : toM g a[y].seat with
  | none => rw [e2] at h2; exact h2 rfl
  | some m2 =>
    rw [e2] at h1 h2
    cases e1 : toM g a[x].seat with
    | none => rw [e1] at h1; exact h2 h1.symm
    | some m1 =>
      rw [e1] at h1
      obtain ⟨i1, q1⟩ := toM_some e1
      obtain ⟨i2, q2⟩ := toM_some e2
      have e : m1 = m2 := hm.inj m1 i1 m2 i2 h1
      have hs : a[x].seat = a[y].seat := by rw [← q1, ← q2, e]
      exact hk.no y hy x hx ⟨by rw [seats_get hx2, seats_get hy, hs], by rw [seats_get hy]; have := (may_seat mb).1; omega⟩
theorem flag {g : List (Int × Int)} {F U : Nat → Bool} (hm : Movs g F U) (s : Nat) : (toV (toM g (s : Int)) = -1 ∧ F s = false) ∨ (0 ≤ toV (toM g (s : Int)) ∧ F s = true) := by
  cases e : toM g (s : Int) with
  | none =>
    refine Or.inl ⟨rfl, ?_⟩
    rw [hm.fr s, List.any_eq_false]
    unfold toM at e
    exact fun x hx => List.find?_eq_none.1 e x hx
  | some m =>
    obtain ⟨i, q⟩ := toM_some e
    refine Or.inr ⟨(hm.rng m i).2.2.1, ?_⟩
    rw [hm.fr s, List.any_eq_true]
    exact ⟨m, i, by simp [q]⟩
theorem losts_app (x y : List Rec) (m : List (Int × Int)) : losts (x ++ y) m = losts x m ++ losts y m := by simp [losts, outs]
theorem lost_at {a : List Rec} {g : List (Int × Int)} {i : Nat} {r : Rec} (h : a[i]? = some r) (hp : lostP (upR r g) = true) : (losts a g)[(losts (a.take i) g).length]? = some (upR r g).id := by
  have e : losts a g = (losts (a.take i) g ++ [(upR r g).id]) ++ losts (a.drop (i + 1)) g := by
    rw [← losts_yes g h hp, ← losts_app, List.take_append_drop]
  rw [e, List.append_assoc, List.getElem?_append_right (Nat.le_refl _)]
  simp
theorem mvs_in (l : List (Int × Int)) : (mvs l).length ≤ 30 ∧ ∀ x ∈ mvs l, 0 ≤ x.1 ∧ x.1 < 64 ∧ 0 ≤ x.2 ∧ x.2 < 64 := by
  refine ⟨by simp [mvs]; omega, fun x hx => ?_⟩
  unfold mvs at hx
  obtain ⟨y, _, rfl⟩ := List.mem_map.1 hx
  unfold mv1
  dsimp only
  omega
end Go.Proofs.YtinnkaokplmcbaaDoor
