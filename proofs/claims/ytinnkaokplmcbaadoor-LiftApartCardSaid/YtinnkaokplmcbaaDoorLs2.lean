/- Lists of records are lifted. -/
import Derived.Test.YtinnkaokplmcbaaDoorLs1
namespace Go.Proofs.YtinnkaokplmcbaaDoor
open Go.RowKit
set_option linter.unusedVariables false
set_option linter.unusedSimpArgs false

section
variable {P : Program} {ops : Array Oper} {rest : List Oper} {o : Oper} {a : Act} {Q : Exit → Act → World → Prop}
/-- As own_append_box; and which row alone was written. -/
theorem own_append_box2 {w0 W : World} (base : Nat) (hgd : o.guard = none) (s x : Operand) (t e : TypeId)
    (ho : o.op = .call { callee := .builtin .append, args := #[s, x], argTypes := #[t, t] })
    (ht : P.underlying t = some (.slice e)) {z : Value} {size bytes : Nat} (hinfo : (P.info? e).map (fun i => (i.zero, i.size, i.bytes)) = some (some z, size, bytes)) (hzs : z.cells.size = size) (hsz : 0 < size)
    (v : Value) (n : Nat) (xs : List Value) (ns : Array Value) (hns : ns.size = size) (h1 : ∀ u ∈ ns.toList, u.oneCell' = true) (hs : a.eval s = v) (hx : a.eval x = .slice (some ⟨W.heap.size, 0, none⟩) 1 1)
    (HO : W.ownsRow base e size v n xs) (HB : Below base w0 W) (hbase : base ≤ W.heap.size) (hl : (n + 1) * bytes ≤ 140737488355328) (hn : n + 1 ≤ 140737488355328)
    (h : ∀ v1 w1, w1.ownsRow base e size v1 (n + 1) (xs ++ ns.toList) → Below base w0 w1 → W.heap.size ≤ w1.heap.size → (W.alloc (.cells ns e)).grownBy w1 v.ownBlock → wpList P ops Q rest (a.put o.dst v1) w1) :
    wpList P ops Q (o :: rest) a (W.alloc (.cells ns e)) := by
  obtain ⟨i0, hi, hz0, hz1, hz2⟩ := info_parts hinfo
  have hnew := World.news_of_block (cs := ns) (t := e) (fr := (0, 0)) (heap_alloc_new W _)
  refine wpList_append_own (W.alloc (.cells ns e)) hgd s x t ho base e i0 z size bytes ht hi hz0 hz1 hz2 hzs hsz v n xs hs (HO.alloc _) ⟨W.heap.size, 0, none⟩ 1 1 ns.toList hx (by simp [hns])
    hnew h1 (by simp only [maxLen]; omega) hl (by simp; omega) ?_
  intro v1 w1 hown hg _
  exact h v1 w1 hown ((HB.alloc hbase _).grown hg (by simp; omega) (fun k hk => ((HO.lt) k hk).1)) (by have := hg.size; simp at this; omega) hg
end

theorem hold_here {p : Prop} (h : Hid p) : p := h.out
theorem RdL.opn {w : World} {v : Value} {l : List Rec} (h : RdL w v l) : ∃ (a : Option Addr) (c : Nat), v = .slice a l.length c ∧ l.length ≤ c ∧ ∀ (k : Nat) (r : Rec), l[k]? = some r → ∃ b o, a = some ⟨b, o, none⟩ ∧ ∀ (j : Nat) (u : Value), (recC r)[j]? = some u → w.cell? ⟨b, o + k * 7 + j, none⟩ = some u := by
  obtain ⟨A, c, rfl, h1, h2, h3⟩ := h
  refine ⟨_, c, rfl, h1, fun k x hx => ?_⟩
  cases A with
  | none =>
    have := (List.getElem?_eq_some_iff.1 hx).1
    have := h2 rfl
    omega
  | some p => exact ⟨p.1, p.2, rfl, h3 p rfl k x hx⟩
theorem own_ne {w : World} {base base' : Nat} {e e' : TypeId} {s s' : Nat} {v v' : Value} {n n' : Nat} {xs xs' : List Value} (h : w.ownsRow base e s v n xs) (h' : w.ownsRow base' e' s' v' n' xs') (hne : e ≠ e') : v.ownBlock = none ∨ v.ownBlock ≠ v'.ownBlock := by
  rcases h.2 with ⟨rfl, _⟩ | ⟨g, cap, cur, rfl, _, hg, _⟩
  · exact .inl rfl
  · right
    rcases h'.2 with ⟨rfl, _⟩ | ⟨g', cap', cur', rfl, _, hg', _⟩
    · simp [Value.ownBlock]
    · simp only [Value.ownBlock, ne_eq, Option.some.injEq]
      rintro rfl
      rw [hg] at hg'
      simp at hg'
      exact hne hg'.2

def lostP (r : Rec) : Bool := !r.hold && (r.seat == -1)
def outs (l : List Rec) (m : List (Int × Int)) : List Rec := l.map (fun r => upR r m)
def losts (l : List Rec) (m : List (Int × Int)) : List Int := ((outs l m).filter lostP).map (·.id)
def allE (l : List Rec) : Int := if l.all mayR then 0 else 2
def allO (l : List Rec) (m : List (Int × Int)) : List Rec := if l.all mayR then outs l m else []
def allL (l : List Rec) (m : List (Int × Int)) : List Int := if l.all mayR then losts l m else []
def idC (n : Int) : Value := .int .u32 n
/-- The value v is a slice that reads as these numbers. -/
def RdN (w : World) (v : Value) (l : List Int) : Prop :=
  ∃ (A : Option (Nat × Nat)) (c : Nat), v = .slice (A.map fun p => ⟨p.1, p.2, none⟩) l.length c ∧ l.length ≤ c ∧ (A = none → c = 0) ∧ ∀ p, A = some p → ∀ (k : Nat) (n : Int), l[k]? = some n → w.cell? ⟨p.1, p.2 + k, none⟩ = some (.int .u32 n)
theorem RdN.nil (w : World) : RdN w (.slice none 0 0) [] := ⟨none, 0, rfl, Nat.le_refl _, fun _ => rfl, fun _ h => by cases h⟩
theorem RdN.below {w w1 : World} {v : Value} {l : List Int} (h : RdN w v l) (hb : Below w.heap.size w w1) : RdN w1 v l := by
  obtain ⟨A, c, e, h1, h2, h3⟩ := h
  exact ⟨A, c, e, h1, h2, fun p hp k n hn => keep_cell hb (h3 p hp k n hn)⟩
theorem RdN.own {w : World} {base : Nat} {e : TypeId} {v : Value} {l : List Int} (h : w.ownsRow base e 1 v l.length (l.map idC)) : RdN w v l := by
  rcases own_cells h with ⟨h1, h2⟩ | ⟨g, c, h1, h2, _, h3⟩
  · obtain rfl := List.eq_nil_of_length_eq_zero h2
    subst h1
    exact RdN.nil w
  · refine ⟨some (g, 0), c, h1, h2, (fun h => by cases h), fun p hp k n hn => ?_⟩
    obtain rfl : (g, 0) = p := by simpa using hp
    rw [Nat.zero_add]
    exact h3 _ _ (by rw [List.getElem?_map, hn]; rfl)
theorem all_no {l : List Rec} (m : List (Int × Int)) (h : l.all mayR = false) : allE l = 2 ∧ allO l m = [] ∧ allL l m = [] := by simp [allE, allO, allL, h]
theorem all_is {l : List Rec} (m : List (Int × Int)) (h : l.all mayR = true) : allE l = 0 ∧ allO l m = outs l m ∧ allL l m = losts l m := by simp [allE, allO, allL, h]
theorem info_u32 : (Tryd.prog.info? 22).map (fun i => (i.zero, i.size, i.bytes)) = some (some (.int .u32 0), 1, 4) := by kernel_rfl

theorem outs_snoc {l : List Rec} {k : Nat} {r : Rec} (m : List (Int × Int)) (h : l[k]? = some r) : outs (l.take (k + 1)) m = outs (l.take k) m ++ [upR r m] := by
  unfold outs
  rw [List.take_add_one, h, List.map_append]
  rfl
theorem losts_yes {l : List Rec} {k : Nat} {r : Rec} (m : List (Int × Int)) (h : l[k]? = some r) (hp : lostP (upR r m) = true) : losts (l.take (k + 1)) m = losts (l.take k) m ++ [(upR r m).id] := by
  unfold losts
  rw [outs_snoc m h, List.filter_append, List.map_append]
  simp [List.filter_cons, hp]
theorem losts_no {l : List Rec} {k : Nat} {r : Rec} (m : List (Int × Int)) (h : l[k]? = some r) (hp : lostP (upR r m) = false) : losts (l.take (k + 1)) m = losts (l.take k) m := by
  unfold losts
  rw [outs_snoc m h, List.filter_append, List.map_append]
  simp [List.filter_cons, hp]
theorem losts_len (l : List Rec) (m : List (Int × Int)) : (losts l m).length ≤ l.length := by
  unfold losts outs
  have := List.length_filter_le lostP (l.map fun r => upR r m)
  simpa using this
theorem all_snoc {l : List Rec} {k : Nat} {r : Rec} (h : l[k]? = some r) (ha : (l.take k).all mayR = true) (hm : mayR r = true) : Hid ((l.take (k + 1)).all mayR = true) := by
  show (l.take (k + 1)).all mayR = true
  rw [List.take_add_one, h, List.all_append, ha]
  simp [hm]
theorem all_not {l : List Rec} {k : Nat} {r : Rec} (h : l[k]? = some r) (hm : mayR r = false) : l.all mayR = false := by
  rw [List.all_eq_false]
  exact ⟨r, List.mem_of_getElem? h, by simp [hm]⟩
theorem id_snoc (xs : List Int) (n : Int) : (xs ++ [n]).map idC = xs.map idC ++ [.int .u32 n] := by simp [idC]
theorem own_len {w : World} {base : Nat} {e : TypeId} {s : Nat} {v : Value} {n n' : Nat} {xs xs' : List Value} (h : w.ownsRow base e s v n xs) (hn : n = n') (hx : xs = xs') : w.ownsRow base e s v n' xs' := by rw [← hn, ← hx]; exact h

set_option maxRecDepth 100000 in
set_option maxHeartbeats 8000000 in
theorem each_any (l : List Rec) (m : List (Int × Int)) (lv mv : Value) (w : World) (hl : RdL w lv l) (hlen : l.length ≤ 100) (hok : ∀ r ∈ l, r.Ok) (hm : RdM w mv m) (hml : m.length < 1000000) (hG : GP w) :
    Calls Tryd.prog 33 #[mv, lv] w fun e w' => ∃ v1 v2, e = .returned (.tuple #[v1, v2, .int .i64 (allE l)]) ∧ RdL w' v1 (allO l m) ∧ RdN w' v2 (allL l m) ∧ Below w.heap.size w w' := by
  obtain ⟨a, c, rfl, hc, hr⟩ := hl.opn
  have HR := Lib.hid hr
  have HK := Lib.hid hok
  clear hr hok hl
  go_enter Tryd.func33, Tryd.ntmps33
  go_wp2_with fail
  go_loopw [4, 5, 8, 9, 10, 13] (fun oo lo _ _ _ i wr => ∃ k : Nat, k ≤ l.length ∧ i = .int .i64 k ∧ Hid ((l.take k).all mayR = true) ∧ wr.ownsRow w.heap.size 25 7 oo k ((outs (l.take k) m).flatMap recC) ∧ wr.ownsRow w.heap.size 22 1 lo (losts (l.take k) m).length ((losts (l.take k) m).map idC) ∧ Below w.heap.size w wr) (fun _ _ _ _ _ i _ => l.length - (intOf i).toNat)
  case atStart => exact ⟨0, Nat.zero_le _, rfl, by simp [Hid], by simpa [outs] using World.ownsRow_nil w w.heap.size 25 7, by simpa [losts, outs] using World.ownsRow_nil w w.heap.size 22 1, Below.refl _ _⟩
  case round =>
    obtain ⟨k, hk, rfl, hall, HO, HL, HB⟩ := hrel
    by_cases hkl : k < l.length
    · obtain ⟨r, hr⟩ : ∃ r, l[k]? = some r := ⟨l[k], List.getElem?_eq_getElem hkl⟩
      obtain ⟨b, o, rfl, hcs⟩ := HR.out k r hr
      have hro : r.Ok := HK.out r (List.mem_of_getElem? hr)
      have c0 := keep_cell HB (hcs 0 _ rfl)
      have c1 := keep_cell HB (hcs 1 _ rfl)
      have c2 := keep_cell HB (hcs 2 _ rfl)
      have c3 := keep_cell HB (hcs 3 _ rfl)
      have c4 := keep_cell HB (hcs 4 _ rfl)
      have c5 := keep_cell HB (hcs 5 _ rfl)
      have c6 := keep_cell HB (hcs 6 _ rfl)
      rw [Nat.add_zero] at c0
      have HRK := Lib.hid hr
      have hB0 := (Below.refl wr.heap.size wr).alloc (Nat.le_refl _) (.cells #[.bool r.hold, .int .u32 r.id, .string r.person, .int .i64 r.cls, .int .i64 r.seat, .int .i64 r.was, .int .u64 r.til] 25)
      have HB1 := bstep HB hB0
      have hsl := losts_len (l.take k) m
      have hsl2 : (losts (l.take k) m).length ≤ k := Nat.le_trans hsl (List.length_take_le _ _)
      clear hr hcs hsl
      obtain ⟨x, hx⟩ : ∃ x, upR r m = x := ⟨_, rfl⟩
      cases hmay : mayR r with
      | false =>
        have he : upE r = 2 := by simp [upE, hmay]
        have HA : Hid (l.all mayR = false) := all_not HRK.out hmay
        clear hmay
        go_wp2_with (go_at_call 9; refine (Up_any r m _ _ hro (hG.below HB1) (hm.below HB1) hml).mono ?_; rintro e w2 ⟨rfl, hB⟩)
        obtain ⟨q1, q2, q3⟩ := all_no m HA.out
        go_returns
        rw [q1, q2, q3]
        exact ⟨_, _, rfl, RdL.nil _, RdN.nil _, (bstep HB1 hB).alloc (bstep HB1 hB).size _⟩
      | true =>
        have he : upE r = 0 := by simp [upE, hmay]
        have HA := all_snoc HRK.out hall.out hmay
        clear hmay
        go_wp2_with fail
        refine (Up_any r m _ _ hro (hG.below HB1) (hm.below HB1) hml).mono ?_
        rintro e w2 ⟨rfl, hB⟩
        have hX := bstep (bstep hB0 hB) ((Below.refl w2.heap.size w2).alloc (Nat.le_refl _) (.cells #[.bool x.hold, .int .u32 x.id, .string x.person, .int .i64 x.cls, .int .i64 x.seat, .int .i64 x.was, .int .u64 x.til] 25))
        have HBX := bstep HB hX
        have HOX := own_kept HO hX
        have HLX := own_kept HL hX
        have hne1 := own_ne HLX HOX (by decide)
        have hlt2 : wr.heap.size ≤ w2.heap.size := (bstep hB0 hB).size
        have hneX : some w2.heap.size ≠ u4.ownBlock := fun h => by
          have := (HO.lt w2.heap.size h.symm).2
          omega
        have hX0 : (w2.alloc (.cells #[.bool x.hold, .int .u32 x.id, .string x.person, .int .i64 x.cls, .int .i64 x.seat, .int .i64 x.was, .int .u64 x.til] 25)).heap[w2.heap.size]? = some (.cells #[.bool x.hold, .int .u32 x.id, .string x.person, .int .i64 x.cls, .int .i64 x.seat, .int .i64 x.was, .int .u64 x.til] 25 (0, 0)) := heap_alloc_new w2 _
        have HX := Lib.hid hx
        have hX1 := (World.grownBy_alloc (w2.alloc (.cells #[.bool x.hold, .int .u32 x.id, .string x.person, .int .i64 x.cls, .int .i64 x.seat, .int .i64 x.was, .int .u64 x.til] 25)) (.cells #[.bool x.hold, .int .u32 x.id, .string x.person, .int .i64 x.cls, .int .i64 x.seat, .int .i64 x.was, .int .u64 x.til] 25) none)
        go_wp2_with (at_builtin; go_loud (refine own_append_box2 w.heap.size rfl (.tmp 26) (.tmp 28) 46 25 rfl Tryd.underlying46 info_rec rfl (by decide) _ k _ #[.bool x.hold, .int .u32 x.id, .string x.person, .int .i64 x.cls, .int .i64 x.seat, .int .i64 x.was, .int .u64 x.til] rfl (by simp [Value.oneCell']) rfl (by rw [World.size_alloc]; rfl) HOX HBX HBX.size (by omega) (by omega) ?_); intro v1 w3 hown hB3 hsz3 hg3; refine hold_here ?_)
        refine Lib.hid ?_
        have HL3 := (HLX.alloc (.cells #[.bool x.hold, .int .u32 x.id, .string x.person, .int .i64 x.cls, .int .i64 x.seat, .int .i64 x.was, .int .u64 x.til] 25)).kept hg3 hne1
        have hX3 : w3.heap[w2.heap.size]? = some (.cells #[.bool x.hold, .int .u32 x.id, .string x.person, .int .i64 x.cls, .int .i64 x.seat, .int .i64 x.was, .int .u64 x.til] 25 (0, 0)) := (hg3.block w2.heap.size (by simp; omega) hneX).trans ((Below.heap_alloc _ _ _ (by simp)).trans hX0)
        have y0 : w3.cell? ⟨w2.heap.size, 0, none⟩ = some (.bool x.hold) := cell_of_row _ _ 0 _ _ _ hX3
        have y1 : w3.cell? ⟨w2.heap.size, 1, none⟩ = some (.int .u32 x.id) := cell_of_row _ _ 1 _ _ _ hX3
        have y4 : w3.cell? ⟨w2.heap.size, 4, none⟩ = some (.int .i64 x.seat) := cell_of_row _ _ 4 _ _ _ hX3
        have HO4 : Hid (outs (l.take (k + 1)) m = outs (l.take k) m ++ [x]) := by show _ = _; rw [outs_snoc m HRK.out, HX.out]
        replace hown : w3.ownsRow w.heap.size 25 7 v1 (k + 1) ((outs (l.take (k + 1)) m).flatMap recC) := own_len hown rfl (by rw [HO4.out, List.flatMap_append, List.flatMap_singleton]; rfl)
        clear hX3 hX0 hX1 hg3 HOX HLX hne1 HBX hneX hx HO HL HB c0 c1 c2 c3 c4 c5 c6 hX hB0 hB HB1
        by_cases hp : lostP x = true
        · obtain ⟨p1, p2⟩ : x.hold = false ∧ (x.seat == -1) = true := by simpa [lostP] using hp
          have HP : Hid (losts (l.take (k + 1)) m = losts (l.take k) m ++ [x.id]) := by show _ = _; rw [losts_yes m HRK.out (by rw [HX.out]; exact hp), HX.out]
          clear hp
          go_wp2_with (at_builtin; go_loud (refine own_append_box2 w.heap.size rfl (.tmp 38) (.tmp 41) 48 22 rfl Tryd.underlying48 info_u32 rfl (by decide) _ _ _ #[.int .u32 x.id] rfl (by simp [Value.oneCell']) rfl rfl HL3 hB3 hB3.size (by omega) (by omega) ?_); intro v2 w4 hown4 hB4 hsz4 hg4)
          go_roundw
          case rel => exact ⟨k + 1, by omega, by go_num, HA, (hown.alloc _).kept hg4 (own_ne hown HL3 (by decide)), own_len hown4 (by rw [HP.out]; simp) (by rw [HP.out, id_snoc]), hB4⟩
          case measure => simp [intOf]; omega
        · have HP : Hid (losts (l.take (k + 1)) m = losts (l.take k) m) := losts_no m HRK.out (by rw [HX.out]; simpa using hp)
          cases hh : x.hold with
          | true =>
            clear hp
            go_wp2_with fail
            go_roundw
            case rel => exact ⟨k + 1, by omega, by go_num, HA, hown, own_len HL3 (by rw [HP.out]) (by rw [HP.out]), hB3⟩
            case measure => simp [intOf]; omega
          | false =>
            have p2 : (x.seat == -1) = false := by simpa [lostP, hh] using hp
            clear hp
            go_wp2_with fail
            go_roundw
            case rel => exact ⟨k + 1, by omega, by go_num, HA, hown, own_len HL3 (by rw [HP.out]) (by rw [HP.out]), hB3⟩
            case measure => simp [intOf]; omega
    · go_wp2_with fail
      obtain ⟨q1, q2, q3⟩ := all_is m (show l.all mayR = true by have h := hall.out; rw [List.take_of_length_le (by omega)] at h; exact h)
      go_returns
      rw [q1, q2, q3]
      rw [List.take_of_length_le (by omega)] at HO HL
      refine ⟨_, _, rfl, RdL.own (own_len HO (by simp [outs]; omega) rfl), RdN.own HL, HB⟩
set_option maxRecDepth 100000 in
set_option maxHeartbeats 8000000 in
theorem rAll_any (l : List Rec) (m : List (Int × Int)) (lv mv : Value) (w : World) (hl : RdL w lv l) (hlen : l.length ≤ 100) (hok : ∀ r ∈ l, r.Ok) (hm : RdM w mv m) (hml : m.length < 1000000) :
    Calls Tryd.prog 20 #[lv, mv] w fun e w' => ∃ v1 v2, e = .returned (.tuple #[v1, v2, .int .i64 (allE l)]) ∧ RdL w' v1 (allO l m) ∧ RdN w' v2 (allL l m) ∧ Below w.heap.size w w' := by
  obtain ⟨a, c, rfl, hc, hr⟩ := hl.opn
  have HR := Lib.hid hr
  have HK := Lib.hid hok
  clear hr hok hl
  go_enter Tryd.func20, Tryd.ntmps20
  go_wp2_with fail
  go_loopw [7, 8, 9, 10, 11] (fun oo lo i _ _ wr => ∃ k : Nat, k ≤ l.length ∧ i = .int .i64 k ∧ Hid ((l.take k).all mayR = true) ∧ wr.ownsRow w.heap.size 25 7 oo k ((outs (l.take k) m).flatMap recC) ∧ wr.ownsRow w.heap.size 22 1 lo (losts (l.take k) m).length ((losts (l.take k) m).map idC) ∧ Below w.heap.size w wr) (fun _ _ i _ _ _ => l.length - (intOf i).toNat)
  case atStart => exact ⟨0, Nat.zero_le _, rfl, by simp [Hid], by simpa [outs] using World.ownsRow_nil w w.heap.size 25 7, by simpa [losts, outs] using World.ownsRow_nil w w.heap.size 22 1, Below.refl _ _⟩
  case round =>
    obtain ⟨k, hk, rfl, hall, HO, HL, HB⟩ := hrel
    by_cases hkl : k < l.length
    · obtain ⟨r, hr⟩ : ∃ r, l[k]? = some r := ⟨l[k], List.getElem?_eq_getElem hkl⟩
      obtain ⟨b, o, rfl, hcs⟩ := HR.out k r hr
      have hro : r.Ok := HK.out r (List.mem_of_getElem? hr)
      have c0 := keep_cell HB (hcs 0 _ rfl)
      have c1 := keep_cell HB (hcs 1 _ rfl)
      have c2 := keep_cell HB (hcs 2 _ rfl)
      have c3 := keep_cell HB (hcs 3 _ rfl)
      have c4 := keep_cell HB (hcs 4 _ rfl)
      have c5 := keep_cell HB (hcs 5 _ rfl)
      have c6 := keep_cell HB (hcs 6 _ rfl)
      rw [Nat.add_zero] at c0
      have HRK := Lib.hid hr
      have hB0 := Below.refl wr.heap.size wr
      have HB1 := bstep HB hB0
      have hsl := losts_len (l.take k) m
      have hsl2 : (losts (l.take k) m).length ≤ k := Nat.le_trans hsl (List.length_take_le _ _)
      clear hr hcs hsl
      obtain ⟨x, hx⟩ : ∃ x, upR r m = x := ⟨_, rfl⟩
      cases hmay : mayR r with
      | false =>
        have he : upE r = 2 := by simp [upE, hmay]
        have HA : Hid (l.all mayR = false) := all_not HRK.out hmay
        clear hmay
        go_wp2_with (go_at_call 11; refine (rUp_any r m _ _ hro (hm.below HB1) hml).mono ?_; rintro e w2 ⟨rfl, hB⟩)
        obtain ⟨q1, q2, q3⟩ := all_no m HA.out
        go_returns
        rw [q1, q2, q3]
        exact ⟨_, _, rfl, RdL.nil _, RdN.nil _, (bstep HB1 hB).alloc (bstep HB1 hB).size _⟩
      | true =>
        have he : upE r = 0 := by simp [upE, hmay]
        have HA := all_snoc HRK.out hall.out hmay
        clear hmay
        go_wp2_with fail
        refine (rUp_any r m _ _ hro (hm.below HB1) hml).mono ?_
        rintro e w2 ⟨rfl, hB⟩
        have hX := bstep (bstep hB0 hB) ((Below.refl w2.heap.size w2).alloc (Nat.le_refl _) (.cells #[.bool x.hold, .int .u32 x.id, .string x.person, .int .i64 x.cls, .int .i64 x.seat, .int .i64 x.was, .int .u64 x.til] 25))
        have HBX := bstep HB hX
        have HOX := own_kept HO hX
        have HLX := own_kept HL hX
        have hne1 := own_ne HLX HOX (by decide)
        have hlt2 : wr.heap.size ≤ w2.heap.size := (bstep hB0 hB).size
        have hneX : some w2.heap.size ≠ u7.ownBlock := fun h => by
          have := (HO.lt w2.heap.size h.symm).2
          omega
        have hX0 : (w2.alloc (.cells #[.bool x.hold, .int .u32 x.id, .string x.person, .int .i64 x.cls, .int .i64 x.seat, .int .i64 x.was, .int .u64 x.til] 25)).heap[w2.heap.size]? = some (.cells #[.bool x.hold, .int .u32 x.id, .string x.person, .int .i64 x.cls, .int .i64 x.seat, .int .i64 x.was, .int .u64 x.til] 25 (0, 0)) := heap_alloc_new w2 _
        have HX := Lib.hid hx
        have hX1 := (World.grownBy_alloc (w2.alloc (.cells #[.bool x.hold, .int .u32 x.id, .string x.person, .int .i64 x.cls, .int .i64 x.seat, .int .i64 x.was, .int .u64 x.til] 25)) (.cells #[.bool x.hold, .int .u32 x.id, .string x.person, .int .i64 x.cls, .int .i64 x.seat, .int .i64 x.was, .int .u64 x.til] 25) none)
        go_wp2_with (at_builtin; go_loud (refine own_append_box2 w.heap.size rfl (.tmp 30) (.tmp 32) 46 25 rfl Tryd.underlying46 info_rec rfl (by decide) _ k _ #[.bool x.hold, .int .u32 x.id, .string x.person, .int .i64 x.cls, .int .i64 x.seat, .int .i64 x.was, .int .u64 x.til] rfl (by simp [Value.oneCell']) rfl (by rw [World.size_alloc]; rfl) HOX HBX HBX.size (by omega) (by omega) ?_); intro v1 w3 hown hB3 hsz3 hg3; refine hold_here ?_)
        refine Lib.hid ?_
        have HL3 := (HLX.alloc (.cells #[.bool x.hold, .int .u32 x.id, .string x.person, .int .i64 x.cls, .int .i64 x.seat, .int .i64 x.was, .int .u64 x.til] 25)).kept hg3 hne1
        have hX3 : w3.heap[w2.heap.size]? = some (.cells #[.bool x.hold, .int .u32 x.id, .string x.person, .int .i64 x.cls, .int .i64 x.seat, .int .i64 x.was, .int .u64 x.til] 25 (0, 0)) := (hg3.block w2.heap.size (by simp; omega) hneX).trans ((Below.heap_alloc _ _ _ (by simp)).trans hX0)
        have y0 : w3.cell? ⟨w2.heap.size, 0, none⟩ = some (.bool x.hold) := cell_of_row _ _ 0 _ _ _ hX3
        have y1 : w3.cell? ⟨w2.heap.size, 1, none⟩ = some (.int .u32 x.id) := cell_of_row _ _ 1 _ _ _ hX3
        have y4 : w3.cell? ⟨w2.heap.size, 4, none⟩ = some (.int .i64 x.seat) := cell_of_row _ _ 4 _ _ _ hX3
        have HO4 : Hid (outs (l.take (k + 1)) m = outs (l.take k) m ++ [x]) := by show _ = _; rw [outs_snoc m HRK.out, HX.out]
        replace hown : w3.ownsRow w.heap.size 25 7 v1 (k + 1) ((outs (l.take (k + 1)) m).flatMap recC) := own_len hown rfl (by rw [HO4.out, List.flatMap_append, List.flatMap_singleton]; rfl)
        clear hX3 hX0 hX1 hg3 HOX HLX hne1 HBX hneX hx HO HL HB c0 c1 c2 c3 c4 c5 c6 hX hB0 hB HB1
        by_cases hp : lostP x = true
        · obtain ⟨p1, p2⟩ : x.hold = false ∧ (x.seat == -1) = true := by simpa [lostP] using hp
          have HP : Hid (losts (l.take (k + 1)) m = losts (l.take k) m ++ [x.id]) := by show _ = _; rw [losts_yes m HRK.out (by rw [HX.out]; exact hp), HX.out]
          clear hp
          go_wp2_with (at_builtin; go_loud (refine own_append_box2 w.heap.size rfl (.tmp 42) (.tmp 45) 48 22 rfl Tryd.underlying48 info_u32 rfl (by decide) _ _ _ #[.int .u32 x.id] rfl (by simp [Value.oneCell']) rfl rfl HL3 hB3 hB3.size (by omega) (by omega) ?_); intro v2 w4 hown4 hB4 hsz4 hg4)
          go_roundw
          case rel => exact ⟨k + 1, by omega, by go_num, HA, (hown.alloc _).kept hg4 (own_ne hown HL3 (by decide)), own_len hown4 (by rw [HP.out]; simp) (by rw [HP.out, id_snoc]), hB4⟩
          case measure => simp [intOf]; omega
        · have HP : Hid (losts (l.take (k + 1)) m = losts (l.take k) m) := losts_no m HRK.out (by rw [HX.out]; simpa using hp)
          cases hs : (x.seat == -1) with
          | false =>
            clear hp
            go_wp2_with fail
            go_roundw
            case rel => exact ⟨k + 1, by omega, by go_num, HA, hown, own_len HL3 (by rw [HP.out]) (by rw [HP.out]), hB3⟩
            case measure => simp [intOf]; omega
          | true =>
            have p2 : x.hold = true := by simpa [lostP, hs] using hp
            clear hp
            go_wp2_with fail
            go_roundw
            case rel => exact ⟨k + 1, by omega, by go_num, HA, hown, own_len HL3 (by rw [HP.out]) (by rw [HP.out]), hB3⟩
            case measure => simp [intOf]; omega
    · go_wp2_with fail
      obtain ⟨q1, q2, q3⟩ := all_is m (show l.all mayR = true by have h := hall.out; rw [List.take_of_length_le (by omega)] at h; exact h)
      go_returns
      rw [q1, q2, q3]
      rw [List.take_of_length_le (by omega)] at HO HL
      refine ⟨_, _, rfl, RdL.own (own_len HO (by simp [outs]; omega) rfl), RdN.own HL, HB⟩
set_option maxHeartbeats 1000000 in
theorem All_any (l : List Rec) (m : List (Int × Int)) (lv mv : Value) (w : World) (hl : RdL w lv l) (hlen : l.length ≤ 100) (hok : ∀ r ∈ l, r.Ok) (hm : RdM w mv m) (hml : m.length < 1000000) (hG : GP w) :
    Calls Tryd.prog 19 #[lv, mv] w fun e w' => ∃ v1 v2, e = .returned (.tuple #[v1, v2, .int .i64 (allE l)]) ∧ RdL w' v1 (allO l m) ∧ RdN w' v2 (allL l m) ∧ Below w.heap.size w w' := by
  go_enter Tryd.func19, Tryd.ntmps19
  go_wp2_with (go_at_call 33; refine (each_any l m _ _ _ hl hlen hok hm hml hG).mono ?_; rintro e w1 ⟨v1, v2, rfl, h1, h2, hB⟩)
  go_returns
  exact ⟨v1, v2, rfl, h1, h2, hB⟩
end Go.Proofs.YtinnkaokplmcbaaDoor
