/- VaryKnown: the walk. -/
import Derived.Test.YtemngdhbicndlaaDoorVe1
import Derived.Test.YtemngdhbicndlaaDoorRv
import Derived.Test.YtemngdhbicndlaaDoorVd3
import Derived.Test.YtemngdhbicndlaaDoorSr
namespace Go.Proofs.YtemngdhbicndlaaDoor
open Go.RowKit
set_option linter.unusedVariables false
set_option linter.unusedSimpArgs false

/-- What is known of a value. -/
inductive GT | eq (v : Value) | rd (l : List Fd) | ent (l : List Fd) (e : Int) | tab (t : List (List Fd × Int)) | any
def EntP (W : World) (u : Value) (l : List Fd) (e : Int) : Prop := ∃ v, u = .agg #[v, .int .i64 e] ∧ RdV W v l
def TabP (W : World) (u : Value) (t : List (List Fd × Int)) : Prop := ∃ b, u = .slice (some ⟨b, 0, none⟩) t.length t.length ∧ ∀ k p, t[k]? = some p → ∃ v, W.cell? ⟨b, 2 * k, none⟩ = some v ∧ W.cell? ⟨b, 2 * k + 1, none⟩ = some (.int .i64 p.2) ∧ RdV W v p.1
def TabC (W : World) (b : Nat) (t : List (List Fd × Int)) : Prop := ∀ k p, t[k]? = some p → ∃ v, W.cell? ⟨b, 2 * k, none⟩ = some v ∧ W.cell? ⟨b, 2 * k + 1, none⟩ = some (.int .i64 p.2) ∧ RdV W v p.1
theorem TabC.keep {W W' : World} {b : Nat} {t : List (List Fd × Int)} (h : TabC W b t) (hB : Below W.heap.size W W') : TabC W' b t := fun k p hp => by
  obtain ⟨v, h3, h4, h5⟩ := h k p hp
  exact ⟨v, keepC hB h3, keepC hB h4, h5.below hB⟩
def GT.is : GT → Value → World → Prop
  | .eq v, u, _ => u = v
  | .rd l, u, W => RdV W u l
  | .ent l e, u, W => EntP W u l e
  | .tab t, u, W => TabP W u t
  | .any, _, _ => True
theorem GT.is.keep {g : GT} {u : Value} {W W' : World} (h : g.is u W) (hB : Below W.heap.size W W') : g.is u W' := by
  cases g with
  | eq v => exact h
  | rd l => exact RdV.below h hB
  | ent l e =>
    obtain ⟨v, h1, h2⟩ := h
    exact ⟨v, h1, h2.below hB⟩
  | tab t =>
    obtain ⟨b, h1, h2⟩ := h
    refine ⟨b, h1, fun k p hp => ?_⟩
    obtain ⟨v, h3, h4, h5⟩ := h2 k p hp
    exact ⟨v, keepC hB h3, keepC hB h4, h5.below hB⟩
  | any => trivial
def cR (p : ByteArray × Int × Int) : List Value := [.string p.1, .int .i64 p.2.1, .int .i64 p.2.2]
def TabRC (W : World) (b : Nat) : Prop := ∀ k p, tabR[k]? = some p → W.cell? ⟨b, k * 3, none⟩ = some (.string p.1) ∧ W.cell? ⟨b, k * 3 + 1, none⟩ = some (.int .i64 p.2.1) ∧ W.cell? ⟨b, k * 3 + 2, none⟩ = some (.int .i64 p.2.2)
theorem TabRC.keep {W W' : World} {b : Nat} (h : TabRC W b) (hB : Below W.heap.size W W') : TabRC W' b := fun k p hp => by
  obtain ⟨h1, h2, h3⟩ := h k p hp
  exact ⟨keepC hB h1, keepC hB h2, keepC hB h3⟩
theorem tabR_at (W : World) (T : TypeId) : TabRC (W.alloc (.cells (tabR.flatMap cR).toArray T)) W.heap.size := fun k p hp => by
  have h := fun j hj => flat_at cR 3 (fun _ => rfl) j hj tabR k p hp
  refine ⟨?_, ?_, ?_⟩
  · rw [cell_of_row _ _ _ _ _ _ (heap_alloc_new W _)]
    rw [List.getElem?_toArray]
    exact (h 0 (by decide)).trans rfl
  · rw [cell_of_row _ _ _ _ _ _ (heap_alloc_new W _)]
    rw [List.getElem?_toArray]
    exact (h 1 (by decide)).trans rfl
  · rw [cell_of_row _ _ _ _ _ _ (heap_alloc_new W _)]
    rw [List.getElem?_toArray]
    exact (h 2 (by decide)).trans rfl
theorem app_list (a b : ByteArray) : (a ++ b).data.toList = a.data.toList ++ b.data.toList := by rw [show (a ++ b).data = a.data ++ b.data from ByteArray.data_append]; simp
theorem below_alloc1 (w : World) (o : Obj) : Below w.heap.size w (w.alloc o) := (Below.refl _ _).alloc (Nat.le_refl _) _
structure KnS (w : World) (V v32 : Value) (W : World) : Prop where
  below : Below w.heap.size w W
  rd : RdV W V manyL
  r32 : RdV W v32 (manyL.take 32)
theorem KnS.alloc {w : World} {V v32 : Value} {W : World} (h : KnS w V v32 W) (o : Obj) : KnS w V v32 (W.alloc o) :=
  have hB : Below W.heap.size W (W.alloc o) := (Below.refl _ _).alloc (Nat.le_refl _) _
  ⟨bstep7 h.below hB, h.rd.below hB, h.r32.below hB⟩
theorem tab_row {W : World} {cs : Array Value} {T : TypeId} {k : Nat} {v e : Value} {l : List Fd} (h0 : cs[2 * k]? = some v) (h1 : cs[2 * k + 1]? = some e) (hr : RdV W v l) : ∃ u, (W.alloc (.cells cs T)).cell? ⟨W.heap.size, 2 * k, none⟩ = some u ∧ (W.alloc (.cells cs T)).cell? ⟨W.heap.size, 2 * k + 1, none⟩ = some e ∧ RdV (W.alloc (.cells cs T)) u l :=
  ⟨v, (cell_of_row _ _ _ _ _ _ (heap_alloc_new W _)).trans h0, (cell_of_row _ _ _ _ _ _ (heap_alloc_new W _)).trans h1, hr.below ((Below.refl _ _).alloc (Nat.le_refl _) _)⟩
def gKn (V v32 : Value) (long cut : ByteArray) : List GT :=
  [.ent [] 0,
   .eq V,
   .eq v32,
   .ent (manyL.take 32) 0,
   .eq V,
   .ent manyL 4,
   .eq (⟨0, false, 0, ⟨#[]⟩⟩ : Fd).val,
   .rd [⟨0, false, 0, ⟨#[]⟩⟩],
   .ent [⟨0, false, 0, ⟨#[]⟩⟩] 2,
   .eq (⟨64, false, 0, ⟨#[]⟩⟩ : Fd).val,
   .rd [⟨64, false, 0, ⟨#[]⟩⟩],
   .ent [⟨64, false, 0, ⟨#[]⟩⟩] 2,
   .eq (⟨-1, false, 0, ⟨#[]⟩⟩ : Fd).val,
   .rd [⟨-1, false, 0, ⟨#[]⟩⟩],
   .ent [⟨-1, false, 0, ⟨#[]⟩⟩] 2,
   .eq (⟨1, false, 0, ⟨#[97]⟩⟩ : Fd).val,
   .rd [⟨1, false, 0, ⟨#[97]⟩⟩],
   .ent [⟨1, false, 0, ⟨#[97]⟩⟩] 2,
   .eq (⟨1, true, 1, ⟨#[]⟩⟩ : Fd).val,
   .rd [⟨1, true, 1, ⟨#[]⟩⟩],
   .ent [⟨1, true, 1, ⟨#[]⟩⟩] 2,
   .eq (⟨2, false, 1, ⟨#[]⟩⟩ : Fd).val,
   .eq (⟨2, false, 1, ⟨#[]⟩⟩ : Fd).val,
   .rd [⟨2, false, 1, ⟨#[]⟩⟩, ⟨2, false, 1, ⟨#[]⟩⟩],
   .ent [⟨2, false, 1, ⟨#[]⟩⟩, ⟨2, false, 1, ⟨#[]⟩⟩] 7,
   .eq (.string long),
   .eq (⟨1, true, 0, long⟩ : Fd).val,
   .rd [⟨1, true, 0, long⟩],
   .ent [⟨1, true, 0, long⟩] 4,
   .eq (.string long),
   .eq (.string cut),
   .eq (⟨1, true, 0, cut⟩ : Fd).val,
   .rd [⟨1, true, 0, cut⟩],
   .ent [⟨1, true, 0, cut⟩] 0,
   .eq (⟨1, false, 18446744073709551615, ⟨#[]⟩⟩ : Fd).val,
   .rd [⟨1, false, 18446744073709551615, ⟨#[]⟩⟩],
   .ent [⟨1, false, 18446744073709551615, ⟨#[]⟩⟩] 0,
   .tab (tabP long cut),
   .eq (.int .i64 12),
   .eq (.int .i64 0)]
theorem name_v {W : World} {v : Value} {l : List Fd} (h : Hid (RdV W v l)) : ∃ V, Hid (RdV W V l) ∧ V = v := ⟨v, h, rfl⟩
theorem gen_steps {P : Program} {Q : Exit → Act → World → Prop} {a0 : Act} {n : Nat} {G : Nat → Value → World → Prop} {S : World → Prop} {l : List Oper} {x y : Value} (h : ∀ a : Act, 36 + n ≤ a.tmps.size → a.eval (.tmp 1) = x → a.eval (.tmp 3) = y → StepsV P Q a 36 n G S 0 l) (h0 : 36 + n ≤ a0.tmps.size) (h1 : a0.eval (.tmp 1) = x) (h2 : a0.eval (.tmp 3) = y) : StepsV P Q a0 36 n G S 0 l := h a0 h0 h1 h2
theorem manyL_len : manyL.length = 33 := rfl
theorem many_snoc (k : Nat) : ((List.range (k + 1)).map manyF).flatMap fdC = ((List.range k).map manyF).flatMap fdC ++ [.int .i64 ((k : Int) + 1), .bool false, .int .u64 ((k : Int) + 1), .string ⟨#[]⟩] := by
  rw [List.range_succ, List.map_append, List.flatMap_append]
  rfl
set_option maxRecDepth 100000 in
set_option maxHeartbeats 2000000 in
theorem known_any (w : World) (hE : EtP w) : Calls Tryd.prog 7 #[] w fun e w' => e = .returned (.bool true) ∧ Below w.heap.size w w' := by
  have HE := Lib.hid hE
  go_enter Tryd.func7, Tryd.ntmps7
  go_wp2_with fail
  refine (works_any _ hE).mono ?_
  rintro e w0 ⟨rfl, hB0⟩
  have HB0 := Lib.hid hB0
  clear hB0 hE
  go_wp2_with fail
  go_loopw [1, 2] (fun v i wr => ∃ k : Nat, k ≤ 33 ∧ i = .int .i64 ((k : Int) + 1) ∧ Hid (wr.ownsRow w.heap.size 50 4 v k (((List.range k).map manyF).flatMap fdC)) ∧ Hid (Below w.heap.size w wr)) (fun _ i _ => 34 - (intOf i).toNat)
  case atStart => exact ⟨0, by omega, rfl, World.ownsRow_nil _ _ _ _, HB0⟩
  case round =>
    obtain ⟨k, hk, rfl, HO, HB⟩ := hrel
    have hH0 := HB.out.size
    by_cases hlt : k < 33
    · have hwr : IntKind.u64.wrap ((k : Int) + 1) = (k : Int) + 1 := by rw [IntKind.wrap_u64]; omega
      go_wp2_with (at_builtin; (refine own_append_box3 w.heap.size rfl (.tmp 28) (.tmp 33) 22 50 rfl Tryd.underlying22 info_fd rfl (by decide) _ k _ #[.int .i64 ((k : Int) + 1), .bool false, .int .u64 ((k : Int) + 1), .string ⟨#[]⟩] rfl (by simp [Value.oneCell']) rfl _ ?_ rfl HO.out HB.out ?_ ?_ ?_ ?_; (first | rfl | simp); (exact hH0); omega; omega; intro v5 w5 hO5 hB5 hs5))
      all_goals
        exact ⟨⟨k + 1, by omega, by go_num, by rw [many_snoc]; exact hO5, hB5⟩, by simp [intOf]; omega⟩
    · obtain rfl : k = 33 := by omega
      have HRD : Hid (RdV _ _ manyL) := RdV.own (base := w.heap.size) (e := 50) HO.out
      have HLM := manyL_len
      go_wp2_with fail
      have q := Tryd.strings_Repeat ⟨#[120]⟩ 2001 wr (by decide) (by decide)
      obtain ⟨long, hlong⟩ : ∃ long : ByteArray, long = ⟨(Lib.repeatL (⟨#[120]⟩ : ByteArray).data.toList 2001).toArray⟩ := ⟨_, rfl⟩
      have hll : long.size = 2001 := by rw [hlong, mk_size]; decide +kernel
      rw [← hlong] at q
      clear hlong
      refine q.mono ?_
      clear q
      rintro e w1 ⟨rfl, hB1⟩
      have HR1 := Lib.hid (HRD.out.below hB1)
      have HB1 := Lib.hid (bstep7 HB.out hB1)
      have hcut := fun W => run_slice_string_l W 9 long Tryd.underlying9 .i64 1 (by omega) (by omega)
      obtain ⟨cut, hcu⟩ : ∃ cut : ByteArray, cut = long.extract 1 long.size := ⟨_, rfl⟩
      have hcl : cut.size = 2000 := by rw [hcu, ByteArray.size_extract]; omega
      rw [show ((1 : Int)).toNat = 1 from rfl, ← hcu] at hcut
      clear hcu
      obtain ⟨v32, hr32, hs32⟩ := fields_to w1 _ manyL 32 HR1.out (by decide)
      clear hB1 HRD HB HO hH0
      have HR32 := Lib.hid hr32
      clear hr32
      obtain ⟨V, HR1, hV⟩ := name_v HR1
      rw [← hV] at hs32
      try rw [← hV]
      clear hV
      obtain ⟨aV, cV, hVs⟩ : ∃ a c, V = .slice a 33 c := by obtain ⟨a, c, h, _⟩ := HR1.out.opn; exact ⟨a, c, h⟩
      obtain ⟨a32, c32, h32s⟩ : ∃ a c, v32 = .slice a 32 c := by obtain ⟨a, c, h, _⟩ := HR32.out.opn; exact ⟨a, c, h⟩
      subst hVs h32s
      replace hs32 : ∀ W, (Instr.slice 22 (.slice aV 33 cV) none (some (.int .i64 32)) none).run Tryd.prog W = .ok (.slice a32 32 c32) W := hs32
      go_wp2_with fail
      refine wp_region_row (k := 36) (G := fun i => ((gKn (.slice aV 33 cV) (.slice a32 32 c32) long cut)[i]?).getD .any |>.is) (S := KnS w (.slice aV 33 cV) (.slice a32 32 c32)) (by kernel_rfl) (by kernel_rfl) (Nat.le_of_ble_eq_true rfl) ⟨HB1.out.drew, HR1.out, HR32.out⟩ (fun i v W W' h hB => h.keep hB) ?_ ?_
      · refine gen_steps (x := _) (y := .string long) ?_ (Nat.le_of_ble_eq_true rfl) rfl rfl
        intro a0 hk ha1 ha3
        clear HR1 HB1 HR32 HB0
        refine StepsV.cons ?_ (StepsV.cons ?_ (StepsV.cons ?_ (StepsV.cons ?_ (StepsV.cons ?_ (StepsV.cons ?_ (StepsV.cons ?_ (StepsV.cons ?_ (StepsV.cons ?_ (StepsV.cons ?_ (StepsV.cons ?_ (StepsV.cons ?_ (StepsV.cons ?_ (StepsV.cons ?_ (StepsV.cons ?_ (StepsV.cons ?_ (StepsV.cons ?_ (StepsV.cons ?_ (StepsV.cons ?_ (StepsV.cons ?_ (StepsV.cons ?_ (StepsV.cons ?_ (StepsV.cons ?_ (StepsV.cons ?_ (StepsV.cons ?_ (StepsV.cons ?_ (StepsV.cons ?_ (StepsV.cons ?_ (StepsV.cons ?_ (StepsV.cons ?_ (StepsV.cons ?_ (StepsV.cons ?_ (StepsV.cons ?_ (StepsV.cons ?_ (StepsV.cons ?_ (StepsV.cons ?_ (StepsV.cons ?_ (StepsV.cons ?_ (StepsV.cons ?_ (StepsV.cons ?_ (StepsV.nil))))))))))))))))))))))))))))))))))))))))
        · intro vs W hSW hG K hK
          generalize fillA a0 36 40 vs = A at *
          go_simp
          exact hK.out _ _ ⟨_, rfl, RdV.nil W⟩ hSW (Below.refl _ _)
        · intro vs W hSW hG K hK
          have e1 : (fillA a0 36 40 vs).tmps[1]?.getD undef = (.slice aV 33 cV) := fillA_old_slot a0 36 40 vs 1 (by decide) hk ha1
          generalize fillA a0 36 40 vs = A at *
          go_simp
          exact hK.out _ _ rfl hSW (Below.refl _ _)
        · intro vs W hSW hG K hK
          have e1 : (fillA a0 36 40 vs).tmps[37]?.getD undef = vs 1 := fillA_slot a0 36 40 vs 1 (by decide) hk
          have g1 := hG ⟨1, .data⟩ (by simp) rfl
          replace g1 : vs 1 = (.slice aV 33 cV) := g1
          rw [g1] at e1
          generalize fillA a0 36 40 vs = A at *
          go_simp
          exact hK.out _ _ rfl hSW (Below.refl _ _)
        · intro vs W hSW hG K hK
          have e2 : (fillA a0 36 40 vs).tmps[38]?.getD undef = vs 2 := fillA_slot a0 36 40 vs 2 (by decide) hk
          have g2 := hG ⟨2, .data⟩ (by simp) rfl
          replace g2 : vs 2 = (.slice a32 32 c32) := g2
          rw [g2] at e2
          generalize fillA a0 36 40 vs = A at *
          go_simp
          exact hK.out _ _ ⟨_, rfl, hSW.r32⟩ hSW (Below.refl _ _)
        · intro vs W hSW hG K hK
          have e1 : (fillA a0 36 40 vs).tmps[1]?.getD undef = (.slice aV 33 cV) := fillA_old_slot a0 36 40 vs 1 (by decide) hk ha1
          generalize fillA a0 36 40 vs = A at *
          go_simp
          exact hK.out _ _ rfl hSW (Below.refl _ _)
        · intro vs W hSW hG K hK
          have e4 : (fillA a0 36 40 vs).tmps[40]?.getD undef = vs 4 := fillA_slot a0 36 40 vs 4 (by decide) hk
          have g4 := hG ⟨4, .data⟩ (by simp) rfl
          replace g4 : vs 4 = (.slice aV 33 cV) := g4
          rw [g4] at e4
          generalize fillA a0 36 40 vs = A at *
          go_simp
          exact hK.out _ _ ⟨_, rfl, hSW.rd⟩ hSW (Below.refl _ _)
        · intro vs W hSW hG K hK
          generalize fillA a0 36 40 vs = A at *
          go_simp
          exact hK.out _ _ rfl hSW (Below.refl _ _)
        · intro vs W hSW hG K hK
          have e6 : (fillA a0 36 40 vs).tmps[42]?.getD undef = vs 6 := fillA_slot a0 36 40 vs 6 (by decide) hk
          have g6 := hG ⟨6, .data⟩ (by simp) rfl
          replace g6 : vs 6 = (⟨0, false, 0, ⟨#[]⟩⟩ : Fd).val := g6
          rw [g6] at e6
          generalize fillA a0 36 40 vs = A at *
          go_simp
          exact hK.out _ _ (RdV.lit W [⟨0, false, 0, ⟨#[]⟩⟩] _) (hSW.alloc _) ((Below.refl _ _).alloc (Nat.le_refl _) _)
        · intro vs W hSW hG K hK
          have e7 : (fillA a0 36 40 vs).tmps[43]?.getD undef = vs 7 := fillA_slot a0 36 40 vs 7 (by decide) hk
          have g7 := hG ⟨7, .data⟩ (by simp) rfl
          replace g7 : RdV W (vs 7) [⟨0, false, 0, ⟨#[]⟩⟩] := g7
          obtain ⟨a7, c7, s7⟩ : ∃ a c, vs 7 = .slice a 1 c := by obtain ⟨a, c, h, _⟩ := g7.opn; exact ⟨a, c, h⟩
          rw [s7] at e7 g7
          generalize fillA a0 36 40 vs = A at *
          go_simp
          exact hK.out _ _ ⟨_, rfl, g7⟩ hSW (Below.refl _ _)
        · intro vs W hSW hG K hK
          generalize fillA a0 36 40 vs = A at *
          go_simp
          exact hK.out _ _ rfl hSW (Below.refl _ _)
        · intro vs W hSW hG K hK
          have e9 : (fillA a0 36 40 vs).tmps[45]?.getD undef = vs 9 := fillA_slot a0 36 40 vs 9 (by decide) hk
          have g9 := hG ⟨9, .data⟩ (by simp) rfl
          replace g9 : vs 9 = (⟨64, false, 0, ⟨#[]⟩⟩ : Fd).val := g9
          rw [g9] at e9
          generalize fillA a0 36 40 vs = A at *
          go_simp
          exact hK.out _ _ (RdV.lit W [⟨64, false, 0, ⟨#[]⟩⟩] _) (hSW.alloc _) ((Below.refl _ _).alloc (Nat.le_refl _) _)
        · intro vs W hSW hG K hK
          have e10 : (fillA a0 36 40 vs).tmps[46]?.getD undef = vs 10 := fillA_slot a0 36 40 vs 10 (by decide) hk
          have g10 := hG ⟨10, .data⟩ (by simp) rfl
          replace g10 : RdV W (vs 10) [⟨64, false, 0, ⟨#[]⟩⟩] := g10
          obtain ⟨a10, c10, s10⟩ : ∃ a c, vs 10 = .slice a 1 c := by obtain ⟨a, c, h, _⟩ := g10.opn; exact ⟨a, c, h⟩
          rw [s10] at e10 g10
          generalize fillA a0 36 40 vs = A at *
          go_simp
          exact hK.out _ _ ⟨_, rfl, g10⟩ hSW (Below.refl _ _)
        · intro vs W hSW hG K hK
          generalize fillA a0 36 40 vs = A at *
          go_simp
          exact hK.out _ _ rfl hSW (Below.refl _ _)
        · intro vs W hSW hG K hK
          have e12 : (fillA a0 36 40 vs).tmps[48]?.getD undef = vs 12 := fillA_slot a0 36 40 vs 12 (by decide) hk
          have g12 := hG ⟨12, .data⟩ (by simp) rfl
          replace g12 : vs 12 = (⟨-1, false, 0, ⟨#[]⟩⟩ : Fd).val := g12
          rw [g12] at e12
          generalize fillA a0 36 40 vs = A at *
          go_simp
          exact hK.out _ _ (RdV.lit W [⟨-1, false, 0, ⟨#[]⟩⟩] _) (hSW.alloc _) ((Below.refl _ _).alloc (Nat.le_refl _) _)
        · intro vs W hSW hG K hK
          have e13 : (fillA a0 36 40 vs).tmps[49]?.getD undef = vs 13 := fillA_slot a0 36 40 vs 13 (by decide) hk
          have g13 := hG ⟨13, .data⟩ (by simp) rfl
          replace g13 : RdV W (vs 13) [⟨-1, false, 0, ⟨#[]⟩⟩] := g13
          obtain ⟨a13, c13, s13⟩ : ∃ a c, vs 13 = .slice a 1 c := by obtain ⟨a, c, h, _⟩ := g13.opn; exact ⟨a, c, h⟩
          rw [s13] at e13 g13
          generalize fillA a0 36 40 vs = A at *
          go_simp
          exact hK.out _ _ ⟨_, rfl, g13⟩ hSW (Below.refl _ _)
        · intro vs W hSW hG K hK
          generalize fillA a0 36 40 vs = A at *
          go_simp
          exact hK.out _ _ rfl hSW (Below.refl _ _)
        · intro vs W hSW hG K hK
          have e15 : (fillA a0 36 40 vs).tmps[51]?.getD undef = vs 15 := fillA_slot a0 36 40 vs 15 (by decide) hk
          have g15 := hG ⟨15, .data⟩ (by simp) rfl
          replace g15 : vs 15 = (⟨1, false, 0, ⟨#[97]⟩⟩ : Fd).val := g15
          rw [g15] at e15
          generalize fillA a0 36 40 vs = A at *
          go_simp
          exact hK.out _ _ (RdV.lit W [⟨1, false, 0, ⟨#[97]⟩⟩] _) (hSW.alloc _) ((Below.refl _ _).alloc (Nat.le_refl _) _)
        · intro vs W hSW hG K hK
          have e16 : (fillA a0 36 40 vs).tmps[52]?.getD undef = vs 16 := fillA_slot a0 36 40 vs 16 (by decide) hk
          have g16 := hG ⟨16, .data⟩ (by simp) rfl
          replace g16 : RdV W (vs 16) [⟨1, false, 0, ⟨#[97]⟩⟩] := g16
          obtain ⟨a16, c16, s16⟩ : ∃ a c, vs 16 = .slice a 1 c := by obtain ⟨a, c, h, _⟩ := g16.opn; exact ⟨a, c, h⟩
          rw [s16] at e16 g16
          generalize fillA a0 36 40 vs = A at *
          go_simp
          exact hK.out _ _ ⟨_, rfl, g16⟩ hSW (Below.refl _ _)
        · intro vs W hSW hG K hK
          generalize fillA a0 36 40 vs = A at *
          go_simp
          exact hK.out _ _ rfl hSW (Below.refl _ _)
        · intro vs W hSW hG K hK
          have e18 : (fillA a0 36 40 vs).tmps[54]?.getD undef = vs 18 := fillA_slot a0 36 40 vs 18 (by decide) hk
          have g18 := hG ⟨18, .data⟩ (by simp) rfl
          replace g18 : vs 18 = (⟨1, true, 1, ⟨#[]⟩⟩ : Fd).val := g18
          rw [g18] at e18
          generalize fillA a0 36 40 vs = A at *
          go_simp
          exact hK.out _ _ (RdV.lit W [⟨1, true, 1, ⟨#[]⟩⟩] _) (hSW.alloc _) ((Below.refl _ _).alloc (Nat.le_refl _) _)
        · intro vs W hSW hG K hK
          have e19 : (fillA a0 36 40 vs).tmps[55]?.getD undef = vs 19 := fillA_slot a0 36 40 vs 19 (by decide) hk
          have g19 := hG ⟨19, .data⟩ (by simp) rfl
          replace g19 : RdV W (vs 19) [⟨1, true, 1, ⟨#[]⟩⟩] := g19
          obtain ⟨a19, c19, s19⟩ : ∃ a c, vs 19 = .slice a 1 c := by obtain ⟨a, c, h, _⟩ := g19.opn; exact ⟨a, c, h⟩
          rw [s19] at e19 g19
          generalize fillA a0 36 40 vs = A at *
          go_simp
          exact hK.out _ _ ⟨_, rfl, g19⟩ hSW (Below.refl _ _)
        · intro vs W hSW hG K hK
          generalize fillA a0 36 40 vs = A at *
          go_simp
          exact hK.out _ _ rfl hSW (Below.refl _ _)
        · intro vs W hSW hG K hK
          generalize fillA a0 36 40 vs = A at *
          go_simp
          exact hK.out _ _ rfl hSW (Below.refl _ _)
        · intro vs W hSW hG K hK
          have e21 : (fillA a0 36 40 vs).tmps[57]?.getD undef = vs 21 := fillA_slot a0 36 40 vs 21 (by decide) hk
          have g21 := hG ⟨21, .data⟩ (by simp) rfl
          replace g21 : vs 21 = (⟨2, false, 1, ⟨#[]⟩⟩ : Fd).val := g21
          rw [g21] at e21
          have e22 : (fillA a0 36 40 vs).tmps[58]?.getD undef = vs 22 := fillA_slot a0 36 40 vs 22 (by decide) hk
          have g22 := hG ⟨22, .data⟩ (by simp) rfl
          replace g22 : vs 22 = (⟨2, false, 1, ⟨#[]⟩⟩ : Fd).val := g22
          rw [g22] at e22
          generalize fillA a0 36 40 vs = A at *
          go_simp
          exact hK.out _ _ (RdV.lit W [⟨2, false, 1, ⟨#[]⟩⟩, ⟨2, false, 1, ⟨#[]⟩⟩] _) (hSW.alloc _) ((Below.refl _ _).alloc (Nat.le_refl _) _)
        · intro vs W hSW hG K hK
          have e23 : (fillA a0 36 40 vs).tmps[59]?.getD undef = vs 23 := fillA_slot a0 36 40 vs 23 (by decide) hk
          have g23 := hG ⟨23, .data⟩ (by simp) rfl
          replace g23 : RdV W (vs 23) [⟨2, false, 1, ⟨#[]⟩⟩, ⟨2, false, 1, ⟨#[]⟩⟩] := g23
          obtain ⟨a23, c23, s23⟩ : ∃ a c, vs 23 = .slice a 2 c := by obtain ⟨a, c, h, _⟩ := g23.opn; exact ⟨a, c, h⟩
          rw [s23] at e23 g23
          generalize fillA a0 36 40 vs = A at *
          go_simp
          exact hK.out _ _ ⟨_, rfl, g23⟩ hSW (Below.refl _ _)
        · intro vs W hSW hG K hK
          have e3 : (fillA a0 36 40 vs).tmps[3]?.getD undef = .string long := fillA_old_slot a0 36 40 vs 3 (by decide) hk ha3
          generalize fillA a0 36 40 vs = A at *
          go_simp
          exact hK.out _ _ rfl hSW (Below.refl _ _)
        · intro vs W hSW hG K hK
          have e25 : (fillA a0 36 40 vs).tmps[61]?.getD undef = vs 25 := fillA_slot a0 36 40 vs 25 (by decide) hk
          have g25 := hG ⟨25, .data⟩ (by simp) rfl
          replace g25 : vs 25 = (.string long) := g25
          rw [g25] at e25
          generalize fillA a0 36 40 vs = A at *
          go_simp
          exact hK.out _ _ rfl hSW (Below.refl _ _)
        · intro vs W hSW hG K hK
          have e26 : (fillA a0 36 40 vs).tmps[62]?.getD undef = vs 26 := fillA_slot a0 36 40 vs 26 (by decide) hk
          have g26 := hG ⟨26, .data⟩ (by simp) rfl
          replace g26 : vs 26 = (⟨1, true, 0, long⟩ : Fd).val := g26
          rw [g26] at e26
          generalize fillA a0 36 40 vs = A at *
          go_simp
          exact hK.out _ _ (RdV.lit W [⟨1, true, 0, long⟩] _) (hSW.alloc _) ((Below.refl _ _).alloc (Nat.le_refl _) _)
        · intro vs W hSW hG K hK
          have e27 : (fillA a0 36 40 vs).tmps[63]?.getD undef = vs 27 := fillA_slot a0 36 40 vs 27 (by decide) hk
          have g27 := hG ⟨27, .data⟩ (by simp) rfl
          replace g27 : RdV W (vs 27) [⟨1, true, 0, long⟩] := g27
          obtain ⟨a27, c27, s27⟩ : ∃ a c, vs 27 = .slice a 1 c := by obtain ⟨a, c, h, _⟩ := g27.opn; exact ⟨a, c, h⟩
          rw [s27] at e27 g27
          generalize fillA a0 36 40 vs = A at *
          go_simp
          exact hK.out _ _ ⟨_, rfl, g27⟩ hSW (Below.refl _ _)
        · intro vs W hSW hG K hK
          have e3 : (fillA a0 36 40 vs).tmps[3]?.getD undef = .string long := fillA_old_slot a0 36 40 vs 3 (by decide) hk ha3
          generalize fillA a0 36 40 vs = A at *
          go_simp
          exact hK.out _ _ rfl hSW (Below.refl _ _)
        · intro vs W hSW hG K hK
          have e29 : (fillA a0 36 40 vs).tmps[65]?.getD undef = vs 29 := fillA_slot a0 36 40 vs 29 (by decide) hk
          have g29 := hG ⟨29, .data⟩ (by simp) rfl
          replace g29 : vs 29 = (.string long) := g29
          rw [g29] at e29
          generalize fillA a0 36 40 vs = A at *
          go_simp
          exact hK.out _ _ rfl hSW (Below.refl _ _)
        · intro vs W hSW hG K hK
          have e30 : (fillA a0 36 40 vs).tmps[66]?.getD undef = vs 30 := fillA_slot a0 36 40 vs 30 (by decide) hk
          have g30 := hG ⟨30, .data⟩ (by simp) rfl
          replace g30 : vs 30 = (.string cut) := g30
          rw [g30] at e30
          generalize fillA a0 36 40 vs = A at *
          go_simp
          exact hK.out _ _ rfl hSW (Below.refl _ _)
        · intro vs W hSW hG K hK
          have e31 : (fillA a0 36 40 vs).tmps[67]?.getD undef = vs 31 := fillA_slot a0 36 40 vs 31 (by decide) hk
          have g31 := hG ⟨31, .data⟩ (by simp) rfl
          replace g31 : vs 31 = (⟨1, true, 0, cut⟩ : Fd).val := g31
          rw [g31] at e31
          generalize fillA a0 36 40 vs = A at *
          go_simp
          exact hK.out _ _ (RdV.lit W [⟨1, true, 0, cut⟩] _) (hSW.alloc _) ((Below.refl _ _).alloc (Nat.le_refl _) _)
        · intro vs W hSW hG K hK
          have e32 : (fillA a0 36 40 vs).tmps[68]?.getD undef = vs 32 := fillA_slot a0 36 40 vs 32 (by decide) hk
          have g32 := hG ⟨32, .data⟩ (by simp) rfl
          replace g32 : RdV W (vs 32) [⟨1, true, 0, cut⟩] := g32
          obtain ⟨a32, c32, s32⟩ : ∃ a c, vs 32 = .slice a 1 c := by obtain ⟨a, c, h, _⟩ := g32.opn; exact ⟨a, c, h⟩
          rw [s32] at e32 g32
          generalize fillA a0 36 40 vs = A at *
          go_simp
          exact hK.out _ _ ⟨_, rfl, g32⟩ hSW (Below.refl _ _)
        · intro vs W hSW hG K hK
          generalize fillA a0 36 40 vs = A at *
          go_simp
          exact hK.out _ _ rfl hSW (Below.refl _ _)
        · intro vs W hSW hG K hK
          have e34 : (fillA a0 36 40 vs).tmps[70]?.getD undef = vs 34 := fillA_slot a0 36 40 vs 34 (by decide) hk
          have g34 := hG ⟨34, .data⟩ (by simp) rfl
          replace g34 : vs 34 = (⟨1, false, 18446744073709551615, ⟨#[]⟩⟩ : Fd).val := g34
          rw [g34] at e34
          generalize fillA a0 36 40 vs = A at *
          go_simp
          exact hK.out _ _ (RdV.lit W [⟨1, false, 18446744073709551615, ⟨#[]⟩⟩] _) (hSW.alloc _) ((Below.refl _ _).alloc (Nat.le_refl _) _)
        · intro vs W hSW hG K hK
          have e35 : (fillA a0 36 40 vs).tmps[71]?.getD undef = vs 35 := fillA_slot a0 36 40 vs 35 (by decide) hk
          have g35 := hG ⟨35, .data⟩ (by simp) rfl
          replace g35 : RdV W (vs 35) [⟨1, false, 18446744073709551615, ⟨#[]⟩⟩] := g35
          obtain ⟨a35, c35, s35⟩ : ∃ a c, vs 35 = .slice a 1 c := by obtain ⟨a, c, h, _⟩ := g35.opn; exact ⟨a, c, h⟩
          rw [s35] at e35 g35
          generalize fillA a0 36 40 vs = A at *
          go_simp
          exact hK.out _ _ ⟨_, rfl, g35⟩ hSW (Below.refl _ _)
        · intro vs W hSW hG K hK
          have e0 : (fillA a0 36 40 vs).tmps[36]?.getD undef = vs 0 := fillA_slot a0 36 40 vs 0 (by decide) hk
          have g0 := hG ⟨0, .data⟩ (by simp) rfl
          obtain ⟨x0, g0, r0⟩ : EntP W (vs 0) [] 0 := g0
          rw [g0] at e0
          have e3 : (fillA a0 36 40 vs).tmps[39]?.getD undef = vs 3 := fillA_slot a0 36 40 vs 3 (by decide) hk
          have g3 := hG ⟨3, .data⟩ (by simp) rfl
          obtain ⟨x3, g3, r3⟩ : EntP W (vs 3) (manyL.take 32) 0 := g3
          rw [g3] at e3
          have e5 : (fillA a0 36 40 vs).tmps[41]?.getD undef = vs 5 := fillA_slot a0 36 40 vs 5 (by decide) hk
          have g5 := hG ⟨5, .data⟩ (by simp) rfl
          obtain ⟨x5, g5, r5⟩ : EntP W (vs 5) manyL 4 := g5
          rw [g5] at e5
          have e8 : (fillA a0 36 40 vs).tmps[44]?.getD undef = vs 8 := fillA_slot a0 36 40 vs 8 (by decide) hk
          have g8 := hG ⟨8, .data⟩ (by simp) rfl
          obtain ⟨x8, g8, r8⟩ : EntP W (vs 8) [⟨0, false, 0, ⟨#[]⟩⟩] 2 := g8
          rw [g8] at e8
          have e11 : (fillA a0 36 40 vs).tmps[47]?.getD undef = vs 11 := fillA_slot a0 36 40 vs 11 (by decide) hk
          have g11 := hG ⟨11, .data⟩ (by simp) rfl
          obtain ⟨x11, g11, r11⟩ : EntP W (vs 11) [⟨64, false, 0, ⟨#[]⟩⟩] 2 := g11
          rw [g11] at e11
          have e14 : (fillA a0 36 40 vs).tmps[50]?.getD undef = vs 14 := fillA_slot a0 36 40 vs 14 (by decide) hk
          have g14 := hG ⟨14, .data⟩ (by simp) rfl
          obtain ⟨x14, g14, r14⟩ : EntP W (vs 14) [⟨-1, false, 0, ⟨#[]⟩⟩] 2 := g14
          rw [g14] at e14
          have e17 : (fillA a0 36 40 vs).tmps[53]?.getD undef = vs 17 := fillA_slot a0 36 40 vs 17 (by decide) hk
          have g17 := hG ⟨17, .data⟩ (by simp) rfl
          obtain ⟨x17, g17, r17⟩ : EntP W (vs 17) [⟨1, false, 0, ⟨#[97]⟩⟩] 2 := g17
          rw [g17] at e17
          have e20 : (fillA a0 36 40 vs).tmps[56]?.getD undef = vs 20 := fillA_slot a0 36 40 vs 20 (by decide) hk
          have g20 := hG ⟨20, .data⟩ (by simp) rfl
          obtain ⟨x20, g20, r20⟩ : EntP W (vs 20) [⟨1, true, 1, ⟨#[]⟩⟩] 2 := g20
          rw [g20] at e20
          have e24 : (fillA a0 36 40 vs).tmps[60]?.getD undef = vs 24 := fillA_slot a0 36 40 vs 24 (by decide) hk
          have g24 := hG ⟨24, .data⟩ (by simp) rfl
          obtain ⟨x24, g24, r24⟩ : EntP W (vs 24) [⟨2, false, 1, ⟨#[]⟩⟩, ⟨2, false, 1, ⟨#[]⟩⟩] 7 := g24
          rw [g24] at e24
          have e28 : (fillA a0 36 40 vs).tmps[64]?.getD undef = vs 28 := fillA_slot a0 36 40 vs 28 (by decide) hk
          have g28 := hG ⟨28, .data⟩ (by simp) rfl
          obtain ⟨x28, g28, r28⟩ : EntP W (vs 28) [⟨1, true, 0, long⟩] 4 := g28
          rw [g28] at e28
          have e33 : (fillA a0 36 40 vs).tmps[69]?.getD undef = vs 33 := fillA_slot a0 36 40 vs 33 (by decide) hk
          have g33 := hG ⟨33, .data⟩ (by simp) rfl
          obtain ⟨x33, g33, r33⟩ : EntP W (vs 33) [⟨1, true, 0, cut⟩] 0 := g33
          rw [g33] at e33
          have e36 : (fillA a0 36 40 vs).tmps[72]?.getD undef = vs 36 := fillA_slot a0 36 40 vs 36 (by decide) hk
          have g36 := hG ⟨36, .data⟩ (by simp) rfl
          obtain ⟨x36, g36, r36⟩ : EntP W (vs 36) [⟨1, false, 18446744073709551615, ⟨#[]⟩⟩] 0 := g36
          rw [g36] at e36
          generalize fillA a0 36 40 vs = A at *
          go_simp
          refine hK.out _ _ ⟨_, rfl, fun k p hp => ?_⟩ (hSW.alloc _) ((Below.refl _ _).alloc (Nat.le_refl _) _)
          match k, hp with
          | 0, hp => obtain rfl := Option.some.inj (show some _ = some p from hp); exact tab_row (k := 0) rfl rfl r0
          | 1, hp => obtain rfl := Option.some.inj (show some _ = some p from hp); exact tab_row (k := 1) rfl rfl r3
          | 2, hp => obtain rfl := Option.some.inj (show some _ = some p from hp); exact tab_row (k := 2) rfl rfl r5
          | 3, hp => obtain rfl := Option.some.inj (show some _ = some p from hp); exact tab_row (k := 3) rfl rfl r8
          | 4, hp => obtain rfl := Option.some.inj (show some _ = some p from hp); exact tab_row (k := 4) rfl rfl r11
          | 5, hp => obtain rfl := Option.some.inj (show some _ = some p from hp); exact tab_row (k := 5) rfl rfl r14
          | 6, hp => obtain rfl := Option.some.inj (show some _ = some p from hp); exact tab_row (k := 6) rfl rfl r17
          | 7, hp => obtain rfl := Option.some.inj (show some _ = some p from hp); exact tab_row (k := 7) rfl rfl r20
          | 8, hp => obtain rfl := Option.some.inj (show some _ = some p from hp); exact tab_row (k := 8) rfl rfl r24
          | 9, hp => obtain rfl := Option.some.inj (show some _ = some p from hp); exact tab_row (k := 9) rfl rfl r28
          | 10, hp => obtain rfl := Option.some.inj (show some _ = some p from hp); exact tab_row (k := 10) rfl rfl r33
          | 11, hp => obtain rfl := Option.some.inj (show some _ = some p from hp); exact tab_row (k := 11) rfl rfl r36
          | k + 12, hp => exact absurd (show (none : Option (List Fd × Int)) = some p from hp) (by simp)
        · intro vs W hSW hG K hK
          have e37 : (fillA a0 36 40 vs).tmps[73]?.getD undef = vs 37 := fillA_slot a0 36 40 vs 37 (by decide) hk
          have g37 := hG ⟨37, .data⟩ (by simp) rfl
          obtain ⟨tb, g37, r37⟩ : TabP W (vs 37) (tabP long cut) := g37
          rw [g37] at e37
          generalize fillA a0 36 40 vs = A at *
          go_simp
          exact hK.out _ _ rfl hSW (Below.refl _ _)
        · intro vs W hSW hG K hK
          generalize fillA a0 36 40 vs = A at *
          go_simp
          exact hK.out _ _ rfl hSW (Below.refl _ _)
      · intro vs W hSW hall
        have h37 : TabP W (vs 37) (tabP long cut) := hall 37 (by decide)
        have h38 : vs 38 = .int .i64 12 := hall 38 (by decide)
        have h39 : vs 39 = .int .i64 0 := hall 39 (by decide)
        obtain ⟨tb, htb, HTT⟩ := h37
        replace htb : vs 37 = .slice (some ⟨tb, 0, none⟩) 12 12 := htb
        have HT := Lib.hid HTT
        have HSW := Lib.hid hSW
        clear HTT hSW hall HR1 HB1 HR32
        simp only [fillA, List.size_toArray, List.length_cons, List.length_nil, Nat.zero_add, Nat.reduceAdd, show List.range 40 = [0, 1, 2, 3, 4, 5, 6, 7, 8, 9, 10, 11, 12, 13, 14, 15, 16, 17, 18, 19, 20, 21, 22, 23, 24, 25, 26, 27, 28, 29, 30, 31, 32, 33, 34, 35, 36, 37, 38, 39] from rfl, List.map_cons, List.map_nil, List.take_succ_cons, List.take_zero, List.drop_succ_cons, List.drop_zero, List.cons_append, List.nil_append]
        rw [htb, h38, h39]
        clear htb h38 h39
        go_wp2_with fail
        have HTO := tabP_ok long cut hll hcl
        have hlen : (tabP long cut).length = 12 := rfl
        generalize tabP long cut = tab at HT HTO hlen
        have HTB := Lib.hid HTO
        have HLEN := Lib.hid hlen
        clear HTO hlen
        go_loopw [75] (fun i wr => ∃ k : Nat, k ≤ 12 ∧ i = .int .i64 k ∧ Hid (Below w.heap.size w wr) ∧ Hid (TabC wr tb tab) ∧ Hid (RdV wr (.slice aV 33 cV) manyL) ∧ Hid (RdV wr (.slice a32 32 c32) (manyL.take 32))) (fun i _ => 12 - (intOf i).toNat)
        case atStart => exact ⟨0, by omega, rfl, HSW.out.below, HT.out, HSW.out.rd, HSW.out.r32⟩
        case round =>
          obtain ⟨k, hk, rfl, HB, HTC, HRV, HR32⟩ := hrel
          by_cases hlt : k < 12
          · obtain ⟨⟨l, c⟩, hp⟩ : ∃ p, tab[k]? = some p := ⟨_, List.getElem?_eq_getElem (by rw [HLEN.out]; exact hlt)⟩
            obtain ⟨x, h0, h1, hr⟩ := HTC.out k _ hp
            rw [Nat.mul_comm] at h0 h1
            have hki0 : (0 : Int) ≤ (k : Int) := by omega
            have hki1 : (k : Int) < 12 := by omega
            obtain ⟨q1, q2, q3⟩ := HTB.out _ (List.mem_of_getElem? hp)
            obtain ⟨xa, xc, rfl, hxc, hxr⟩ := hr.opn
            have HRX := Lib.hid hr
            have HQ1 := Lib.hid q1
            have HQ3 := Lib.hid q3
            clear hr q1 q3 hp hxr
            go_wp2_with fail
            have hBa := fun o => (Below.refl wr.heap.size wr).alloc (Nat.le_refl _) o
            have hz := fun T => cell_of_row _ _ 1 _ _ _ (heap_alloc_new wr (.cells #[.slice xa l.length xc, .int .i64 c] T))
            have q := fun o => put_any l _ _ (HRX.out.below (hBa o)) HQ3.out (by unfold maxLen; omega)
            rw [show putC l = c from HQ1.out] at q
            refine (q _).mono ?_
            clear q
            rintro e wc ⟨rfl, hBc⟩
            have z1 := keepC hBc (hz _)
            have hBd := bstep7 (hBa _) hBc
            have HBd := Lib.hid (bstep7 HB.out hBd)
            have HTd := Lib.hid (HTC.out.keep hBd)
            have HVd := Lib.hid (HRV.out.below hBd)
            have H3d := Lib.hid (HR32.out.below hBd)
            clear hBa hz hBc hBd HB HTC HRV HR32 HRX HQ1 HQ3
            go_wp2_with fail
            go_roundw
            case rel => exact ⟨k + 1, by omega, by go_num, HBd.out, HTd.out, HVd.out, H3d.out⟩
            case measure => simp [intOf]; omega
          · obtain rfl : k = 12 := by omega
            rw [show ((12 : Nat) : Int) = (12 : Int) from rfl]
            go_wp2_with fail
            have HW2 := Lib.hid (tabR_at wr 57)
            have HBn := Lib.hid (bstep7 HB.out (below_alloc1 wr (.cells (tabR.flatMap cR).toArray 57)))
            have HVn := Lib.hid (HRV.out.below (below_alloc1 wr (.cells (tabR.flatMap cR).toArray 57)))
            have H3n := Lib.hid (HR32.out.below (below_alloc1 wr (.cells (tabR.flatMap cR).toArray 57)))
            rw [show (tabR.flatMap cR).toArray = #[Value.string ⟨#[]⟩, .int .i64 0, .int .i64 0, .string ⟨#[0]⟩, .int .i64 2, .int .i64 0, .string ⟨#[1, 0]⟩, .int .i64 2, .int .i64 0, .string ⟨#[128, 0]⟩, .int .i64 2, .int .i64 0, .string ⟨#[2]⟩, .int .i64 3, .int .i64 0, .string ⟨#[2, 9]⟩, .int .i64 5, .int .i64 0, .string ⟨#[2, 2, 1]⟩, .int .i64 3, .int .i64 0, .string ⟨#[2, 0, 2, 0]⟩, .int .i64 7, .int .i64 2, .string ⟨#[2, 0, 3, 0]⟩, .int .i64 7, .int .i64 2, .string ⟨#[3, 1, 5, 97]⟩, .int .i64 3, .int .i64 0, .string ⟨#[3, 2, 7, 209]⟩, .int .i64 4, .int .i64 0, .string ⟨#[3, 8, 255, 255, 255, 255, 255, 255, 255, 255]⟩, .int .i64 4, .int .i64 0, .string ⟨#[2, 8, 255, 255, 255, 255, 255, 255, 255, 255]⟩, .int .i64 0, .int .i64 0, .string ⟨#[2, 8, 0, 255, 255, 255, 255, 255, 255, 255]⟩, .int .i64 5, .int .i64 0, .string ⟨#[2, 0, 4, 1]⟩, .int .i64 3, .int .i64 2, .string ⟨#[5, 0, 127, 0]⟩, .int .i64 0, .int .i64 0] from rfl] at HW2 HBn HVn H3n
            generalize wr.alloc (.cells #[Value.string ⟨#[]⟩, .int .i64 0, .int .i64 0, .string ⟨#[0]⟩, .int .i64 2, .int .i64 0, .string ⟨#[1, 0]⟩, .int .i64 2, .int .i64 0, .string ⟨#[128, 0]⟩, .int .i64 2, .int .i64 0, .string ⟨#[2]⟩, .int .i64 3, .int .i64 0, .string ⟨#[2, 9]⟩, .int .i64 5, .int .i64 0, .string ⟨#[2, 2, 1]⟩, .int .i64 3, .int .i64 0, .string ⟨#[2, 0, 2, 0]⟩, .int .i64 7, .int .i64 2, .string ⟨#[2, 0, 3, 0]⟩, .int .i64 7, .int .i64 2, .string ⟨#[3, 1, 5, 97]⟩, .int .i64 3, .int .i64 0, .string ⟨#[3, 2, 7, 209]⟩, .int .i64 4, .int .i64 0, .string ⟨#[3, 8, 255, 255, 255, 255, 255, 255, 255, 255]⟩, .int .i64 4, .int .i64 0, .string ⟨#[2, 8, 255, 255, 255, 255, 255, 255, 255, 255]⟩, .int .i64 0, .int .i64 0, .string ⟨#[2, 8, 0, 255, 255, 255, 255, 255, 255, 255]⟩, .int .i64 5, .int .i64 0, .string ⟨#[2, 0, 4, 1]⟩, .int .i64 3, .int .i64 2, .string ⟨#[5, 0, 127, 0]⟩, .int .i64 0, .int .i64 0] 57) = wn at *
            generalize wr.heap.size = b2 at *
            clear HB HTC HRV HR32
            go_loopw [111] (fun i wr => ∃ k : Nat, k ≤ 16 ∧ i = .int .i64 k ∧ Hid (Below w.heap.size w wr) ∧ Hid (TabRC wr b2) ∧ Hid (RdV wr (.slice aV 33 cV) manyL) ∧ Hid (RdV wr (.slice a32 32 c32) (manyL.take 32))) (fun i _ => 16 - (intOf i).toNat)
            case atStart => exact ⟨0, by omega, rfl, HBn.out, HW2.out, HVn.out, H3n.out⟩
            case round =>
              clear HBn HW2 HVn H3n
              obtain ⟨k, hk, rfl, HB, HTC, HRV, HR32⟩ := hrel
              by_cases hlt : k < 16
              · obtain ⟨⟨s, c, t⟩, hp⟩ : ∃ p, tabR[k]? = some p := ⟨_, List.getElem?_eq_getElem (show k < tabR.length from hlt)⟩
                obtain ⟨h0, h1, h2⟩ := HTC.out k _ hp
                have hki0 : (0 : Int) ≤ (k : Int) := by omega
                have hki1 : (k : Int) < 16 := by omega
                obtain ⟨q1, q2, q3, q4⟩ := tabR_ok _ (List.mem_of_getElem? hp)
                have HQ3 := Lib.hid q3
                have hs10 : s.size ≤ 140737488351232 := Nat.le_trans q4 (by decide)
                have HQ := Lib.hid (fun W => read_any s W hs10)
                have q1' : readC s.data.toList = c := q1
                have q2' : readT s.data.toList = t := q2
                rw [q1', q2'] at HQ
                clear q1 q2 q3 q4 hp q1' q2' hs10
                go_wp2_with fail
                have hBa := below_alloc1 wr
                have hz := fun T j => cell_of_row _ _ j _ _ _ (heap_alloc_new wr (.cells #[.string s, .int .i64 c, .int .i64 t] T))
                refine (HQ.out _).mono ?_
                rintro e wc ⟨v1, e1, rfl, hr1, he1, hBc⟩
                have z1 := keepC hBc (hz _ 1)
                have z2 := keepC hBc (hz _ 2)
                have HBd := Lib.hid (bstep7 HB.out (bstep7 (hBa _) hBc))
                have HTd := Lib.hid (HTC.out.keep (bstep7 (hBa _) hBc))
                have HVd := Lib.hid (HRV.out.below (bstep7 (hBa _) hBc))
                have H3d := Lib.hid (HR32.out.below (bstep7 (hBa _) hBc))
                have hlen : Hid (c ≠ 0 → (readF s.data.toList).length = 0) := fun hc => by rw [HQ3.out hc]; rfl
                obtain ⟨a8, c8, rfl, _⟩ := hr1.opn
                have HE1 := Lib.hid he1
                clear hBa hz hBc HB HTC HRV HR32 HQ HQ3 hr1 he1
                by_cases hc : c = 0
                · subst hc
                  clear hlen
                  go_wp2_with fail
                  refine (told_is HE1.out (HE.out.below HBd.out)).mono ?_
                  rintro e we ⟨rfl, hBe⟩
                  have z1 := keepC hBe z1
                  have HBe := Lib.hid (bstep7 HBd.out hBe)
                  have HTe := Lib.hid (HTd.out.keep hBe)
                  have HVe := Lib.hid (HVd.out.below hBe)
                  have H3e := Lib.hid (H3d.out.below hBe)
                  clear hBe HBd HTd HVd H3d HE1
                  go_wp2_with fail
                  go_roundw
                  case rel => exact ⟨k + 1, by omega, by go_num, HBe.out, HTe.out, HVe.out, H3e.out⟩
                  case measure => simp [intOf]; omega
                · have hl := hlen.out hc
                  rw [hl]
                  have hcn : (c != 0) = true := by simpa using hc
                  have hce : (c == 0) = false := by simpa using hc
                  clear hlen hl hc
                  go_wp2_with fail
                  refine (told_is HE1.out (HE.out.below HBd.out)).mono ?_
                  rintro e we ⟨rfl, hBe⟩
                  have z1 := keepC hBe z1
                  have HBe := Lib.hid (bstep7 HBd.out hBe)
                  have HTe := Lib.hid (HTd.out.keep hBe)
                  have HVe := Lib.hid (HVd.out.below hBe)
                  have H3e := Lib.hid (H3d.out.below hBe)
                  clear hBe HBd HTd HVd H3d HE1
                  go_wp2_with fail
                  go_roundw
                  case rel => exact ⟨k + 1, by omega, by go_num, HBe.out, HTe.out, HVe.out, H3e.out⟩
                  case measure => simp [intOf]; omega
              · obtain rfl : k = 16 := by omega
                rw [show ((16 : Nat) : Int) = (16 : Int) from rfl]
                have q := put_any (manyL.take 32) _ wr HR32.out many_n32 (by decide)
                rw [many32, many_flat] at q
                obtain ⟨S, hS⟩ : ∃ S : ByteArray, S = ⟨s96.toArray⟩ := ⟨_, rfl⟩
                have hSs : S.size = 96 := by rw [hS, mk_size]; rfl
                have hSl : Hid (S.data.toList = s96) := by rw [hS]; exact (rfl : (s96.toArray).toList = s96)
                rw [← hS] at q
                obtain ⟨T, hT⟩ : ∃ T : ByteArray, T = S ++ ⟨#[66, 0]⟩ := ⟨_, rfl⟩
                have hadd : ∀ W, (Op.stringOp .add S ⟨#[66, 0]⟩).run Tryd.prog W = .ok (.string T) W := fun W => by rw [hT]; exact run_string_add_sum W _ _ (by show S.size + (⟨#[66, 0]⟩ : ByteArray).size ≤ _; rw [hSs]; decide)
                have hTs : T.size = 98 := by rw [hT, ByteArray.size_append]; show S.size + 2 = _; omega
                have hTl : Hid (T.data.toList = s96 ++ [66, 0]) := by rw [hT, app_list, hSl.out]; exact rfl
                have hTr := fun W => read_any T W (by omega)
                rw [hTl.out, more_is.1, more_is.2] at hTr
                have HTR := Lib.hid hTr
                clear hS hT hTr hSl hTl
                go_wp2_with fail
                refine q.mono ?_
                clear q
                rintro e w3 ⟨rfl, hB3⟩
                have HB3 := Lib.hid (bstep7 HB.out hB3)
                have HV3 := Lib.hid (HRV.out.below hB3)
                clear hB3 HB HTC HRV HR32
                go_wp2_with fail
                refine (HTR.out _).mono ?_
                rintro e w4 ⟨v4, e4, rfl, hr4, he4, hB4⟩
                have HE4 := Lib.hid he4
                have HB4 := Lib.hid (bstep7 HB3.out hB4)
                have HV4 := Lib.hid (HV3.out.below hB4)
                clear hB4 HB3 HV3 HTR hr4 he4
                go_wp2_with fail
                have q := find_any manyL 7 _ w4 HV4.out (by decide)
                rw [show (findV manyL 7).val = .agg #[.int .i64 7, .bool false, .int .u64 7, .string ⟨#[]⟩] from rfl, show (findF manyL 7).isSome = true from rfl] at q
                refine q.mono ?_
                clear q
                rintro e w5 ⟨rfl, hB5⟩
                have HE5 := Lib.hid (HE4.out.keep hB5)
                have HB5 := Lib.hid (bstep7 HB4.out hB5)
                have HV5 := Lib.hid (HV4.out.below hB5)
                clear hB5 HB4 HV4 HE4
                go_wp2_with fail
                have q := fun o => find_any manyL 34 _ _ (HV5.out.below (below_alloc1 w5 o)) (by decide)
                rw [show (findV manyL 34).val = .agg #[.int .i64 0, .bool false, .int .u64 0, .string ⟨#[]⟩] from rfl, show (findF manyL 34).isSome = false from rfl] at q
                refine (q _).mono ?_
                clear q
                rintro e w6 ⟨rfl, hB6⟩
                have hz := fun T j => cell_of_row _ _ j _ _ _ (heap_alloc_new w5 (.cells #[.int .i64 7, .bool false, .int .u64 7, .string ⟨#[]⟩] T))
                have z2 := keepC hB6 (hz _ 2)
                have HE6 := Lib.hid (HE5.out.keep (bstep7 (below_alloc1 w5 _) hB6))
                have HB6 := Lib.hid (bstep7 HB5.out (bstep7 (below_alloc1 w5 _) hB6))
                clear hB6 HB5 HV5 HE5 hz
                go_wp2_with fail
                have hz6 := fun o => keepC (below_alloc1 w6 o) z2
                refine (told_is (HE6.out.keep (below_alloc1 w6 _)) (HE.out.below (bstep7 HB6.out (below_alloc1 w6 _)))).mono ?_
                rintro e w7 ⟨rfl, hB7⟩
                have z3 := keepC hB7 (hz6 _)
                have HB7 := Lib.hid (bstep7 HB6.out (bstep7 (below_alloc1 w6 _) hB7))
                clear hB7 HB6 HE6 z2 hz6
                go_wp2_with fail
                go_ret
                exact ⟨rfl, HB7.out⟩
end Go.Proofs.YtemngdhbicndlaaDoor
