/- VaryReads: the walk. -/
import Derived.Test.YtemngdhbicndlaaDoorVd3
import Derived.Test.YtemngdhbicndlaaDoorVb9
import Derived.Test.YtemngdhbicndlaaDoorVca
import Derived.Test.YtemngdhbicndlaaDoorVcb
namespace Go.Proofs.YtemngdhbicndlaaDoor
open Go.RowKit
set_option linter.unusedVariables false
set_option linter.unusedSimpArgs false

theorem TurnS.trans {w X W : World} {q : Nat} {u0 u1 u2 : Value} (h : X.cell? ⟨q, 0, none⟩ = some u0 ∧ X.cell? ⟨q, 1, none⟩ = some u1 ∧ X.cell? ⟨q, 2, none⟩ = some u2 ∧ Below w.heap.size w X) (hB : Below X.heap.size X W) :
    W.cell? ⟨q, 0, none⟩ = some u0 ∧ W.cell? ⟨q, 1, none⟩ = some u1 ∧ W.cell? ⟨q, 2, none⟩ = some u2 ∧ Below w.heap.size w W :=
  ⟨keepC hB h.1, keepC hB h.2.1, keepC hB h.2.2.1, bstep7 h.2.2.2 hB⟩
theorem TurnS.alloc {w X : World} {q : Nat} {u0 u1 u2 : Value} (h : X.cell? ⟨q, 0, none⟩ = some u0 ∧ X.cell? ⟨q, 1, none⟩ = some u1 ∧ X.cell? ⟨q, 2, none⟩ = some u2 ∧ Below w.heap.size w X) (o : Obj) :
    (X.alloc o).cell? ⟨q, 0, none⟩ = some u0 ∧ (X.alloc o).cell? ⟨q, 1, none⟩ = some u1 ∧ (X.alloc o).cell? ⟨q, 2, none⟩ = some u2 ∧ Below w.heap.size w (X.alloc o) := TurnS.trans h ((Below.refl _ _).alloc (Nat.le_refl _) _)
theorem TurnS.set {w X : World} {q j : Nat} {u0 u1 u2 v : Value} (h : X.cell? ⟨w.heap.size, 0, none⟩ = some u0 ∧ X.cell? ⟨w.heap.size, 1, none⟩ = some u1 ∧ X.cell? ⟨w.heap.size, 2, none⟩ = some u2 ∧ Below w.heap.size w X) (hq : w.heap.size < q) :
    (X.setCell ⟨q, j, none⟩ v).cell? ⟨w.heap.size, 0, none⟩ = some u0 ∧ (X.setCell ⟨q, j, none⟩ v).cell? ⟨w.heap.size, 1, none⟩ = some u1 ∧ (X.setCell ⟨q, j, none⟩ v).cell? ⟨w.heap.size, 2, none⟩ = some u2 ∧ Below w.heap.size w (X.setCell ⟨q, j, none⟩ v) :=
  ⟨keep_off h.1 (by omega), keep_off h.2.1 (by omega), keep_off h.2.2.1 (by omega), below_set h.2.2.2 (by omega)⟩
theorem rowA {X w4 : World} {o : Obj} (hB : Below (X.alloc o).heap.size (X.alloc o) w4) : w4.heap[X.heap.size]? = some o := (hB.block _ (by simp)).trans (heap_alloc_new X o)
theorem rowAd {X w4 : World} {o : Obj} (hB : Below (X.alloc o).drew.heap.size (X.alloc o).drew w4) : w4.heap[X.heap.size]? = some o := (hB.block _ (by show _ < (X.alloc o).heap.size; simp)).trans (heap_alloc_new X o)
theorem put_size {l : List Fd} (hn : ∀ f ∈ l, f.n < 18446744073709551616) : (⟨(putL l).toArray⟩ : ByteArray).size ≤ 64320 := by
  by_cases hC : putC l = 0
  · rw [putL_of hC, mk_size]; exact (flat_size hn hC).1
  · rw [show putL l = [] from if_neg hC]; decide
/-- Three strings lie in block q. -/
def Three (w : World) (q : Nat) (S : Nat → ByteArray) : Prop := ∀ k, k < 3 → w.cell? ⟨q, k, none⟩ = some (.string (S k))
theorem Three.keep {w W : World} {q : Nat} {S : Nat → ByteArray} (h : Three w q S) (hB : Below w.heap.size w W) : Three W q S := fun k hk => keepC hB (h k hk)
def sel3 (a b c : ByteArray) : Nat → ByteArray | 0 => a | 1 => b | _ => c
theorem sel3_size {a b c : ByteArray} (k : Nat) (ha : a.size ≤ 64320) (hb : b.size ≤ 64320) (hc : c.size ≤ 64320) : (sel3 a b c k).size ≤ 64320 := by
  unfold sel3; split <;> assumption
theorem three_of {W : World} {q : Nat} {a b c : ByteArray} {t : TypeId} (h : W.heap[q]? = some (.cells #[.string a, .string b, .string c] t (0, 0))) : Three W q (sel3 a b c) := by
  obtain ⟨h0, h1, h2⟩ := row3 h
  intro k hk
  match k, hk with
  | 0, _ => exact h0
  | 1, _ => exact h1
  | 2, _ => exact h2
  | k + 3, h => omega
theorem three_ex {w W : World} {q : Nat} {S : Nat → ByteArray} (h : Three W q S) (hB : Below w.heap.size w W) : ∃ wL q', Hid (Three wL q' S) ∧ Hid (Below w.heap.size w wL) ∧ W = wL ∧ q = q' := ⟨W, q, h, hB, rfl, rfl⟩
set_option maxRecDepth 100000 in
set_option maxHeartbeats 2000000 in
theorem reads_any (s : ByteArray) (l : List Fd) (at_ by_ stay : Int) (v : Value) (w : World) (hE : EtP w) (hs : s.size ≤ 140737488351232) (hv : RdV w v l) (hml : l.length ≤ maxLen) (hn : ∀ f ∈ l, f.n < 18446744073709551616) (ha0 : 0 ≤ at_) (ha1 : at_ < 65536) (hb0 : 0 ≤ by_) (hb1 : by_ < 256) (hs0 : -32768 ≤ stay) (hs1 : stay < 32768) :
    Calls Tryd.prog 3 #[.string s, v, .agg #[.int .u16 at_, .int .u8 by_, .int .i16 stay]] w fun e w' => e = .returned (.bool true) ∧ Below w.heap.size w w' := by
  obtain ⟨m, hm⟩ : ∃ m : Nat, m = min s.size 1000 := ⟨_, rfl⟩
  have hmi : (if (1000 : Int) < (s.size : Int) then (1000 : Int) else (s.size : Int)) = (m : Int) := by split <;> omega
  have hms : m ≤ s.size := by omega
  have hsl := fun W => run_take (P := Tryd.prog) 9 Tryd.underlying9 s m hms W
  have hsz : (s.extract 0 m).size ≤ 1000 := by rw [ByteArray.size_extract]; omega
  obtain ⟨S, hS⟩ : ∃ S, S = s.extract 0 m := ⟨_, rfl⟩
  rw [← hS] at hsl hsz
  clear hm hS
  have hx := heap_alloc_new w (.cells #[.int .u16 at_, .int .u8 by_, .int .i16 stay] 26)
  obtain ⟨k0, k1, k2⟩ := row3 hx
  have HB0 : Hid (Below w.heap.size w (w.alloc (.cells #[.int .u16 at_, .int .u8 by_, .int .i16 stay] 26))) := (Below.refl _ _).alloc (Nat.le_refl _) _
  clear hx
  have HE := Lib.hid hE
  have HF : Hid (∀ W, Below w.heap.size w W → _) := fun W hB => few_any l 0 v W (hv.below hB) hml hn (by decide) (by decide)
  have HTV : Hid (∀ (P : ByteArray), P.size ≤ 64320 → ∀ W, _) := fun P hP W => turned_any P at_ by_ stay W (by omega) ha0 ha1 hb0 hb1 hs0 hs1
  clear hv hml hn hE
  go_enter Tryd.func3, Tryd.ntmps3
  go_wp2_with fail
  refine (HF.out _ HB0.out).mono ?_
  rintro e w1 ⟨v1, l1, rfl, hr1, hp1, hB1⟩
  replace k0 := keepC hB1 k0
  replace k1 := keepC hB1 k1
  replace k2 := keepC hB1 k2
  have HR1 := Lib.hid hr1
  have HP1 := Lib.hid hp1
  have HB1 := Lib.hid (bstep7 HB0.out hB1)
  have hl40 := hp1.len
  have hm1 : l1.length ≤ maxLen := by unfold maxLen; omega
  clear hr1 hp1 hB1 HF HB0
  go_wp2_with fail
  refine (rput_any l1 v1 w1 HR1.out HP1.out.num hm1).mono ?_
  have hPs := put_size HP1.out.num
  have HTU := Lib.hid (HTV.out _ hPs)
  obtain ⟨PL, hPL⟩ : ∃ PL : ByteArray, PL = ⟨(putL l1).toArray⟩ := ⟨_, rfl⟩
  rw [← hPL] at hPs HTU ⊢
  generalize putC l1 = C
  rintro e w2 ⟨rfl, hB2⟩
  replace k0 := keepC hB2 k0
  replace k1 := keepC hB2 k1
  replace k2 := keepC hB2 k2
  have HB2 := Lib.hid (bstep7 HB1.out hB2)
  clear hB2 HB1 hPL HR1 HP1 hm1 hl40 HTV
  go_wp2_with fail
  refine wp_region_held_drew (S := (fun W => W.cell? ⟨w.heap.size, 0, none⟩ = some (.int .u16 at_) ∧ W.cell? ⟨w.heap.size, 1, none⟩ = some (.int .u8 by_) ∧ W.cell? ⟨w.heap.size, 2, none⟩ = some (.int .i16 stay) ∧ Below w.heap.size w W)) (by kernel_rfl) ?hSsrd (fun hHeld => ?restSrd)
  case hSsrd => exact ⟨k0, k1, k2, HB2.out.drew⟩
  refine wpAnyH_take (i := 0) (v := ?vrd0) rfl (by kernel_rfl) (by kernel_rfl) (by kernel_rfl) (fun _ _ _ h => h) (Or.inl ⟨by rfl, ?hyrd0⟩) (by assumption) ?restrd0
  case hyrd0 =>
    intro w hSw
    (try dsimp only at hSw)
    go_simp
    all_goals with_reducible rfl
  try simp only [Act.put, List.getElem_toArray, List.getElem_cons_succ, List.getElem_cons_zero, List.setIfInBounds_toArray, List.set_cons_zero, List.set_cons_succ]
  refine wpAnyH_take (i := 1) (v := ?vrd1) rfl (by kernel_rfl) (by kernel_rfl) (by kernel_rfl) (fun _ _ _ h => h) (Or.inl ⟨by rfl, ?hyrd1⟩) (by assumption) ?restrd1
  case hyrd1 =>
    intro w hSw
    (try dsimp only at hSw)
    go_simp
    all_goals with_reducible rfl
  try simp only [Act.put, List.getElem_toArray, List.getElem_cons_succ, List.getElem_cons_zero, List.setIfInBounds_toArray, List.set_cons_zero, List.set_cons_succ]
  refine wpAnyH_take (i := 2) (v := ?vrd2) rfl (by kernel_rfl) (by kernel_rfl) (by kernel_rfl) (fun _ _ _ h => h) (Or.inl ⟨by rfl, ?hyrd2⟩) (by assumption) ?restrd2
  case hyrd2 =>
    intro w hSw
    (try dsimp only at hSw)
    go_simp
    all_goals with_reducible rfl
  try simp only [Act.put, List.getElem_toArray, List.getElem_cons_succ, List.getElem_cons_zero, List.setIfInBounds_toArray, List.set_cons_zero, List.set_cons_succ]
  refine wpAnyH_take (i := 3) (v := ?vrd3) rfl (by kernel_rfl) (by kernel_rfl) (by kernel_rfl) (fun _ _ _ h => h) (Or.inl ⟨by rfl, ?hyrd3⟩) (by assumption) ?restrd3
  case hyrd3 =>
    intro w hSw
    (try dsimp only at hSw)
    go_simp
    all_goals with_reducible rfl
  try simp only [Act.put, List.getElem_toArray, List.getElem_cons_succ, List.getElem_cons_zero, List.setIfInBounds_toArray, List.set_cons_zero, List.set_cons_succ]
  refine wpAnyH_take (i := 4) (v := ?vrd4) rfl (by kernel_rfl) (by kernel_rfl) (by kernel_rfl) (fun _ _ _ h => h) (Or.inl ⟨by rfl, ?hyrd4⟩) (by assumption) ?restrd4
  case hyrd4 =>
    intro w hSw
    (try dsimp only at hSw)
    go_simp
    all_goals with_reducible rfl
  try simp only [Act.put, List.getElem_toArray, List.getElem_cons_succ, List.getElem_cons_zero, List.setIfInBounds_toArray, List.set_cons_zero, List.set_cons_succ]
  refine wpAnyH_take (i := 5) (v := ?vrd5) rfl (by kernel_rfl) (by kernel_rfl) (by kernel_rfl) (fun _ _ _ h => h) (Or.inl ⟨by rfl, ?hyrd5⟩) (by assumption) ?restrd5
  case hyrd5 =>
    intro w hSw
    (try dsimp only at hSw)
    go_simp
    all_goals with_reducible rfl
  try simp only [Act.put, List.getElem_toArray, List.getElem_cons_succ, List.getElem_cons_zero, List.setIfInBounds_toArray, List.set_cons_zero, List.set_cons_succ]
  refine wpAnyH_take (i := 6) (v := ?vrd6) rfl (by kernel_rfl) (by kernel_rfl) (by kernel_rfl) (fun _ _ _ h => h) (Or.inl ⟨by rfl, ?hyrd6⟩) (by assumption) ?restrd6
  case hyrd6 =>
    intro w hSw
    (try dsimp only at hSw)
    go_simp
    all_goals with_reducible rfl
  try simp only [Act.put, List.getElem_toArray, List.getElem_cons_succ, List.getElem_cons_zero, List.setIfInBounds_toArray, List.set_cons_zero, List.set_cons_succ]
  refine wpAnyH_take (i := 7) (v := ?vrd7) rfl (by kernel_rfl) (by kernel_rfl) (by kernel_rfl) (fun _ _ _ h => h) (Or.inl ⟨by rfl, ?hyrd7⟩) (by assumption) ?restrd7
  case hyrd7 =>
    intro w hSw
    (try dsimp only at hSw)
    go_simp
    all_goals with_reducible rfl
  try simp only [Act.put, List.getElem_toArray, List.getElem_cons_succ, List.getElem_cons_zero, List.setIfInBounds_toArray, List.set_cons_zero, List.set_cons_succ]
  refine wpAnyH_ready (rs := [8, 10]) (by kernel_rfl) (by simp) ?_
  refine AllReadyH.cons rfl (fun K hK => ?_) (AllReadyH.cons rfl (fun K hK => ?_) (AllReadyH.nil))
  · try go_simp
    go_at_call 10
    refine (HTU.out _).mono ?_
    rintro e w4 ⟨R, rfl, hRs, hBt⟩
    refine hK.out _ _ ?hScrd8 (fun hHeld => ?restcrd8)
    case hScrd8 => exact TurnS.trans hHeld hBt
    clear hK K
    try simp only [Act.put, List.getElem_toArray, List.getElem_cons_succ, List.getElem_cons_zero, List.setIfInBounds_toArray, List.set_cons_zero, List.set_cons_succ]
    refine wpAnyH_take (i := 9) (v := ?vrd9) rfl (by kernel_rfl) (by kernel_rfl) (by kernel_rfl) (fun _ _ _ h => h) (Or.inl ⟨by rfl, ?hyrd9⟩) (by assumption) ?restrd9
    case hyrd9 =>
      intro w hSw
      (try dsimp only at hSw)
      go_simp
      all_goals with_reducible rfl
    try simp only [Act.put, List.getElem_toArray, List.getElem_cons_succ, List.getElem_cons_zero, List.setIfInBounds_toArray, List.set_cons_zero, List.set_cons_succ]
    refine wpAnyH_ready (rs := [10]) (by kernel_rfl) (by simp) ?_
    refine AllReadyH.cons rfl (fun K hK => ?_) (AllReadyH.nil)
    have hqB := World.block_lt_of_cell? _ _ hHeld.1
    have hHb := hHeld
    try go_simp
    refine hK.out _ _ ?hScrd10 (fun hHeld => ?restcrd10)
    case hScrd10 => exact TurnS.alloc hHeld _
    clear hK K
    try simp only [Act.put, List.getElem_toArray, List.getElem_cons_succ, List.getElem_cons_zero, List.setIfInBounds_toArray, List.set_cons_zero, List.set_cons_succ]
    refine wpAnyH_ready (rs := [11]) (by kernel_rfl) (by simp) ?_
    refine AllReadyH.cons rfl (fun K hK => ?_) (AllReadyH.nil)
    first | (have hrow := rowAd hBt) | (have hrow := rowA hBt) | (have hrow := heap_alloc_new w4 (.cells #[.string ⟨#[]⟩, .string ⟨#[]⟩, .string ⟨#[]⟩] 32))
    obtain ⟨z0, z1, z2⟩ := row3 hrow
    have f0 := box_fr hrow 0
    have f1 := box_fr hrow 1
    have f2 := box_fr hrow 2
    try go_simp
    refine hK.out _ _ ?hScrd11 (fun hHeld => ?restcrd11)
    case hScrd11 => first | exact TurnS.set (TurnS.set (TurnS.set hHeld hqB) hqB) hqB | exact TurnS.alloc hHb _
    clear hK K
    try simp only [Act.put, List.getElem_toArray, List.getElem_cons_succ, List.getElem_cons_zero, List.setIfInBounds_toArray, List.set_cons_zero, List.set_cons_succ]
    refine wpAnyH_done (by kernel_rfl) ?_ _
    first | (obtain ⟨wL, qL, HT, HBL, hwL, hqL⟩ := three_ex (three_of (set_heap (set_heap (set_heap hrow 0 (.string S) (by simp)) 1 (.string PL) (by simp)) 2 (.string R) (by simp))) hHeld.2.2.2) | (obtain ⟨wL, qL, HT, HBL, hwL, hqL⟩ := three_ex (three_of (heap_alloc_new w4 (.cells #[.string S, .string PL, .string R] 32))) hHeld.2.2.2)
    try rw [hwL]
    try rw [hqL]
    clear hwL hqL hHeld z0 z1 z2 f0 f1 f2 hqB hrow hBt
    clear k0 k1 k2
    have hRs2 := Nat.le_trans hRs hPs
    have hss2 : S.size ≤ 64320 := by omega
    have HSZ : Hid (∀ k, (sel3 S PL R k).size ≤ 64320) := fun k => sel3_size k hss2 hPs hRs2
    clear hRs2 hss2 hRs hPs hsz hsl hmi hms HTU
    go_wp2_with fail
    go_loopw [10] (fun i wr => ∃ k : Nat, k ≤ 3 ∧ i = .int .i64 k ∧ Hid (Below wL.heap.size wL wr)) (fun i _ => 3 - (intOf i).toNat)
    case atStart => exact ⟨0, by omega, rfl, Below.refl _ _⟩
    case round =>
      obtain ⟨k, hk, rfl, HB⟩ := hrel
      have HEk := Lib.hid (HE.out.below (HBL.out.trans (HB.out.mono HBL.out.size)))
      by_cases hlt : k < 3
      · have hck := keepC HB.out (HT.out k hlt)
        have hsk := HSZ.out k
        generalize sel3 S PL R k = sk at hck hsk
        go_wp2_with fail
        refine (read_any sk _ (by omega)).mono ?_
        rintro e wa ⟨vx, ex, rfl, hrx, hex, hBa⟩
        replace hck := keepC hBa hck
        have HBa := Lib.hid (bstep7 HB.out hBa)
        replace HEk := Lib.hid (HEk.out.below hBa)
        clear hBa HB
        go_wp2_with fail
        have q := rread_any sk _ wa rfl (by omega)
        have hl2 : (readF sk.data.toList).length ≤ 1000000 := Nat.le_trans (readF_len _) (by decide)
        generalize readC sk.data.toList = C at hex q
        generalize readT sk.data.toList = T at hex q
        generalize readF sk.data.toList = l2 at hrx q hl2
        refine q.mono ?_
        clear q
        rintro e wb ⟨vy, rfl, hry, hBb⟩
        have HRX := Lib.hid (hrx.below hBb)
        have HRY := Lib.hid hry
        have HEX := Lib.hid (hex.keep hBb)
        have HBb := Lib.hid (bstep7 HBa.out hBb)
        replace HEk := Lib.hid (HEk.out.below hBb)
        clear hBb HBa hrx hry hex hck
        go_wp2_with fail
        have hBc : Below wb.heap.size wb (wb.alloc (.cells #[.int .i64 C, .int .i64 T] 38)) := (Below.refl _ _).alloc (Nat.le_refl _) _
        refine (told_is (HEX.out.keep hBc) (HEk.out.below hBc)).mono ?_
        rintro e wc ⟨rfl, hBd⟩
        have HRX2 := Lib.hid ((HRX.out.below hBc).below hBd)
        have HRY2 := Lib.hid ((HRY.out.below hBc).below hBd)
        have HBd := Lib.hid (bstep7 (bstep7 HBb.out hBc) hBd)
        clear hBc hBd HRX HRY HEX HBb HEk
        go_wp2_with fail
        refine (same_any l2 vx vy _ HRX2.out HRY2.out hl2).mono ?_
        rintro e wd ⟨rfl, hBe⟩
        have HBe := Lib.hid (bstep7 HBd.out hBe)
        clear hBe HBd HRX2 HRY2
        go_wp2_with fail
        go_roundw
        case rel => exact ⟨k + 1, by omega, by go_num, HBe.out⟩
        case measure => simp [intOf]; omega
      · obtain rfl : k = 3 := by omega
        go_wp2_with fail
        refine (works_any _ HEk.out).mono ?_
        rintro e w5 ⟨rfl, hB5⟩
        have HB5 := Lib.hid (HBL.out.trans ((bstep7 HB.out hB5).mono HBL.out.size))
        clear hB5
        go_wp2_with fail
        go_ret
        exact ⟨rfl, HB5.out⟩
  · have hqB := World.block_lt_of_cell? _ _ hHeld.1
    have hHb := hHeld
    try go_simp
    refine hK.out _ _ ?hScrd12 (fun hHeld => ?restcrd12)
    case hScrd12 => exact TurnS.alloc hHeld _
    clear hK K
    try simp only [Act.put, List.getElem_toArray, List.getElem_cons_succ, List.getElem_cons_zero, List.setIfInBounds_toArray, List.set_cons_zero, List.set_cons_succ]
    refine wpAnyH_ready (rs := [8]) (by kernel_rfl) (by simp) ?_
    refine AllReadyH.cons rfl (fun K hK => ?_) (AllReadyH.nil)
    try go_simp
    go_at_call 10
    refine (HTU.out _).mono ?_
    rintro e w4 ⟨R, rfl, hRs, hBt⟩
    refine hK.out _ _ ?hScrd13 (fun hHeld => ?restcrd13)
    case hScrd13 => exact TurnS.trans hHeld hBt
    clear hK K
    try simp only [Act.put, List.getElem_toArray, List.getElem_cons_succ, List.getElem_cons_zero, List.setIfInBounds_toArray, List.set_cons_zero, List.set_cons_succ]
    refine wpAnyH_take (i := 9) (v := ?vrd14) rfl (by kernel_rfl) (by kernel_rfl) (by kernel_rfl) (fun _ _ _ h => h) (Or.inl ⟨by rfl, ?hyrd14⟩) (by assumption) ?restrd14
    case hyrd14 =>
      intro w hSw
      (try dsimp only at hSw)
      go_simp
      all_goals with_reducible rfl
    try simp only [Act.put, List.getElem_toArray, List.getElem_cons_succ, List.getElem_cons_zero, List.setIfInBounds_toArray, List.set_cons_zero, List.set_cons_succ]
    refine wpAnyH_ready (rs := [11]) (by kernel_rfl) (by simp) ?_
    refine AllReadyH.cons rfl (fun K hK => ?_) (AllReadyH.nil)
    first | (have hrow := rowAd hBt) | (have hrow := rowA hBt) | (have hrow := heap_alloc_new w4 (.cells #[.string ⟨#[]⟩, .string ⟨#[]⟩, .string ⟨#[]⟩] 32))
    obtain ⟨z0, z1, z2⟩ := row3 hrow
    have f0 := box_fr hrow 0
    have f1 := box_fr hrow 1
    have f2 := box_fr hrow 2
    try go_simp
    refine hK.out _ _ ?hScrd15 (fun hHeld => ?restcrd15)
    case hScrd15 => first | exact TurnS.set (TurnS.set (TurnS.set hHeld hqB) hqB) hqB | exact TurnS.alloc hHb _
    clear hK K
    try simp only [Act.put, List.getElem_toArray, List.getElem_cons_succ, List.getElem_cons_zero, List.setIfInBounds_toArray, List.set_cons_zero, List.set_cons_succ]
    refine wpAnyH_done (by kernel_rfl) ?_ _
    first | (obtain ⟨wL, qL, HT, HBL, hwL, hqL⟩ := three_ex (three_of (set_heap (set_heap (set_heap hrow 0 (.string S) (by simp)) 1 (.string PL) (by simp)) 2 (.string R) (by simp))) hHeld.2.2.2) | (obtain ⟨wL, qL, HT, HBL, hwL, hqL⟩ := three_ex (three_of (heap_alloc_new w4 (.cells #[.string S, .string PL, .string R] 32))) hHeld.2.2.2)
    try rw [hwL]
    try rw [hqL]
    clear hwL hqL hHeld z0 z1 z2 f0 f1 f2 hqB hrow hBt
    clear k0 k1 k2
    have hRs2 := Nat.le_trans hRs hPs
    have hss2 : S.size ≤ 64320 := by omega
    have HSZ : Hid (∀ k, (sel3 S PL R k).size ≤ 64320) := fun k => sel3_size k hss2 hPs hRs2
    clear hRs2 hss2 hRs hPs hsz hsl hmi hms HTU
    go_wp2_with fail
    go_loopw [10] (fun i wr => ∃ k : Nat, k ≤ 3 ∧ i = .int .i64 k ∧ Hid (Below wL.heap.size wL wr)) (fun i _ => 3 - (intOf i).toNat)
    case atStart => exact ⟨0, by omega, rfl, Below.refl _ _⟩
    case round =>
      obtain ⟨k, hk, rfl, HB⟩ := hrel
      have HEk := Lib.hid (HE.out.below (HBL.out.trans (HB.out.mono HBL.out.size)))
      by_cases hlt : k < 3
      · have hck := keepC HB.out (HT.out k hlt)
        have hsk := HSZ.out k
        generalize sel3 S PL R k = sk at hck hsk
        go_wp2_with fail
        refine (read_any sk _ (by omega)).mono ?_
        rintro e wa ⟨vx, ex, rfl, hrx, hex, hBa⟩
        replace hck := keepC hBa hck
        have HBa := Lib.hid (bstep7 HB.out hBa)
        replace HEk := Lib.hid (HEk.out.below hBa)
        clear hBa HB
        go_wp2_with fail
        have q := rread_any sk _ wa rfl (by omega)
        have hl2 : (readF sk.data.toList).length ≤ 1000000 := Nat.le_trans (readF_len _) (by decide)
        generalize readC sk.data.toList = C at hex q
        generalize readT sk.data.toList = T at hex q
        generalize readF sk.data.toList = l2 at hrx q hl2
        refine q.mono ?_
        clear q
        rintro e wb ⟨vy, rfl, hry, hBb⟩
        have HRX := Lib.hid (hrx.below hBb)
        have HRY := Lib.hid hry
        have HEX := Lib.hid (hex.keep hBb)
        have HBb := Lib.hid (bstep7 HBa.out hBb)
        replace HEk := Lib.hid (HEk.out.below hBb)
        clear hBb HBa hrx hry hex hck
        go_wp2_with fail
        have hBc : Below wb.heap.size wb (wb.alloc (.cells #[.int .i64 C, .int .i64 T] 38)) := (Below.refl _ _).alloc (Nat.le_refl _) _
        refine (told_is (HEX.out.keep hBc) (HEk.out.below hBc)).mono ?_
        rintro e wc ⟨rfl, hBd⟩
        have HRX2 := Lib.hid ((HRX.out.below hBc).below hBd)
        have HRY2 := Lib.hid ((HRY.out.below hBc).below hBd)
        have HBd := Lib.hid (bstep7 (bstep7 HBb.out hBc) hBd)
        clear hBc hBd HRX HRY HEX HBb HEk
        go_wp2_with fail
        refine (same_any l2 vx vy _ HRX2.out HRY2.out hl2).mono ?_
        rintro e wd ⟨rfl, hBe⟩
        have HBe := Lib.hid (bstep7 HBd.out hBe)
        clear hBe HBd HRX2 HRY2
        go_wp2_with fail
        go_roundw
        case rel => exact ⟨k + 1, by omega, by go_num, HBe.out⟩
        case measure => simp [intOf]; omega
      · obtain rfl : k = 3 := by omega
        go_wp2_with fail
        refine (works_any _ HEk.out).mono ?_
        rintro e w5 ⟨rfl, hB5⟩
        have HB5 := Lib.hid (HBL.out.trans ((bstep7 HB.out hB5).mono HBL.out.size))
        clear hB5
        go_wp2_with fail
        go_ret
        exact ⟨rfl, HB5.out⟩
end Go.Proofs.YtemngdhbicndlaaDoor
