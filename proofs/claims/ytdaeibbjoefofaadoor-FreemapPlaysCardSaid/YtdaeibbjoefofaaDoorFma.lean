/- FreemapLowest: the walk. -/
import Derived.Test.YtdaeibbjoefofaaDoorFm9
import Derived.Deep.RegionHeld3
namespace Go.Proofs.YtdaeibbjoefofaaDoor
open Go.RowKit
set_option linter.unusedVariables false
set_option linter.unusedSimpArgs false

/-- The value v is a slice that reads as these numbers of sixteen bits. -/
def RdH (w : World) (v : Value) (l : List Int) : Prop :=
  ∃ (a : Option Addr) (c : Nat), v = .slice a l.length c ∧ l.length ≤ c ∧ ∀ (k : Nat) (x : Int), l[k]? = some x → (0 ≤ x ∧ x < 65536) ∧ ∃ b o, a = some ⟨b, o, none⟩ ∧ w.cell? ⟨b, o + k, none⟩ = some (.int .u16 x)
theorem rowIs_below {w w' : World} {g n : Nat} {t : TypeId} {f : Nat → Value} (h : w.rowIs g t n f) (hb : Below w.heap.size w w') : w'.rowIs g t n f := h.of_block (hb.block g h.lt)
theorem rowIs_grown {w w' : World} {g n : Nat} {t : TypeId} {f : Nat → Value} (h : w.rowIs g t n f) {row : Option Nat} (hg : w.grownBy w' row) (hne : some g ≠ row) : w'.rowIs g t n f := h.of_block (hg.block g h.lt hne)
theorem grown_cell {w w' : World} {a : Addr} {v : Value} (h : w.cell? a = some v) {row : Option Nat} (hg : w.grownBy w' row) (hne : some a.block ≠ row) : w'.cell? a = some v := (World.cell?_of_block (hg.block a.block (World.block_lt_of_cell? _ _ h) hne)).trans h
theorem MapAt.grown {w w' : World} {b n : Nat} {T : Nat → Bool} (h : MapAt w b T n) {row : Option Nat} (hg : w.grownBy w' row) (hne : some b ≠ row) : MapAt w' b T n := h.block (hg.block b h.lt hne)
theorem MapAt.other {w : World} {b n : Nat} {T : Nat → Bool} (h : MapAt w b T n) {a : Addr} (ha : a.block ≠ b) (u : Value) : MapAt (w.setCell a u) b T n := h.block (Below.heap_setCell w a u b (fun e => ha e.symm))
theorem turnC_use {T : Nat → Bool} {n k : Nat} (hk : k < n) : turnC T n (k : Int) true 12 = if T k then 12 else 0 := by
  have : inB n (k : Int) = true := by unfold inB; simp; omega
  unfold turnC
  rw [if_pos this, Int.toNat_natCast]
  cases T k <;> rfl
theorem turnC_give {T : Nat → Bool} {n k : Nat} (hk : k < n) (h : T k = true) : turnC T n (k : Int) false 13 = 0 := by
  have : inB n (k : Int) = true := by unfold inB; simp; omega
  unfold turnC
  rw [if_pos this, Int.toNat_natCast, h]
  rfl
theorem turnT_at {T : Nat → Bool} {n k : Nat} (hk : k < n) (u : Bool) (j : Nat) : turnT T n (k : Int) u j = if j = k then u else T j := by
  have : inB n (k : Int) = true := by unfold inB; simp; omega
  unfold turnT
  rw [if_pos this, Int.toNat_natCast]
theorem cnt_all (T : Nat → Bool) : ∀ (n : Nat), (∀ j, j < n → T j = true) → cnt T n = n
  | 0, _ => rfl
  | n + 1, h => by rw [cnt_snoc, cnt_all T n fun j hj => h j (by omega), h n (by omega)]; rfl
theorem left_full {T : Nat → Bool} {n : Nat} (h : Full T n) : leftN T n = 0 := by
  unfold leftN
  rw [cn_eq, cnt_all T n h]
  omega
theorem left_one {T : Nat → Bool} {n g : Nat} (h : Full T n) (hg : g < n) : leftN (turnT T n (g : Int) false) n = 1 := by
  unfold leftN
  have e : n = g + (1 + (n - g - 1)) := by omega
  have h1 : cnt (turnT T n (g : Int) false) g = g := cnt_all _ _ fun j hj => by rw [turnT_at hg, if_neg (by omega)]; exact h j (by omega)
  have h2 : cnt (fun i => turnT T n (g : Int) false (g + i)) (1 + (n - g - 1)) = n - g - 1 := by
    rw [cnt_add, cnt_all (fun i => turnT T n (g : Int) false (g + (1 + i))) (n - g - 1) fun j hj => by rw [turnT_at hg, if_neg (by omega)]; exact h _ (by omega)]
    simp [cnt, turnT_at hg]
  have h3 : cnt (turnT T n (g : Int) false) n = cnt (turnT T n (g : Int) false) g + cnt (fun i => turnT T n (g : Int) false (g + i)) (1 + (n - g - 1)) := by
    rw [← cnt_add, ← e]
  rw [cn_eq, h3, h1, h2]
  omega
theorem runs_full {T : Nat → Bool} : ∀ {n : Nat}, Full T n → runs T n = []
  | 0, _ => rfl
  | n + 1, h => by rw [runs_used (h n (by omega)), runs_full fun j hj => h j (by omega)]
theorem info_bool : (Tryd.prog.info? 4).map (fun i => (i.zero, i.size, i.bytes)) = some (some (.bool false), 1, 1) := by kernel_rfl
/-- What holds at the loops' heads. -/
structure HeadL (w : World) (b g n : Nat) (T : Nat → Bool) (wr : World) : Prop where
  m : MapAt wr b T n
  ok : FMOk T n
  row : wr.rowIs g 4 n (fun j => .bool (T j))
  bel : Below w.heap.size w wr
  tab : TabD wr

theorem grown_of_drew {w w' : World} {row : Option Nat} (h : w.drew.grownBy w' row) : w.grownBy w' row := ⟨h.os, h.tape, h.output, h.size, h.block⟩
/-- The map is turned; then what is told of it. -/
theorem HeadL.turn {w : World} {b g n : Nat} {T : Nat → Bool} {wr w3 : World} (h : HeadL w b g n T wr) (hbg : b ≠ g) (hb : w.heap.size ≤ b) (hg0 : w.heap.size ≤ g) (hb0 : 0 ≠ b) (hb1 : 0 ≠ g) {d : Nat} (hd : d < n) (u : Bool)
    (hM : MapAt w3 b (turnT T n (d : Int) u) n) (hg : wr.grownBy w3 (some b)) : HeadL w b g n (turnT T n (d : Int) u) (w3.setCell ⟨g, d, none⟩ (.bool u)) := by
  have hr := rowIs_grown h.row hg (by simpa using Ne.symm hbg)
  refine ⟨hM.other (Ne.symm hbg) _, h.ok.turn _ _, ?_, ?_, ?_⟩
  · refine (hr.set d (.bool u)).congr fun i hi => ?_
    rw [turnT_at hd]
    by_cases e : i = d
    · simp [e]
    · simp [e]
  · exact (below_grown h.bel hg hb h.m.lt).setCell hg0 _
  · exact (h.tab.grown hg hb0).grown (grown_set w3 ⟨g, d, none⟩ _) hb1

theorem low_ex {T : Nat → Bool} : ∀ {n : Nat}, ¬ Full T n → ∃ i, i < n ∧ Low T i
  | 0, h => absurd (fun j hj => absurd hj (by omega)) h
  | n + 1, h => by
    by_cases hf : Full T n
    · refine ⟨n, by omega, ?_, hf⟩
      cases e : T n with
      | false => rfl
      | true =>
        exfalso
        apply h
        intro j hj
        by_cases e2 : j = n
        · rw [e2]; exact e
        · exact hf j (by omega)
    · obtain ⟨i, h1, h2⟩ := low_ex hf
      exact ⟨i, by omega, h2⟩
theorem own_opn {w : World} {base : Nat} {e : TypeId} {s : Nat} {v : Value} {n : Nat} {xs : List Value} (h : w.ownsRow base e s v n xs) : ∃ a c, v = .slice a n c := by
  rcases h.2 with ⟨rfl, h0⟩ | ⟨g, cap, cur, rfl, _⟩
  · exact ⟨none, 0, by rw [h0]⟩
  · exact ⟨_, _, rfl⟩

set_option maxRecDepth 100000 in
set_option maxHeartbeats 4000000 in
theorem lowest_any (sz : Int) (l1 l2 : List Int) (v1 v2 : Value) (w : World) (hsz : 0 ≤ sz ∧ sz < 65536) (h1 : RdH w v1 l1) (hl1 : l1.length ≤ maxLen) (h2 : RdH w v2 l2) (hl2 : l2.length ≤ maxLen) (hT : TabD w) :
    Calls Tryd.prog 3 #[.int .u16 sz, v1, v2] w fun e w' => e = .returned (.bool true) ∧ Below w.heap.size w w' := by
  obtain ⟨a1, c1, rfl, hc1, hr1⟩ := h1
  obtain ⟨a2, c2, rfl, hc2, hr2⟩ := h2
  have HR1 := Lib.hid hr1
  have HR2 := Lib.hid hr2
  unfold maxLen at hl1 hl2
  have HT := Lib.hid hT
  have hb0 := tw_neq hT (Nat.le_refl _)
  clear hr1 hr2 hT
  obtain ⟨n, hn⟩ : ∃ n : Nat, (n : Int) = 1 + sz % 1024 := ⟨(1 + sz % 1024).toNat, by omega⟩
  have hn1 : 1 ≤ n := by omega
  have hn2 : n ≤ 1024 := by omega
  have HN := Lib.hid hn
  clear hn
  go_enter Tryd.func3, Tryd.ntmps3
  go_wp2_with fail
  refine (works_any _ HT.out).mono ?_
  rintro e w1 ⟨rfl, hB⟩
  have HB := hB
  have HT1 := Lib.hid (HT.out.below hB)
  clear hB HT
  have hs1 := HB.size
  go_wp2_with fail
  rw [← HN.out]
  refine (new_yes n _ hn1 hn2).mono ?_
  rintro e w2 ⟨rfl, hw2⟩
  have hM2 : MapAt w2 w1.heap.size (fun _ => false) n := MapAt.new (by rw [hw2]; exact heap_alloc_new w1 _)
  have hB2 : Below w1.heap.size w1 w2 := by rw [hw2]; exact (Below.refl _ _).alloc (Nat.le_refl _) _
  have hz2 : w2.heap.size = w1.heap.size + 1 := by rw [hw2, World.size_alloc]
  replace HB := HB.trans (hB2.mono HB.size)
  have HT2 := Lib.hid (HT1.out.below hB2)
  have hF0 : FMOk (fun _ => false) n := ⟨hn1, hn2, fun _ _ => rfl⟩
  have hmk : ∀ w : World, (Instr.makeSlice 27 (.int .i64 (n : Int)) (.int .i64 (n : Int))).run Tryd.prog w = .ok (.slice (some ⟨w.heap.size, 0, none⟩) n n) (w.alloc (.cells (madeCells #[.bool false] n) 4)) := fun w =>
    run_make_row' (P := Tryd.prog) 27 4 (.bool false) 1 Tryd.underlying27 info_bool rfl .i64 .i64 n (by omega) (by omega) w
  have HZ2 := Lib.hid hz2
  clear hw2 hB2 hz2 HT1
  go_wp2_with fail
  have hR0 := World.rowIs_made w2 (.bool false) n 4
  have hbg : w1.heap.size < w2.heap.size := hM2.lt
  have hH0 : HeadL w w1.heap.size w2.heap.size n (fun _ => false) (w2.alloc (.cells (madeCells #[.bool false] n) 4)) :=
    ⟨hM2.below ((Below.refl _ _).alloc (Nat.le_refl _) _), hF0, hR0, HB.alloc HB.size _, HT2.out.below ((Below.refl _ _).alloc (Nat.le_refl _) _)⟩
  have HH0 := Lib.hid hH0
  clear hmk hM2 hF0 hR0 hH0 HT2 HB HZ2 HN
  have HNE : Hid (some w2.heap.size ≠ some w1.heap.size) := by show some w2.heap.size ≠ some w1.heap.size; simp; omega
  have hbt : 0 ≠ w1.heap.size := by omega
  go_loopw [10, 11] (fun i _ wr => ∃ (k : Nat) (T : Nat → Bool), k ≤ l1.length ∧ k ≤ 200 ∧ i = .int .i64 k ∧ Hid (HeadL w w1.heap.size w2.heap.size n T wr)) (fun i _ _ => l1.length - (intOf i).toNat)
  case atStart => exact ⟨0, fun _ => false, by omega, by omega, rfl, HH0⟩
  case round =>
    obtain ⟨k, T, hk, hk2, rfl, HH⟩ := hrel
    by_cases hlt : k < l1.length ∧ k < 200
    · obtain ⟨hk1, hk3⟩ := hlt
      obtain ⟨x, hx⟩ : ∃ x, l1[k]? = some x := ⟨_, List.getElem?_eq_getElem hk1⟩
      obtain ⟨⟨hx0, hx1⟩, b, o, rfl, hc⟩ := HR1.out k x hx
      have cx := keep_cell HH.out.bel hc
      obtain ⟨d, hdi⟩ : ∃ d : Nat, x % (n : Int) = (d : Int) := ⟨(x % (n : Int)).toNat, by rw [Int.toNat_of_nonneg (Int.emod_nonneg _ (by omega))]⟩
      have hmn : d < n := by have := Int.emod_lt_of_pos x (show (0 : Int) < (n : Int) by omega); omega
      have hcr := HH.out.row.cell hmn
      clear hx hc
      go_wp2_with fail
      rw [hdi]
      have hm1 := HH.out.m
      have hok := HH.out.ok
      have htu := turnC_use (T := T) hmn
      cases hTd : T d with
      | true =>
        rw [hTd] at hcr htu
        have HTU : Hid (turnC T n (d : Int) true 12 = 12) := htu
        clear htu hTd
        have hcd : wr.drew.cell? ⟨w2.heap.size, d, none⟩ = some (.bool true) := hcr
        go_region_held3 (fun w' => w'.cell? ⟨w2.heap.size, d, none⟩ = some (.bool true)) (first | go_keep | (exact hcr) | (exact grown_cell (a := ⟨w2.heap.size, d, none⟩) hcd hg HNE.out)) (first | (go_at_call 10; refine (use_any w1.heap.size n T (d : Int) _ (by first | exact hm1 | exact hm1.drew) hok).mono ?_; rintro e w3 ⟨rfl, hM', hg⟩; rw [HTU.out]))
        have hg2 := grown_of_drew hg
        have HH2 := Lib.hid (HH.out.turn (by omega) (by omega) (by omega) (by omega) (by omega) hmn true hM' hg2)
        have hr3 := rowIs_grown HH.out.row hg2 HNE.out
        have hc3 := hr3.cell hmn
        have hf3 := hr3.frozen d
        clear hM' hg hg2 hcr hcd hr3 hm1 hok cx
        go_wp2_with fail
        go_roundw
        case rel => exact ⟨k + 1, _, by omega, by omega, by go_num, HH2⟩
        case measure => simp [intOf]; omega
      | false =>
        rw [hTd] at hcr htu
        have HTU : Hid (turnC T n (d : Int) true 12 = 0) := htu
        clear htu hTd
        have hcd : wr.drew.cell? ⟨w2.heap.size, d, none⟩ = some (.bool false) := hcr
        go_region_held3 (fun w' => w'.cell? ⟨w2.heap.size, d, none⟩ = some (.bool false)) (first | go_keep | (exact hcr) | (exact grown_cell (a := ⟨w2.heap.size, d, none⟩) hcd hg HNE.out)) (first | (go_at_call 10; refine (use_any w1.heap.size n T (d : Int) _ (by first | exact hm1 | exact hm1.drew) hok).mono ?_; rintro e w3 ⟨rfl, hM', hg⟩; rw [HTU.out]))
        have hg2 := grown_of_drew hg
        have HH2 := Lib.hid (HH.out.turn (by omega) (by omega) (by omega) (by omega) (by omega) hmn true hM' hg2)
        have hr3 := rowIs_grown HH.out.row hg2 HNE.out
        have hc3 := hr3.cell hmn
        have hf3 := hr3.frozen d
        clear hM' hg hg2 hcr hcd hr3 hm1 hok cx
        go_wp2_with fail
        go_roundw
        case rel => exact ⟨k + 1, _, by omega, by omega, by go_num, HH2⟩
        case measure => simp [intOf]; omega
    · obtain ⟨wo, rfl⟩ : ∃ wo : World, wo = wr := ⟨_, rfl⟩
      have hll : l1.length ≤ k ∨ (k < l1.length ∧ k = 200) := by omega
      clear hlt hk2
      rcases hll with hll | ⟨hll, rfl⟩
      all_goals
        go_wp2_with fail
        go_loopw [12, 13, 14, 15, 16, 17, 18] (fun av i _ _ _ _ _ wr => ∃ (k a : Nat) (T : Nat → Bool), k ≤ 2 * n + 1 ∧ a ≤ l2.length ∧ a ≤ 100 ∧ av = .int .i64 a ∧ i = .int .i64 k ∧ Hid (HeadL w w1.heap.size w2.heap.size n T wr)) (fun _ i _ _ _ _ _ _ => 2 * n + 1 - (intOf i).toNat)
        case atStart => exact ⟨0, 0, T, by omega, by omega, by omega, rfl, rfl, HH⟩
        case round =>
          clear hll HH
          obtain ⟨k, a, T, hk, ha, ha2, rfl, rfl, HH⟩ := hrel
          by_cases hkn : k < 2 * n + 1
          · by_cases hfull : Full T n
            · have HF := Lib.hid hfull
              clear hfull
              go_wp2_with fail
              have q := take_full w1.heap.size n T wr HH.out.m HH.out.ok HH.out.tab HF.out
              refine q.mono ?_
              clear q
              rintro e w3 ⟨rfl, rfl⟩
              go_wp2_with fail
              go_loop [16, 17] (fun lv jv => ∃ j : Nat, j ≤ n ∧ jv = .int .i64 j ∧ lv = .int .i64 (-1)) (fun _ jv => n - (intOf jv).toNat)
              case atStart => exact ⟨0, by omega, rfl, rfl⟩
              case round =>
                obtain ⟨j, hj, rfl, rfl⟩ := hrel
                by_cases hjn : j < n
                · have hc := HH.out.row.cell hjn
                  rw [HF.out j hjn] at hc
                  go_wp2_with fail
                  go_round
                  case rel => exact ⟨j + 1, by omega, by go_num, rfl⟩
                  case measure => simp [intOf]; omega
                · by_cases hal : a < l2.length ∧ a < 100
                  · obtain ⟨ha3, ha4⟩ := hal
                    obtain ⟨x, hx⟩ : ∃ x, l2[a]? = some x := ⟨_, List.getElem?_eq_getElem ha3⟩
                    obtain ⟨⟨hx0, hx1⟩, b, o, rfl, hc⟩ := HR2.out a x hx
                    have cx := keep_cell HH.out.bel hc
                    obtain ⟨d, hdi⟩ : ∃ d : Nat, x % (n : Int) = (d : Int) := ⟨(x % (n : Int)).toNat, by rw [Int.toNat_of_nonneg (Int.emod_nonneg _ (by omega))]⟩
                    have hmn : d < n := by have := Int.emod_lt_of_pos x (show (0 : Int) < (n : Int) by omega); omega
                    clear hx hc
                    go_wp2_with fail
                    have q := give_any w1.heap.size n T (d : Int) wr HH.out.m HH.out.ok
                    rw [turnC_give hmn (HF.out d hmn)] at q
                    refine q.mono ?_
                    clear q
                    rintro e w3 ⟨rfl, hM', hg⟩
                    have HH2 := Lib.hid (HH.out.turn (by omega) (by omega) (by omega) (by omega) (by omega) hmn false hM' hg)
                    have hr3 := rowIs_grown HH.out.row hg HNE.out
                    have hc3 := hr3.cell hmn
                    have hf3 := hr3.frozen d
                    have hok3 := HH.out.ok.turn (d : Int) false
                    clear hg hr3 cx
                    go_wp2_with fail
                    have q := left_any w1.heap.size n _ w3 hM' hok3
                    rw [left_one HF.out hmn] at q
                    refine q.mono ?_
                    clear q hM' hok3
                    rintro e w4 ⟨rfl, rfl⟩
                    go_wp2_with fail
                    go_roundw
                    case rel => exact ⟨k + 1, a + 1, _, by omega, by omega, by omega, by go_num, by go_num, HH2⟩
                    case measure => simp [intOf]; omega
                  · have hal2 : l2.length ≤ a ∨ (a < l2.length ∧ a = 100) := by omega
                    clear hal ha2
                    rcases hal2 with hal | ⟨hal, rfl⟩
                    all_goals
                      go_wp2_with fail
                      have q := left_any w1.heap.size n T wr HH.out.m HH.out.ok
                      rw [left_full HF.out] at q
                      refine q.mono ?_
                      clear q
                      rintro e w3 ⟨rfl, rfl⟩
                      go_wp2_with fail
                      have q := runs_any w1.heap.size n T wr HH.out.m HH.out.ok
                      rw [runs_full HF.out] at q
                      refine q.mono ?_
                      clear q
                      rintro e w3 ⟨v, rfl, ho, hB⟩
                      obtain ⟨av, cv, rfl⟩ := own_opn ho
                      have HB := HH.out.bel.trans (hB.mono HH.out.bel.size)
                      clear ho hB
                      go_wp2_with fail
                      go_ret
                      exact ⟨rfl, HB⟩
            · obtain ⟨i, hi, hl⟩ := low_ex hfull
              have HL := Lib.hid hl
              clear hfull hl
              go_wp2_with fail
              have q := take_at w1.heap.size n i T wr HH.out.m HH.out.ok HH.out.tab HL.out hi
              refine q.mono ?_
              clear q
              rintro e w3 ⟨rfl, hM', hg⟩
              have hr3 := Lib.hid (rowIs_grown HH.out.row hg HNE.out)
              have HH2 := Lib.hid (HH.out.turn (by omega) (by omega) (by omega) (by omega) (by omega) hi true hM' hg)
              clear hM' hg
              go_wp2_with fail
              go_loop [16, 17] (fun lv jv => ∃ j : Nat, j ≤ i ∧ jv = .int .i64 j ∧ lv = .int .i64 (-1)) (fun _ jv => n - (intOf jv).toNat)
              case atStart => exact ⟨0, by omega, rfl, rfl⟩
              case round =>
                obtain ⟨j, hj, rfl, rfl⟩ := hrel
                by_cases hji : j < i
                · have hc := hr3.out.cell (show j < n by omega)
                  rw [HL.out.2 j hji] at hc
                  go_wp2_with fail
                  go_round
                  case rel => exact ⟨j + 1, by omega, by go_num, rfl⟩
                  case measure => simp [intOf]; omega
                · obtain rfl : j = i := by omega
                  have hc := hr3.out.cell hi
                  rw [HL.out.1] at hc
                  have hf := hr3.out.frozen j
                  go_wp2_with fail
                  go_roundw
                  case rel => exact ⟨k + 1, a, _, by omega, by omega, by omega, rfl, by go_num, HH2⟩
                  case measure => simp [intOf]; omega
          · go_wp2_with fail
            go_ret
            exact ⟨rfl, HH.out.bel⟩
end Go.Proofs.YtdaeibbjoefofaaDoor
