/- LiftUps: the walk. -/
import Derived.Test.YtinnkaokplmcbaaDoorLg
import Derived.Test.YtinnkaokplmcbaaDoorLh

import Derived.Test.YtinnkaokplmcbaaDoorLi
import Derived.Test.YtinnkaokplmcbaaDoorAt
namespace Go.Proofs.YtinnkaokplmcbaaDoor
open Go.RowKit
set_option linter.unusedVariables false

theorem idx0 (a0 : Bool) (a1 : Int) (a2 : ByteArray) (a3 a4 a5 a6 : Int) (b0 : Bool) (b1 : Int) (b2 : ByteArray) (b3 b4 b5 b6 : Int) (W : World) : (Instr.index 32 (.agg #[.bool a0, .int .u32 a1, .string a2, .int .i64 a3, .int .i64 a4, .int .i64 a5, .int .u64 a6, .bool b0, .int .u32 b1, .string b2, .int .i64 b3, .int .i64 b4, .int .i64 b5, .int .u64 b6]) (.int .i64 0)).run Tryd.prog W = .ok (.agg #[.bool a0, .int .u32 a1, .string a2, .int .i64 a3, .int .i64 a4, .int .i64 a5, .int .u64 a6]) W := by kernel_rfl
theorem idx1 (a0 : Bool) (a1 : Int) (a2 : ByteArray) (a3 a4 a5 a6 : Int) (b0 : Bool) (b1 : Int) (b2 : ByteArray) (b3 b4 b5 b6 : Int) (W : World) : (Instr.index 32 (.agg #[.bool a0, .int .u32 a1, .string a2, .int .i64 a3, .int .i64 a4, .int .i64 a5, .int .u64 a6, .bool b0, .int .u32 b1, .string b2, .int .i64 b3, .int .i64 b4, .int .i64 b5, .int .u64 b6]) (.int .i64 1)).run Tryd.prog W = .ok (.agg #[.bool b0, .int .u32 b1, .string b2, .int .i64 b3, .int .i64 b4, .int .i64 b5, .int .u64 b6]) W := by kernel_rfl
theorem below_put7 {w W : World} {base b : Nat} (h : Below base w W) (hb : base ≤ b) (r : Rec) : Below base w (put7 W b r) :=
  (((((((h.setCell hb _).setCell hb _).setCell hb _).setCell hb _).setCell hb _).setCell hb _).setCell hb _)
theorem mvs_lt (l : List (Int × Int)) : (mvs l).length < 1000000 := by
  unfold mvs
  rw [List.length_map, List.length_take]
  omega

theorem run_min {P : Program} (ts : Array TypeId) (ty : TypeId) (a b : Int) (W : World) : (Builtin.min_ ts ty #[.int .i64 a, .int .i64 b]).run P W = .ok (.int .i64 (if b < a then b else a)) W := by
  simp [Builtin.min_, Builtin.min2]
theorem cut_str {P : Program} (t : TypeId) (ht : P.underlying t = some .string) (s : ByteArray) (n : Int) (h0 : 0 ≤ n) (h1 : n ≤ s.size) :
    ∃ q : ByteArray, q.size = n.toNat ∧ ∀ W, (Instr.slice t (.string s) none (some (.int .i64 n)) none).run P W = .ok (.string q) W := by
  refine ⟨s.extract 0 n.toNat, by rw [ByteArray.size_extract]; omega, fun W => ?_⟩
  exact run_slice_string_h W t s ht .i64 n h0 h1

set_option maxRecDepth 100000 in
set_option maxHeartbeats 8000000 in
theorem ups_any (r : Rec) (hold second : Bool) (id cls seat was til odd : Int) (l : List (Int × Int)) (v : Value) (w : World) (hr : 0 ≤ r.id ∧ r.id < 4294967296 ∧ 0 ≤ r.til ∧ r.til < 18446744073709551616 ∧ r.person.size ≤ maxLen) (hid : 0 ≤ id ∧ id < 65536) (hcls : 0 ≤ cls ∧ cls < 256) (hseat : -128 ≤ seat ∧ seat < 128) (hwas : -128 ≤ was ∧ was < 128) (htil : 0 ≤ til ∧ til < 18446744073709551616) (hodd : 0 ≤ odd ∧ odd < 256)
    (hv : RdU w v l) (hl : l.length ≤ maxLen) (hG : GP w) :
    Calls Tryd.prog 3 #[r.val, .agg #[.bool hold, .bool second, .int .u16 id, .int .u8 cls, .int .i8 seat, .int .i8 was, .int .u64 til, .int .u8 odd], v] w fun e w' => e = .returned (.bool true) ∧ Below w.heap.size w w' := by
  obtain ⟨rh, ri, rp, rc, rs, rw, rt⟩ := r
  obtain ⟨m1, hm1, hm1'⟩ : ∃ m : Int, (if (40 : Int) < (rp.size : Int) then 40 else (rp.size : Int)) = m ∧ 0 ≤ m ∧ m ≤ rp.size ∧ m ≤ 40 := ⟨_, rfl, by split <;> omega, by split <;> omega, by split <;> omega⟩
  have r1 := fun ts ty W => run_min (P := Tryd.prog) ts ty (rp.size : Int) 40 W
  rw [hm1] at r1
  obtain ⟨q, hq, c1⟩ := cut_str (P := Tryd.prog) 9 Tryd.underlying9 rp m1 hm1'.1 hm1'.2.1
  have hps : rp.size ≤ 9223372036854775807 := by have := hr.2.2.2.2; simpa [maxLen] using this
  go_enter Tryd.func3, Tryd.ntmps3
  go_wp2_with fail
  obtain ⟨W0, hW0⟩ : ∃ W0, W0 = (w.alloc (.cells #[.bool rh, .int .u32 ri, .string q, .int .i64 rc, .int .i64 rs, .int .i64 rw, .int .u64 rt] 25)).alloc (.cells #[.bool hold, .bool second, .int .u16 id, .int .u8 cls, .int .i8 seat, .int .i8 was, .int .u64 til, .int .u8 odd] 29) := ⟨_, rfl⟩
  have HB : Below w.heap.size w W0 := by rw [hW0]; exact ((Below.refl _ _).alloc (Nat.le_refl _) _).alloc (by simp) _
  have rx : W0.heap[w.heap.size]? = some (.cells #[.bool rh, .int .u32 ri, .string q, .int .i64 rc, .int .i64 rs, .int .i64 rw, .int .u64 rt] 25) := by rw [hW0]; exact row_at2 (Below.refl _ _)
  have rd8 : W0.heap[w.heap.size + 1]? = some (.cells #[.bool hold, .bool second, .int .u16 id, .int .u8 cls, .int .i8 seat, .int .i8 was, .int .u64 til, .int .u8 odd] 29) := by rw [hW0]; exact row_at1 (Below.refl _ _)
  rw [← hW0]
  clear hW0
  obtain ⟨⟨k0, k1, k2, k3, k4, k5, k6⟩, _⟩ := row7 rx
  have hd8 : ∀ (W : World), W.heap[w.heap.size + 1]? = some (.cells #[.bool hold, .bool second, .int .u16 id, .int .u8 cls, .int .i8 seat, .int .i8 was, .int .u64 til, .int .u8 odd] 29) → W.cell? ⟨w.heap.size + 1, 0, none⟩ = some (.bool hold) ∧ W.cell? ⟨w.heap.size + 1, 1, none⟩ = some (.bool second) ∧ W.cell? ⟨w.heap.size + 1, 2, none⟩ = some (.int .u16 id) ∧ W.cell? ⟨w.heap.size + 1, 3, none⟩ = some (.int .u8 cls) ∧ W.cell? ⟨w.heap.size + 1, 4, none⟩ = some (.int .i8 seat) ∧ W.cell? ⟨w.heap.size + 1, 5, none⟩ = some (.int .i8 was) ∧ W.cell? ⟨w.heap.size + 1, 6, none⟩ = some (.int .u64 til) ∧ W.cell? ⟨w.heap.size + 1, 7, none⟩ = some (.int .u8 odd) := by
    intro W h
    refine ⟨?_, ?_, ?_, ?_, ?_, ?_, ?_, ?_⟩ <;> (rw [cell_of_row _ _ _ _ _ _ h]; rfl)
  have HD := Lib.hid hd8
  obtain ⟨l0, l1, l2, l3, l4, l5, l6, l7⟩ := hd8 W0 rd8
  clear hd8
  have HR := drew1 W0
  have ok0 : Rec.Ok ⟨rh, ri, q, rc, rs, rw, rt⟩ := ⟨hr.1, hr.2.1, hr.2.2.1, hr.2.2.2.1, by dsimp only; omega⟩
  clear r1 c1 hm1 hm1'
  go_region_held3 (fun w' => w'.cell? ⟨w.heap.size, 0, none⟩ = some (.bool rh) ∧ w'.cell? ⟨w.heap.size, 1, none⟩ = some (.int .u32 ri) ∧ w'.cell? ⟨w.heap.size, 2, none⟩ = some (.string q) ∧ w'.cell? ⟨w.heap.size, 3, none⟩ = some (.int .i64 rc) ∧ w'.cell? ⟨w.heap.size, 4, none⟩ = some (.int .i64 rs) ∧ w'.cell? ⟨w.heap.size, 5, none⟩ = some (.int .i64 rw) ∧ w'.cell? ⟨w.heap.size, 6, none⟩ = some (.int .u64 rt) ∧ w'.cell? ⟨w.heap.size + 1, 0, none⟩ = some (.bool hold) ∧ w'.cell? ⟨w.heap.size + 1, 1, none⟩ = some (.bool second) ∧ w'.cell? ⟨w.heap.size + 1, 2, none⟩ = some (.int .u16 id) ∧ w'.cell? ⟨w.heap.size + 1, 3, none⟩ = some (.int .u8 cls) ∧ w'.cell? ⟨w.heap.size + 1, 4, none⟩ = some (.int .i8 seat) ∧ w'.cell? ⟨w.heap.size + 1, 5, none⟩ = some (.int .i8 was) ∧ w'.cell? ⟨w.heap.size + 1, 6, none⟩ = some (.int .u64 til) ∧ w'.cell? ⟨w.heap.size + 1, 7, none⟩ = some (.int .u8 odd)) (first | go_keep | (exact ⟨keep_cell HR k0, keep_cell HR k1, keep_cell HR k2, keep_cell HR k3, keep_cell HR k4, keep_cell HR k5, keep_cell HR k6, HD.out _ (keep_row HR rd8)⟩)) (first | (go_at_call 8; refine (drafted_any hold second id cls seat was til odd _ hid hcls hseat hwas htil hodd).mono ?_; rintro e w1 ⟨⟨rd, rfl, hrd, _⟩, hB⟩; replace HR := bstep HR hB; clear hB))
  dsimp only [Rec.val]
  replace HB := bstep HB HR
  clear HR k0 k1 k2 k3 k4 k5 k6 l0 l1 l2 l3 l4 l5 l6 l7 HD rx rd8
  go_wp2_with fail
  go_loopw [29] (fun i wr => (i = .int .i64 0 ∨ i = .int .i64 1 ∨ i = .int .i64 2) ∧ Below w.heap.size w wr) (fun i _ => 2 - (intOf i).toNat)
  case atStart => exact ⟨.inl rfl, HB⟩
  case round =>
    clear HB
    obtain ⟨hk, HB⟩ := hrel
    have ix0 := fun W => idx0 rh ri q rc rs rw rt rd.hold rd.id rd.person rd.cls rd.seat rd.was rd.til W
    have ix1 := fun W => idx1 rh ri q rc rs rw rt rd.hold rd.id rd.person rd.cls rd.seat rd.was rd.til W
    rcases hk with rfl | rfl | rfl
    · go_wp2_with fail
      obtain ⟨W1, hW1⟩ : ∃ W1, W1 = wr.alloc (.cells #[.bool rh, .int .u32 ri, .string q, .int .i64 rc, .int .i64 rs, .int .i64 rw, .int .u64 rt] 25) := ⟨_, rfl⟩
      have HB1 : Below w.heap.size w W1 := by rw [hW1]; exact HB.alloc HB.size _
      have ax : At W1 wr.heap.size ⟨rh, ri, q, rc, rs, rw, rt⟩ := by rw [hW1]; exact At.new wr ⟨rh, ri, q, rc, rs, rw, rt⟩ _
      rw [← hW1]
      clear hW1 HB
      generalize wr.heap.size = N1 at ax ⊢
      go_cut [9, 10] (fun s9 s10 W => ∃ b, s9 = .pointer (some ⟨b, 0, none⟩) ∧ s10 = .int .i64 (upE ⟨rh, ri, q, rc, rs, rw, rt⟩) ∧ Below w.heap.size w W ∧ At W N1 ⟨rh, ri, q, rc, rs, rw, rt⟩ ∧ At W b (upR ⟨rh, ri, q, rc, rs, rw, rt⟩ (mvs l)))
      case first =>
        have HR := drew1 W1
        have HZ : Below W1.heap.size W1 (W1.alloc (.cells #[.bool false, .int .u32 0, .string ⟨#[]⟩, .int .i64 0, .int .i64 0, .int .i64 0, .int .u64 0] 25)).drew := by
          have h := (Below.refl W1.heap.size W1).alloc (Nat.le_refl _) (.cells #[.bool false, .int .u32 0, .string ⟨#[]⟩, .int .i64 0, .int .i64 0, .int .i64 0, .int .u64 0] 25)
          exact ⟨h.os, h.tape, h.output, h.size, h.block⟩
        have ax2 := ax
        obtain ⟨k0, k1, k2, k3, k4, k5, k6⟩ := ax2
        go_region_held3 (fun w' => w'.cell? ⟨N1, 0, none⟩ = some (.bool rh) ∧ w'.cell? ⟨N1, 1, none⟩ = some (.int .u32 ri) ∧ w'.cell? ⟨N1, 2, none⟩ = some (.string q) ∧ w'.cell? ⟨N1, 3, none⟩ = some (.int .i64 rc) ∧ w'.cell? ⟨N1, 4, none⟩ = some (.int .i64 rs) ∧ w'.cell? ⟨N1, 5, none⟩ = some (.int .i64 rw) ∧ w'.cell? ⟨N1, 6, none⟩ = some (.int .u64 rt)) (first | ((try dsimp only); first | ((with_reducible show World.cell? (World.drew (World.alloc _ _)) _ = _ ∧ _); exact At.keep (b := N1) (r := ⟨rh, ri, q, rc, rs, rw, rt⟩) HZ ax) | ((with_reducible show World.cell? (World.alloc _ _) _ = _ ∧ _); exact At.keep (b := N1) (r := ⟨rh, ri, q, rc, rs, rw, rt⟩) (HR.alloc HR.size _) ax) | ((with_reducible show World.cell? (World.setCell _ _ _) _ = _ ∧ _); first | (have hz := z2; clear hz; exact At.put_other (w := w3) (b' := W1.heap.size) (r := (upR ⟨rh, ri, q, rc, rs, rw, rt⟩ (mvs l))) (b := N1) (q := ⟨rh, ri, q, rc, rs, rw, rt⟩) (by have := ax.lt; omega) (At.keep (b := N1) (r := ⟨rh, ri, q, rc, rs, rw, rt⟩) HR ax)) | (exact At.put_other (w := w3) (b' := w2.heap.size) (r := (upR ⟨rh, ri, q, rc, rs, rw, rt⟩ (mvs l))) (b := N1) (q := ⟨rh, ri, q, rc, rs, rw, rt⟩) (by have := ax.lt; have := HW12; omega) (At.keep (b := N1) (r := ⟨rh, ri, q, rc, rs, rw, rt⟩) HR ax))) | (exact At.keep (b := N1) (r := ⟨rh, ri, q, rc, rs, rw, rt⟩) HR ax) | go_keep)) (first | (go_at_call 10; first | ((with_reducible show Calls _ _ _ (World.drew (World.alloc _ _)) _); refine (moves_any l v _ (hv.below (bstep HB1 HZ)) hl).mono ?_; rintro e w2 ⟨mv, rfl, hm, hB⟩; have z2 := keep_row hB (heap_alloc_new W1 _); replace HR := bstep HZ hB; clear hB) | (refine (moves_any l v _ (hv.below (bstep HB1 HR)) hl).mono ?_; rintro e w2 ⟨mv, rfl, hm, hB⟩; replace HR := bstep HR hB; have HW12 := HR.size; clear hB)) | (go_at_call 9; first | ((with_reducible show Calls _ _ _ (World.alloc _ _) _); refine (Up_any ⟨rh, ri, q, rc, rs, rw, rt⟩ (mvs l) _ _ ok0 ?_ ?_ (mvs_lt l)).mono ?_; exact hG.below ((bstep HB1 HR).alloc (bstep HB1 HR).size _); exact hm.below ((Below.refl _ _).alloc (Nat.le_refl _) _); rintro e w3 ⟨rfl, hB⟩; have z3 := row_at hB; replace HR := bstep (HR.alloc HR.size _) hB; clear hB; obtain ⟨⟨z30, z31, z32, z33, z34, z35, z36⟩, y30, y31, y32, y33, y34, y35, y36⟩ := row7 z3) | (have hz := z2; clear hz; refine (Up_any ⟨rh, ri, q, rc, rs, rw, rt⟩ (mvs l) _ _ ok0 ?_ ?_ (mvs_lt l)).mono ?_; exact hG.below (bstep HB1 HR); exact hm; rintro e w3 ⟨rfl, hB⟩; have z3 := keep_row hB z2; replace HR := bstep HR hB; clear hB; obtain ⟨⟨z30, z31, z32, z33, z34, z35, z36⟩, y30, y31, y32, y33, y34, y35, y36⟩ := row7 z3) | (refine (Up_any ⟨rh, ri, q, rc, rs, rw, rt⟩ (mvs l) _ _ ok0 ?_ ?_ (mvs_lt l)).mono ?_; exact hG.below (bstep HB1 HR); exact hm; rintro e w3 ⟨rfl, hB⟩; replace HR := bstep HR hB; clear hB)))
        · go_wp2_with fail
          go_meet
          case rel => exact ⟨w3.heap.size, rfl, rfl, (bstep HB1 HR).alloc (bstep HB1 HR).size _, At.keep (b := N1) (r := ⟨rh, ri, q, rc, rs, rw, rt⟩) (HR.alloc HR.size _) ax, At.new w3 (upR ⟨rh, ri, q, rc, rs, rw, rt⟩ (mvs l)) _⟩
        · go_wp2_with fail
          go_meet
          case rel => exact ⟨w2.heap.size, rfl, rfl, below_put7 (bstep HB1 HR) (by have := HB1.size; have := HW12; omega) _, At.put_other (w := w3) (b' := w2.heap.size) (r := (upR ⟨rh, ri, q, rc, rs, rw, rt⟩ (mvs l))) (b := N1) (q := ⟨rh, ri, q, rc, rs, rw, rt⟩) (by have := ax.lt; have := HW12; omega) (At.keep (b := N1) (r := ⟨rh, ri, q, rc, rs, rw, rt⟩) HR ax), At.put (w := w3) (b := w2.heap.size) (r := (upR ⟨rh, ri, q, rc, rs, rw, rt⟩ (mvs l))) (q := zeroR) (At.of_row (r := zeroR) z3)⟩
        · go_wp2_with fail
          go_meet
          case rel => exact ⟨W1.heap.size, rfl, rfl, below_put7 (bstep HB1 HR) HB1.size _, At.put_other (w := w3) (b' := W1.heap.size) (r := (upR ⟨rh, ri, q, rc, rs, rw, rt⟩ (mvs l))) (b := N1) (q := ⟨rh, ri, q, rc, rs, rw, rt⟩) (by have := ax.lt; omega) (At.keep (b := N1) (r := ⟨rh, ri, q, rc, rs, rw, rt⟩) HR ax), At.put (w := w3) (b := W1.heap.size) (r := (upR ⟨rh, ri, q, rc, rs, rw, rt⟩ (mvs l))) (q := zeroR) (At.of_row (r := zeroR) z3)⟩
      case rest =>
       clear HB1 ax
       obtain ⟨b9, rfl, rfl, HB1, ax, a_b9⟩ := hcut
       obtain ⟨W1, rfl⟩ : ∃ W1, W1 = wc := ⟨wc, rfl⟩
       go_wp2_with fail
       go_cut [11, 12] (fun s9 s10 W => ∃ b, s9 = .pointer (some ⟨b, 0, none⟩) ∧ s10 = .int .i64 (upE ⟨rh, ri, q, rc, rs, rw, rt⟩) ∧ Below w.heap.size w W ∧ At W N1 ⟨rh, ri, q, rc, rs, rw, rt⟩ ∧ At W b9 (upR ⟨rh, ri, q, rc, rs, rw, rt⟩ (mvs l)) ∧ At W b (upR ⟨rh, ri, q, rc, rs, rw, rt⟩ (mvs l)))
       case first =>
         have HR := drew1 W1
         have HZ : Below W1.heap.size W1 (W1.alloc (.cells #[.bool false, .int .u32 0, .string ⟨#[]⟩, .int .i64 0, .int .i64 0, .int .i64 0, .int .u64 0] 25)).drew := by
           have h := (Below.refl W1.heap.size W1).alloc (Nat.le_refl _) (.cells #[.bool false, .int .u32 0, .string ⟨#[]⟩, .int .i64 0, .int .i64 0, .int .i64 0, .int .u64 0] 25)
           exact ⟨h.os, h.tape, h.output, h.size, h.block⟩
         have ax2 := ax
         obtain ⟨k0, k1, k2, k3, k4, k5, k6⟩ := ax2
         go_region_held3 (fun w' => w'.cell? ⟨N1, 0, none⟩ = some (.bool rh) ∧ w'.cell? ⟨N1, 1, none⟩ = some (.int .u32 ri) ∧ w'.cell? ⟨N1, 2, none⟩ = some (.string q) ∧ w'.cell? ⟨N1, 3, none⟩ = some (.int .i64 rc) ∧ w'.cell? ⟨N1, 4, none⟩ = some (.int .i64 rs) ∧ w'.cell? ⟨N1, 5, none⟩ = some (.int .i64 rw) ∧ w'.cell? ⟨N1, 6, none⟩ = some (.int .u64 rt)) (first | ((try dsimp only); first | ((with_reducible show World.cell? (World.drew (World.alloc _ _)) _ = _ ∧ _); exact At.keep (b := N1) (r := ⟨rh, ri, q, rc, rs, rw, rt⟩) HZ ax) | ((with_reducible show World.cell? (World.alloc _ _) _ = _ ∧ _); exact At.keep (b := N1) (r := ⟨rh, ri, q, rc, rs, rw, rt⟩) (HR.alloc HR.size _) ax) | ((with_reducible show World.cell? (World.setCell _ _ _) _ = _ ∧ _); first | (have hz := z2; clear hz; exact At.put_other (w := w3) (b' := W1.heap.size) (r := (upR ⟨rh, ri, q, rc, rs, rw, rt⟩ (mvs l))) (b := N1) (q := ⟨rh, ri, q, rc, rs, rw, rt⟩) (by have := ax.lt; omega) (At.keep (b := N1) (r := ⟨rh, ri, q, rc, rs, rw, rt⟩) HR ax)) | (exact At.put_other (w := w3) (b' := w2.heap.size) (r := (upR ⟨rh, ri, q, rc, rs, rw, rt⟩ (mvs l))) (b := N1) (q := ⟨rh, ri, q, rc, rs, rw, rt⟩) (by have := ax.lt; have := HW12; omega) (At.keep (b := N1) (r := ⟨rh, ri, q, rc, rs, rw, rt⟩) HR ax))) | (exact At.keep (b := N1) (r := ⟨rh, ri, q, rc, rs, rw, rt⟩) HR ax) | go_keep)) (first | (go_at_call 10; first | ((with_reducible show Calls _ _ _ (World.drew (World.alloc _ _)) _); refine (moves_any l v _ (hv.below (bstep HB1 HZ)) hl).mono ?_; rintro e w2 ⟨mv, rfl, hm, hB⟩; have z2 := keep_row hB (heap_alloc_new W1 _); replace HR := bstep HZ hB; clear hB) | (refine (moves_any l v _ (hv.below (bstep HB1 HR)) hl).mono ?_; rintro e w2 ⟨mv, rfl, hm, hB⟩; replace HR := bstep HR hB; have HW12 := HR.size; clear hB)) | (go_at_call 11; first | ((with_reducible show Calls _ _ _ (World.alloc _ _) _); refine (rUp_any ⟨rh, ri, q, rc, rs, rw, rt⟩ (mvs l) _ _ ok0 ?_ (mvs_lt l)).mono ?_; exact hm.below ((Below.refl _ _).alloc (Nat.le_refl _) _); rintro e w3 ⟨rfl, hB⟩; have z3 := row_at hB; replace HR := bstep (HR.alloc HR.size _) hB; clear hB; obtain ⟨⟨z30, z31, z32, z33, z34, z35, z36⟩, y30, y31, y32, y33, y34, y35, y36⟩ := row7 z3) | (have hz := z2; clear hz; refine (rUp_any ⟨rh, ri, q, rc, rs, rw, rt⟩ (mvs l) _ _ ok0 ?_ (mvs_lt l)).mono ?_; exact hm; rintro e w3 ⟨rfl, hB⟩; have z3 := keep_row hB z2; replace HR := bstep HR hB; clear hB; obtain ⟨⟨z30, z31, z32, z33, z34, z35, z36⟩, y30, y31, y32, y33, y34, y35, y36⟩ := row7 z3) | (refine (rUp_any ⟨rh, ri, q, rc, rs, rw, rt⟩ (mvs l) _ _ ok0 ?_ (mvs_lt l)).mono ?_; exact hm; rintro e w3 ⟨rfl, hB⟩; replace HR := bstep HR hB; clear hB)))
         · go_wp2_with fail
           go_meet
           case rel => exact ⟨w3.heap.size, rfl, rfl, (bstep HB1 HR).alloc (bstep HB1 HR).size _, At.keep (b := N1) (r := ⟨rh, ri, q, rc, rs, rw, rt⟩) (HR.alloc HR.size _) ax, At.keep (b := b9) (r := (upR ⟨rh, ri, q, rc, rs, rw, rt⟩ (mvs l))) (HR.alloc HR.size _) a_b9, At.new w3 (upR ⟨rh, ri, q, rc, rs, rw, rt⟩ (mvs l)) _⟩
         · go_wp2_with fail
           go_meet
           case rel => exact ⟨w2.heap.size, rfl, rfl, below_put7 (bstep HB1 HR) (by have := HB1.size; have := HW12; omega) _, At.put_other (w := w3) (b' := w2.heap.size) (r := (upR ⟨rh, ri, q, rc, rs, rw, rt⟩ (mvs l))) (b := N1) (q := ⟨rh, ri, q, rc, rs, rw, rt⟩) (by have := ax.lt; have := HW12; omega) (At.keep (b := N1) (r := ⟨rh, ri, q, rc, rs, rw, rt⟩) HR ax), At.put_other (w := w3) (b' := w2.heap.size) (r := (upR ⟨rh, ri, q, rc, rs, rw, rt⟩ (mvs l))) (b := b9) (q := (upR ⟨rh, ri, q, rc, rs, rw, rt⟩ (mvs l))) (by have := a_b9.lt; have := HW12; omega) (At.keep (b := b9) (r := (upR ⟨rh, ri, q, rc, rs, rw, rt⟩ (mvs l))) HR a_b9), At.put (w := w3) (b := w2.heap.size) (r := (upR ⟨rh, ri, q, rc, rs, rw, rt⟩ (mvs l))) (q := zeroR) (At.of_row (r := zeroR) z3)⟩
         · go_wp2_with fail
           go_meet
           case rel => exact ⟨W1.heap.size, rfl, rfl, below_put7 (bstep HB1 HR) HB1.size _, At.put_other (w := w3) (b' := W1.heap.size) (r := (upR ⟨rh, ri, q, rc, rs, rw, rt⟩ (mvs l))) (b := N1) (q := ⟨rh, ri, q, rc, rs, rw, rt⟩) (by have := ax.lt; omega) (At.keep (b := N1) (r := ⟨rh, ri, q, rc, rs, rw, rt⟩) HR ax), At.put_other (w := w3) (b' := W1.heap.size) (r := (upR ⟨rh, ri, q, rc, rs, rw, rt⟩ (mvs l))) (b := b9) (q := (upR ⟨rh, ri, q, rc, rs, rw, rt⟩ (mvs l))) (by have := a_b9.lt; omega) (At.keep (b := b9) (r := (upR ⟨rh, ri, q, rc, rs, rw, rt⟩ (mvs l))) HR a_b9), At.put (w := w3) (b := W1.heap.size) (r := (upR ⟨rh, ri, q, rc, rs, rw, rt⟩ (mvs l))) (q := zeroR) (At.of_row (r := zeroR) z3)⟩
       case rest =>
        clear HB1 ax a_b9
        obtain ⟨b11, rfl, rfl, HB1, ax, a_b9, a_b11⟩ := hcut
        obtain ⟨W1, rfl⟩ : ∃ W1, W1 = wc := ⟨wc, rfl⟩
        have ax2 := ax
        obtain ⟨k0, k1, k2, k3, k4, k5, k6⟩ := ax2
        go_wp2_with fail
        refine (Down_any ⟨rh, ri, q, rc, rs, rw, rt⟩ _ ok0 (hG.below HB1)).mono ?_
        rintro e w4 ⟨rfl, hB⟩
        dsimp only [Rec.val]
        replace HB1 := bstep HB1 hB
        replace ax := At.keep hB ax
        replace a_b9 := At.keep hB a_b9
        replace a_b11 := At.keep hB a_b11
        clear hB k0 k1 k2 k3 k4 k5 k6
        have hA := fun o => At.keep ((Below.refl w4.heap.size w4).alloc (Nat.le_refl _) o) ax
        have k0 := fun o => (hA o).1
        have k1 := fun o => (hA o).2.1
        have k2 := fun o => (hA o).2.2.1
        have k3 := fun o => (hA o).2.2.2.1
        have k4 := fun o => (hA o).2.2.2.2.1
        have k5 := fun o => (hA o).2.2.2.2.2.1
        have k6 := fun o => (hA o).2.2.2.2.2.2
        try dsimp only at k0 k1 k2 k3 k4 k5 k6
        clear hA
        go_wp2_with fail
        obtain ⟨W4, hW4⟩ : ∃ W4, W4 = w4.alloc (.cells #[.bool (downR ⟨rh, ri, q, rc, rs, rw, rt⟩).hold, .int .u32 (downR ⟨rh, ri, q, rc, rs, rw, rt⟩).id, .string (downR ⟨rh, ri, q, rc, rs, rw, rt⟩).person, .int .i64 (downR ⟨rh, ri, q, rc, rs, rw, rt⟩).cls, .int .i64 (downR ⟨rh, ri, q, rc, rs, rw, rt⟩).seat, .int .i64 (downR ⟨rh, ri, q, rc, rs, rw, rt⟩).was, .int .u64 (downR ⟨rh, ri, q, rc, rs, rw, rt⟩).til] 25) := ⟨_, rfl⟩
        have HA : Below w4.heap.size w4 W4 := by rw [hW4]; exact (Below.refl _ _).alloc (Nat.le_refl _) _
        have a_b13 : At W4 w4.heap.size (downR ⟨rh, ri, q, rc, rs, rw, rt⟩) := by rw [hW4]; exact At.new w4 (downR ⟨rh, ri, q, rc, rs, rw, rt⟩) _
        rw [← hW4]
        clear hW4 k0 k1 k2 k3 k4 k5 k6
        generalize w4.heap.size = b13 at a_b13 ⊢
        refine (rDown_any ⟨rh, ri, q, rc, rs, rw, rt⟩ _ ok0).mono ?_
        rintro e w5 ⟨rfl, hB⟩
        dsimp only [Rec.val]
        replace HB1 := bstep HB1 (bstep HA hB)
        replace ax := At.keep (bstep HA hB) ax
        replace a_b9 := At.keep (bstep HA hB) a_b9
        replace a_b11 := At.keep (bstep HA hB) a_b11
        replace a_b13 := At.keep hB a_b13
        clear hB HA
        go_wp2_with fail
        obtain ⟨W5, hW5⟩ : ∃ W5, W5 = w5.alloc (.cells #[.bool (downR ⟨rh, ri, q, rc, rs, rw, rt⟩).hold, .int .u32 (downR ⟨rh, ri, q, rc, rs, rw, rt⟩).id, .string (downR ⟨rh, ri, q, rc, rs, rw, rt⟩).person, .int .i64 (downR ⟨rh, ri, q, rc, rs, rw, rt⟩).cls, .int .i64 (downR ⟨rh, ri, q, rc, rs, rw, rt⟩).seat, .int .i64 (downR ⟨rh, ri, q, rc, rs, rw, rt⟩).was, .int .u64 (downR ⟨rh, ri, q, rc, rs, rw, rt⟩).til] 25) := ⟨_, rfl⟩
        have HA : Below w5.heap.size w5 W5 := by rw [hW5]; exact (Below.refl _ _).alloc (Nat.le_refl _) _
        have a_b15 : At W5 w5.heap.size (downR ⟨rh, ri, q, rc, rs, rw, rt⟩) := by rw [hW5]; exact At.new w5 (downR ⟨rh, ri, q, rc, rs, rw, rt⟩) _
        rw [← hW5]
        clear hW5
        generalize w5.heap.size = b15 at a_b15 ⊢
        have HB := bstep HB1 HA
        replace ax := At.keep HA ax
        replace a_b9 := At.keep HA a_b9
        replace a_b11 := At.keep HA a_b11
        replace a_b13 := At.keep HA a_b13
        clear HA HB1
        have qn1 := fun W => rec_neq (upR ⟨rh, ri, q, rc, rs, rw, rt⟩ (mvs l)) W
        have qn2 := fun W => rec_neq (downR ⟨rh, ri, q, rc, rs, rw, rt⟩) W
        dsimp only [Rec.val] at qn1 qn2
        have HR := drew1 W5
        go_region_held3 (fun w' => w'.cell? ⟨N1, 0, none⟩ = some (.bool rh) ∧ w'.cell? ⟨N1, 1, none⟩ = some (.int .u32 ri) ∧ w'.cell? ⟨N1, 2, none⟩ = some (.string q) ∧ w'.cell? ⟨N1, 3, none⟩ = some (.int .i64 rc) ∧ w'.cell? ⟨N1, 4, none⟩ = some (.int .i64 rs) ∧ w'.cell? ⟨N1, 5, none⟩ = some (.int .i64 rw) ∧ w'.cell? ⟨N1, 6, none⟩ = some (.int .u64 rt) ∧ w'.cell? ⟨b9, 0, none⟩ = some (.bool (upR ⟨rh, ri, q, rc, rs, rw, rt⟩ (mvs l)).hold) ∧ w'.cell? ⟨b9, 1, none⟩ = some (.int .u32 (upR ⟨rh, ri, q, rc, rs, rw, rt⟩ (mvs l)).id) ∧ w'.cell? ⟨b9, 2, none⟩ = some (.string (upR ⟨rh, ri, q, rc, rs, rw, rt⟩ (mvs l)).person) ∧ w'.cell? ⟨b9, 3, none⟩ = some (.int .i64 (upR ⟨rh, ri, q, rc, rs, rw, rt⟩ (mvs l)).cls) ∧ w'.cell? ⟨b9, 4, none⟩ = some (.int .i64 (upR ⟨rh, ri, q, rc, rs, rw, rt⟩ (mvs l)).seat) ∧ w'.cell? ⟨b9, 5, none⟩ = some (.int .i64 (upR ⟨rh, ri, q, rc, rs, rw, rt⟩ (mvs l)).was) ∧ w'.cell? ⟨b9, 6, none⟩ = some (.int .u64 (upR ⟨rh, ri, q, rc, rs, rw, rt⟩ (mvs l)).til) ∧ w'.cell? ⟨b11, 0, none⟩ = some (.bool (upR ⟨rh, ri, q, rc, rs, rw, rt⟩ (mvs l)).hold) ∧ w'.cell? ⟨b11, 1, none⟩ = some (.int .u32 (upR ⟨rh, ri, q, rc, rs, rw, rt⟩ (mvs l)).id) ∧ w'.cell? ⟨b11, 2, none⟩ = some (.string (upR ⟨rh, ri, q, rc, rs, rw, rt⟩ (mvs l)).person) ∧ w'.cell? ⟨b11, 3, none⟩ = some (.int .i64 (upR ⟨rh, ri, q, rc, rs, rw, rt⟩ (mvs l)).cls) ∧ w'.cell? ⟨b11, 4, none⟩ = some (.int .i64 (upR ⟨rh, ri, q, rc, rs, rw, rt⟩ (mvs l)).seat) ∧ w'.cell? ⟨b11, 5, none⟩ = some (.int .i64 (upR ⟨rh, ri, q, rc, rs, rw, rt⟩ (mvs l)).was) ∧ w'.cell? ⟨b11, 6, none⟩ = some (.int .u64 (upR ⟨rh, ri, q, rc, rs, rw, rt⟩ (mvs l)).til) ∧ w'.cell? ⟨b13, 0, none⟩ = some (.bool (downR ⟨rh, ri, q, rc, rs, rw, rt⟩).hold) ∧ w'.cell? ⟨b13, 1, none⟩ = some (.int .u32 (downR ⟨rh, ri, q, rc, rs, rw, rt⟩).id) ∧ w'.cell? ⟨b13, 2, none⟩ = some (.string (downR ⟨rh, ri, q, rc, rs, rw, rt⟩).person) ∧ w'.cell? ⟨b13, 3, none⟩ = some (.int .i64 (downR ⟨rh, ri, q, rc, rs, rw, rt⟩).cls) ∧ w'.cell? ⟨b13, 4, none⟩ = some (.int .i64 (downR ⟨rh, ri, q, rc, rs, rw, rt⟩).seat) ∧ w'.cell? ⟨b13, 5, none⟩ = some (.int .i64 (downR ⟨rh, ri, q, rc, rs, rw, rt⟩).was) ∧ w'.cell? ⟨b13, 6, none⟩ = some (.int .u64 (downR ⟨rh, ri, q, rc, rs, rw, rt⟩).til) ∧ w'.cell? ⟨b15, 0, none⟩ = some (.bool (downR ⟨rh, ri, q, rc, rs, rw, rt⟩).hold) ∧ w'.cell? ⟨b15, 1, none⟩ = some (.int .u32 (downR ⟨rh, ri, q, rc, rs, rw, rt⟩).id) ∧ w'.cell? ⟨b15, 2, none⟩ = some (.string (downR ⟨rh, ri, q, rc, rs, rw, rt⟩).person) ∧ w'.cell? ⟨b15, 3, none⟩ = some (.int .i64 (downR ⟨rh, ri, q, rc, rs, rw, rt⟩).cls) ∧ w'.cell? ⟨b15, 4, none⟩ = some (.int .i64 (downR ⟨rh, ri, q, rc, rs, rw, rt⟩).seat) ∧ w'.cell? ⟨b15, 5, none⟩ = some (.int .i64 (downR ⟨rh, ri, q, rc, rs, rw, rt⟩).was) ∧ w'.cell? ⟨b15, 6, none⟩ = some (.int .u64 (downR ⟨rh, ri, q, rc, rs, rw, rt⟩).til)) (first | (exact ⟨(At.keep HR ax).1, (At.keep HR ax).2.1, (At.keep HR ax).2.2.1, (At.keep HR ax).2.2.2.1, (At.keep HR ax).2.2.2.2.1, (At.keep HR ax).2.2.2.2.2.1, (At.keep HR ax).2.2.2.2.2.2, (At.keep HR a_b9).1, (At.keep HR a_b9).2.1, (At.keep HR a_b9).2.2.1, (At.keep HR a_b9).2.2.2.1, (At.keep HR a_b9).2.2.2.2.1, (At.keep HR a_b9).2.2.2.2.2.1, (At.keep HR a_b9).2.2.2.2.2.2, (At.keep HR a_b11).1, (At.keep HR a_b11).2.1, (At.keep HR a_b11).2.2.1, (At.keep HR a_b11).2.2.2.1, (At.keep HR a_b11).2.2.2.2.1, (At.keep HR a_b11).2.2.2.2.2.1, (At.keep HR a_b11).2.2.2.2.2.2, (At.keep HR a_b13).1, (At.keep HR a_b13).2.1, (At.keep HR a_b13).2.2.1, (At.keep HR a_b13).2.2.2.1, (At.keep HR a_b13).2.2.2.2.1, (At.keep HR a_b13).2.2.2.2.2.1, (At.keep HR a_b13).2.2.2.2.2.2, (At.keep HR a_b15).1, (At.keep HR a_b15).2.1, (At.keep HR a_b15).2.2.1, (At.keep HR a_b15).2.2.2.1, (At.keep HR a_b15).2.2.2.2.1, (At.keep HR a_b15).2.2.2.2.2.1, (At.keep HR a_b15).2.2.2.2.2.2⟩)) (first | (go_at_call 14; refine (May_any ⟨rh, ri, q, rc, rs, rw, rt⟩ _ ok0 (hG.below (bstep HB HR))).mono ?_; rintro e w6 ⟨rfl, hB⟩; replace HR := bstep HR hB; clear hB) | (go_at_call 15; refine (rMay2_any ⟨rh, ri, q, rc, rs, rw, rt⟩ _ ok0).mono ?_; rintro e w7 ⟨rfl, hB⟩; replace HR := bstep HR hB; clear hB))
        replace HB := bstep HB HR
        clear HR
        go_wp2_with fail
        go_roundw
        case rel => exact ⟨.inr (.inl rfl), HB⟩
        case measure => simp [intOf]

    · go_wp2_with fail
      obtain ⟨W1, hW1⟩ : ∃ W1, W1 = wr.alloc (.cells #[.bool rd.hold, .int .u32 rd.id, .string rd.person, .int .i64 rd.cls, .int .i64 rd.seat, .int .i64 rd.was, .int .u64 rd.til] 25) := ⟨_, rfl⟩
      have HB1 : Below w.heap.size w W1 := by rw [hW1]; exact HB.alloc HB.size _
      have ax : At W1 wr.heap.size rd := by rw [hW1]; exact At.new wr rd _
      rw [← hW1]
      clear hW1 HB
      generalize wr.heap.size = N1 at ax ⊢
      go_cut [9, 10] (fun s9 s10 W => ∃ b, s9 = .pointer (some ⟨b, 0, none⟩) ∧ s10 = .int .i64 (upE rd) ∧ Below w.heap.size w W ∧ At W N1 rd ∧ At W b (upR rd (mvs l)))
      case first =>
        have HR := drew1 W1
        have HZ : Below W1.heap.size W1 (W1.alloc (.cells #[.bool false, .int .u32 0, .string ⟨#[]⟩, .int .i64 0, .int .i64 0, .int .i64 0, .int .u64 0] 25)).drew := by
          have h := (Below.refl W1.heap.size W1).alloc (Nat.le_refl _) (.cells #[.bool false, .int .u32 0, .string ⟨#[]⟩, .int .i64 0, .int .i64 0, .int .i64 0, .int .u64 0] 25)
          exact ⟨h.os, h.tape, h.output, h.size, h.block⟩
        have ax2 := ax
        obtain ⟨k0, k1, k2, k3, k4, k5, k6⟩ := ax2
        go_region_held3 (fun w' => w'.cell? ⟨N1, 0, none⟩ = some (.bool rd.hold) ∧ w'.cell? ⟨N1, 1, none⟩ = some (.int .u32 rd.id) ∧ w'.cell? ⟨N1, 2, none⟩ = some (.string rd.person) ∧ w'.cell? ⟨N1, 3, none⟩ = some (.int .i64 rd.cls) ∧ w'.cell? ⟨N1, 4, none⟩ = some (.int .i64 rd.seat) ∧ w'.cell? ⟨N1, 5, none⟩ = some (.int .i64 rd.was) ∧ w'.cell? ⟨N1, 6, none⟩ = some (.int .u64 rd.til)) (first | ((try dsimp only); first | ((with_reducible show World.cell? (World.drew (World.alloc _ _)) _ = _ ∧ _); exact At.keep (b := N1) (r := rd) HZ ax) | ((with_reducible show World.cell? (World.alloc _ _) _ = _ ∧ _); exact At.keep (b := N1) (r := rd) (HR.alloc HR.size _) ax) | ((with_reducible show World.cell? (World.setCell _ _ _) _ = _ ∧ _); first | (have hz := z2; clear hz; exact At.put_other (w := w3) (b' := W1.heap.size) (r := (upR rd (mvs l))) (b := N1) (q := rd) (by have := ax.lt; omega) (At.keep (b := N1) (r := rd) HR ax)) | (exact At.put_other (w := w3) (b' := w2.heap.size) (r := (upR rd (mvs l))) (b := N1) (q := rd) (by have := ax.lt; have := HW12; omega) (At.keep (b := N1) (r := rd) HR ax))) | (exact At.keep (b := N1) (r := rd) HR ax) | go_keep)) (first | (go_at_call 10; first | ((with_reducible show Calls _ _ _ (World.drew (World.alloc _ _)) _); refine (moves_any l v _ (hv.below (bstep HB1 HZ)) hl).mono ?_; rintro e w2 ⟨mv, rfl, hm, hB⟩; have z2 := keep_row hB (heap_alloc_new W1 _); replace HR := bstep HZ hB; clear hB) | (refine (moves_any l v _ (hv.below (bstep HB1 HR)) hl).mono ?_; rintro e w2 ⟨mv, rfl, hm, hB⟩; replace HR := bstep HR hB; have HW12 := HR.size; clear hB)) | (go_at_call 9; first | ((with_reducible show Calls _ _ _ (World.alloc _ _) _); refine (Up_any rd (mvs l) _ _ hrd ?_ ?_ (mvs_lt l)).mono ?_; exact hG.below ((bstep HB1 HR).alloc (bstep HB1 HR).size _); exact hm.below ((Below.refl _ _).alloc (Nat.le_refl _) _); rintro e w3 ⟨rfl, hB⟩; have z3 := row_at hB; replace HR := bstep (HR.alloc HR.size _) hB; clear hB; obtain ⟨⟨z30, z31, z32, z33, z34, z35, z36⟩, y30, y31, y32, y33, y34, y35, y36⟩ := row7 z3) | (have hz := z2; clear hz; refine (Up_any rd (mvs l) _ _ hrd ?_ ?_ (mvs_lt l)).mono ?_; exact hG.below (bstep HB1 HR); exact hm; rintro e w3 ⟨rfl, hB⟩; have z3 := keep_row hB z2; replace HR := bstep HR hB; clear hB; obtain ⟨⟨z30, z31, z32, z33, z34, z35, z36⟩, y30, y31, y32, y33, y34, y35, y36⟩ := row7 z3) | (refine (Up_any rd (mvs l) _ _ hrd ?_ ?_ (mvs_lt l)).mono ?_; exact hG.below (bstep HB1 HR); exact hm; rintro e w3 ⟨rfl, hB⟩; replace HR := bstep HR hB; clear hB)))
        · go_wp2_with fail
          go_meet
          case rel => exact ⟨w3.heap.size, rfl, rfl, (bstep HB1 HR).alloc (bstep HB1 HR).size _, At.keep (b := N1) (r := rd) (HR.alloc HR.size _) ax, At.new w3 (upR rd (mvs l)) _⟩
        · go_wp2_with fail
          go_meet
          case rel => exact ⟨w2.heap.size, rfl, rfl, below_put7 (bstep HB1 HR) (by have := HB1.size; have := HW12; omega) _, At.put_other (w := w3) (b' := w2.heap.size) (r := (upR rd (mvs l))) (b := N1) (q := rd) (by have := ax.lt; have := HW12; omega) (At.keep (b := N1) (r := rd) HR ax), At.put (w := w3) (b := w2.heap.size) (r := (upR rd (mvs l))) (q := zeroR) (At.of_row (r := zeroR) z3)⟩
        · go_wp2_with fail
          go_meet
          case rel => exact ⟨W1.heap.size, rfl, rfl, below_put7 (bstep HB1 HR) HB1.size _, At.put_other (w := w3) (b' := W1.heap.size) (r := (upR rd (mvs l))) (b := N1) (q := rd) (by have := ax.lt; omega) (At.keep (b := N1) (r := rd) HR ax), At.put (w := w3) (b := W1.heap.size) (r := (upR rd (mvs l))) (q := zeroR) (At.of_row (r := zeroR) z3)⟩
      case rest =>
       clear HB1 ax
       obtain ⟨b9, rfl, rfl, HB1, ax, a_b9⟩ := hcut
       obtain ⟨W1, rfl⟩ : ∃ W1, W1 = wc := ⟨wc, rfl⟩
       go_wp2_with fail
       go_cut [11, 12] (fun s9 s10 W => ∃ b, s9 = .pointer (some ⟨b, 0, none⟩) ∧ s10 = .int .i64 (upE rd) ∧ Below w.heap.size w W ∧ At W N1 rd ∧ At W b9 (upR rd (mvs l)) ∧ At W b (upR rd (mvs l)))
       case first =>
         have HR := drew1 W1
         have HZ : Below W1.heap.size W1 (W1.alloc (.cells #[.bool false, .int .u32 0, .string ⟨#[]⟩, .int .i64 0, .int .i64 0, .int .i64 0, .int .u64 0] 25)).drew := by
           have h := (Below.refl W1.heap.size W1).alloc (Nat.le_refl _) (.cells #[.bool false, .int .u32 0, .string ⟨#[]⟩, .int .i64 0, .int .i64 0, .int .i64 0, .int .u64 0] 25)
           exact ⟨h.os, h.tape, h.output, h.size, h.block⟩
         have ax2 := ax
         obtain ⟨k0, k1, k2, k3, k4, k5, k6⟩ := ax2
         go_region_held3 (fun w' => w'.cell? ⟨N1, 0, none⟩ = some (.bool rd.hold) ∧ w'.cell? ⟨N1, 1, none⟩ = some (.int .u32 rd.id) ∧ w'.cell? ⟨N1, 2, none⟩ = some (.string rd.person) ∧ w'.cell? ⟨N1, 3, none⟩ = some (.int .i64 rd.cls) ∧ w'.cell? ⟨N1, 4, none⟩ = some (.int .i64 rd.seat) ∧ w'.cell? ⟨N1, 5, none⟩ = some (.int .i64 rd.was) ∧ w'.cell? ⟨N1, 6, none⟩ = some (.int .u64 rd.til)) (first | ((try dsimp only); first | ((with_reducible show World.cell? (World.drew (World.alloc _ _)) _ = _ ∧ _); exact At.keep (b := N1) (r := rd) HZ ax) | ((with_reducible show World.cell? (World.alloc _ _) _ = _ ∧ _); exact At.keep (b := N1) (r := rd) (HR.alloc HR.size _) ax) | ((with_reducible show World.cell? (World.setCell _ _ _) _ = _ ∧ _); first | (have hz := z2; clear hz; exact At.put_other (w := w3) (b' := W1.heap.size) (r := (upR rd (mvs l))) (b := N1) (q := rd) (by have := ax.lt; omega) (At.keep (b := N1) (r := rd) HR ax)) | (exact At.put_other (w := w3) (b' := w2.heap.size) (r := (upR rd (mvs l))) (b := N1) (q := rd) (by have := ax.lt; have := HW12; omega) (At.keep (b := N1) (r := rd) HR ax))) | (exact At.keep (b := N1) (r := rd) HR ax) | go_keep)) (first | (go_at_call 10; first | ((with_reducible show Calls _ _ _ (World.drew (World.alloc _ _)) _); refine (moves_any l v _ (hv.below (bstep HB1 HZ)) hl).mono ?_; rintro e w2 ⟨mv, rfl, hm, hB⟩; have z2 := keep_row hB (heap_alloc_new W1 _); replace HR := bstep HZ hB; clear hB) | (refine (moves_any l v _ (hv.below (bstep HB1 HR)) hl).mono ?_; rintro e w2 ⟨mv, rfl, hm, hB⟩; replace HR := bstep HR hB; have HW12 := HR.size; clear hB)) | (go_at_call 11; first | ((with_reducible show Calls _ _ _ (World.alloc _ _) _); refine (rUp_any rd (mvs l) _ _ hrd ?_ (mvs_lt l)).mono ?_; exact hm.below ((Below.refl _ _).alloc (Nat.le_refl _) _); rintro e w3 ⟨rfl, hB⟩; have z3 := row_at hB; replace HR := bstep (HR.alloc HR.size _) hB; clear hB; obtain ⟨⟨z30, z31, z32, z33, z34, z35, z36⟩, y30, y31, y32, y33, y34, y35, y36⟩ := row7 z3) | (have hz := z2; clear hz; refine (rUp_any rd (mvs l) _ _ hrd ?_ (mvs_lt l)).mono ?_; exact hm; rintro e w3 ⟨rfl, hB⟩; have z3 := keep_row hB z2; replace HR := bstep HR hB; clear hB; obtain ⟨⟨z30, z31, z32, z33, z34, z35, z36⟩, y30, y31, y32, y33, y34, y35, y36⟩ := row7 z3) | (refine (rUp_any rd (mvs l) _ _ hrd ?_ (mvs_lt l)).mono ?_; exact hm; rintro e w3 ⟨rfl, hB⟩; replace HR := bstep HR hB; clear hB)))
         · go_wp2_with fail
           go_meet
           case rel => exact ⟨w3.heap.size, rfl, rfl, (bstep HB1 HR).alloc (bstep HB1 HR).size _, At.keep (b := N1) (r := rd) (HR.alloc HR.size _) ax, At.keep (b := b9) (r := (upR rd (mvs l))) (HR.alloc HR.size _) a_b9, At.new w3 (upR rd (mvs l)) _⟩
         · go_wp2_with fail
           go_meet
           case rel => exact ⟨w2.heap.size, rfl, rfl, below_put7 (bstep HB1 HR) (by have := HB1.size; have := HW12; omega) _, At.put_other (w := w3) (b' := w2.heap.size) (r := (upR rd (mvs l))) (b := N1) (q := rd) (by have := ax.lt; have := HW12; omega) (At.keep (b := N1) (r := rd) HR ax), At.put_other (w := w3) (b' := w2.heap.size) (r := (upR rd (mvs l))) (b := b9) (q := (upR rd (mvs l))) (by have := a_b9.lt; have := HW12; omega) (At.keep (b := b9) (r := (upR rd (mvs l))) HR a_b9), At.put (w := w3) (b := w2.heap.size) (r := (upR rd (mvs l))) (q := zeroR) (At.of_row (r := zeroR) z3)⟩
         · go_wp2_with fail
           go_meet
           case rel => exact ⟨W1.heap.size, rfl, rfl, below_put7 (bstep HB1 HR) HB1.size _, At.put_other (w := w3) (b' := W1.heap.size) (r := (upR rd (mvs l))) (b := N1) (q := rd) (by have := ax.lt; omega) (At.keep (b := N1) (r := rd) HR ax), At.put_other (w := w3) (b' := W1.heap.size) (r := (upR rd (mvs l))) (b := b9) (q := (upR rd (mvs l))) (by have := a_b9.lt; omega) (At.keep (b := b9) (r := (upR rd (mvs l))) HR a_b9), At.put (w := w3) (b := W1.heap.size) (r := (upR rd (mvs l))) (q := zeroR) (At.of_row (r := zeroR) z3)⟩
       case rest =>
        clear HB1 ax a_b9
        obtain ⟨b11, rfl, rfl, HB1, ax, a_b9, a_b11⟩ := hcut
        obtain ⟨W1, rfl⟩ : ∃ W1, W1 = wc := ⟨wc, rfl⟩
        have ax2 := ax
        obtain ⟨k0, k1, k2, k3, k4, k5, k6⟩ := ax2
        go_wp2_with fail
        refine (Down_any rd _ hrd (hG.below HB1)).mono ?_
        rintro e w4 ⟨rfl, hB⟩
        dsimp only [Rec.val]
        replace HB1 := bstep HB1 hB
        replace ax := At.keep hB ax
        replace a_b9 := At.keep hB a_b9
        replace a_b11 := At.keep hB a_b11
        clear hB k0 k1 k2 k3 k4 k5 k6
        have hA := fun o => At.keep ((Below.refl w4.heap.size w4).alloc (Nat.le_refl _) o) ax
        have k0 := fun o => (hA o).1
        have k1 := fun o => (hA o).2.1
        have k2 := fun o => (hA o).2.2.1
        have k3 := fun o => (hA o).2.2.2.1
        have k4 := fun o => (hA o).2.2.2.2.1
        have k5 := fun o => (hA o).2.2.2.2.2.1
        have k6 := fun o => (hA o).2.2.2.2.2.2
        try dsimp only at k0 k1 k2 k3 k4 k5 k6
        clear hA
        go_wp2_with fail
        obtain ⟨W4, hW4⟩ : ∃ W4, W4 = w4.alloc (.cells #[.bool (downR rd).hold, .int .u32 (downR rd).id, .string (downR rd).person, .int .i64 (downR rd).cls, .int .i64 (downR rd).seat, .int .i64 (downR rd).was, .int .u64 (downR rd).til] 25) := ⟨_, rfl⟩
        have HA : Below w4.heap.size w4 W4 := by rw [hW4]; exact (Below.refl _ _).alloc (Nat.le_refl _) _
        have a_b13 : At W4 w4.heap.size (downR rd) := by rw [hW4]; exact At.new w4 (downR rd) _
        rw [← hW4]
        clear hW4 k0 k1 k2 k3 k4 k5 k6
        generalize w4.heap.size = b13 at a_b13 ⊢
        refine (rDown_any rd _ hrd).mono ?_
        rintro e w5 ⟨rfl, hB⟩
        dsimp only [Rec.val]
        replace HB1 := bstep HB1 (bstep HA hB)
        replace ax := At.keep (bstep HA hB) ax
        replace a_b9 := At.keep (bstep HA hB) a_b9
        replace a_b11 := At.keep (bstep HA hB) a_b11
        replace a_b13 := At.keep hB a_b13
        clear hB HA
        go_wp2_with fail
        obtain ⟨W5, hW5⟩ : ∃ W5, W5 = w5.alloc (.cells #[.bool (downR rd).hold, .int .u32 (downR rd).id, .string (downR rd).person, .int .i64 (downR rd).cls, .int .i64 (downR rd).seat, .int .i64 (downR rd).was, .int .u64 (downR rd).til] 25) := ⟨_, rfl⟩
        have HA : Below w5.heap.size w5 W5 := by rw [hW5]; exact (Below.refl _ _).alloc (Nat.le_refl _) _
        have a_b15 : At W5 w5.heap.size (downR rd) := by rw [hW5]; exact At.new w5 (downR rd) _
        rw [← hW5]
        clear hW5
        generalize w5.heap.size = b15 at a_b15 ⊢
        have HB := bstep HB1 HA
        replace ax := At.keep HA ax
        replace a_b9 := At.keep HA a_b9
        replace a_b11 := At.keep HA a_b11
        replace a_b13 := At.keep HA a_b13
        clear HA HB1
        have qn1 := fun W => rec_neq (upR rd (mvs l)) W
        have qn2 := fun W => rec_neq (downR rd) W
        dsimp only [Rec.val] at qn1 qn2
        have HR := drew1 W5
        go_region_held3 (fun w' => w'.cell? ⟨N1, 0, none⟩ = some (.bool rd.hold) ∧ w'.cell? ⟨N1, 1, none⟩ = some (.int .u32 rd.id) ∧ w'.cell? ⟨N1, 2, none⟩ = some (.string rd.person) ∧ w'.cell? ⟨N1, 3, none⟩ = some (.int .i64 rd.cls) ∧ w'.cell? ⟨N1, 4, none⟩ = some (.int .i64 rd.seat) ∧ w'.cell? ⟨N1, 5, none⟩ = some (.int .i64 rd.was) ∧ w'.cell? ⟨N1, 6, none⟩ = some (.int .u64 rd.til) ∧ w'.cell? ⟨b9, 0, none⟩ = some (.bool (upR rd (mvs l)).hold) ∧ w'.cell? ⟨b9, 1, none⟩ = some (.int .u32 (upR rd (mvs l)).id) ∧ w'.cell? ⟨b9, 2, none⟩ = some (.string (upR rd (mvs l)).person) ∧ w'.cell? ⟨b9, 3, none⟩ = some (.int .i64 (upR rd (mvs l)).cls) ∧ w'.cell? ⟨b9, 4, none⟩ = some (.int .i64 (upR rd (mvs l)).seat) ∧ w'.cell? ⟨b9, 5, none⟩ = some (.int .i64 (upR rd (mvs l)).was) ∧ w'.cell? ⟨b9, 6, none⟩ = some (.int .u64 (upR rd (mvs l)).til) ∧ w'.cell? ⟨b11, 0, none⟩ = some (.bool (upR rd (mvs l)).hold) ∧ w'.cell? ⟨b11, 1, none⟩ = some (.int .u32 (upR rd (mvs l)).id) ∧ w'.cell? ⟨b11, 2, none⟩ = some (.string (upR rd (mvs l)).person) ∧ w'.cell? ⟨b11, 3, none⟩ = some (.int .i64 (upR rd (mvs l)).cls) ∧ w'.cell? ⟨b11, 4, none⟩ = some (.int .i64 (upR rd (mvs l)).seat) ∧ w'.cell? ⟨b11, 5, none⟩ = some (.int .i64 (upR rd (mvs l)).was) ∧ w'.cell? ⟨b11, 6, none⟩ = some (.int .u64 (upR rd (mvs l)).til) ∧ w'.cell? ⟨b13, 0, none⟩ = some (.bool (downR rd).hold) ∧ w'.cell? ⟨b13, 1, none⟩ = some (.int .u32 (downR rd).id) ∧ w'.cell? ⟨b13, 2, none⟩ = some (.string (downR rd).person) ∧ w'.cell? ⟨b13, 3, none⟩ = some (.int .i64 (downR rd).cls) ∧ w'.cell? ⟨b13, 4, none⟩ = some (.int .i64 (downR rd).seat) ∧ w'.cell? ⟨b13, 5, none⟩ = some (.int .i64 (downR rd).was) ∧ w'.cell? ⟨b13, 6, none⟩ = some (.int .u64 (downR rd).til) ∧ w'.cell? ⟨b15, 0, none⟩ = some (.bool (downR rd).hold) ∧ w'.cell? ⟨b15, 1, none⟩ = some (.int .u32 (downR rd).id) ∧ w'.cell? ⟨b15, 2, none⟩ = some (.string (downR rd).person) ∧ w'.cell? ⟨b15, 3, none⟩ = some (.int .i64 (downR rd).cls) ∧ w'.cell? ⟨b15, 4, none⟩ = some (.int .i64 (downR rd).seat) ∧ w'.cell? ⟨b15, 5, none⟩ = some (.int .i64 (downR rd).was) ∧ w'.cell? ⟨b15, 6, none⟩ = some (.int .u64 (downR rd).til)) (first | (exact ⟨(At.keep HR ax).1, (At.keep HR ax).2.1, (At.keep HR ax).2.2.1, (At.keep HR ax).2.2.2.1, (At.keep HR ax).2.2.2.2.1, (At.keep HR ax).2.2.2.2.2.1, (At.keep HR ax).2.2.2.2.2.2, (At.keep HR a_b9).1, (At.keep HR a_b9).2.1, (At.keep HR a_b9).2.2.1, (At.keep HR a_b9).2.2.2.1, (At.keep HR a_b9).2.2.2.2.1, (At.keep HR a_b9).2.2.2.2.2.1, (At.keep HR a_b9).2.2.2.2.2.2, (At.keep HR a_b11).1, (At.keep HR a_b11).2.1, (At.keep HR a_b11).2.2.1, (At.keep HR a_b11).2.2.2.1, (At.keep HR a_b11).2.2.2.2.1, (At.keep HR a_b11).2.2.2.2.2.1, (At.keep HR a_b11).2.2.2.2.2.2, (At.keep HR a_b13).1, (At.keep HR a_b13).2.1, (At.keep HR a_b13).2.2.1, (At.keep HR a_b13).2.2.2.1, (At.keep HR a_b13).2.2.2.2.1, (At.keep HR a_b13).2.2.2.2.2.1, (At.keep HR a_b13).2.2.2.2.2.2, (At.keep HR a_b15).1, (At.keep HR a_b15).2.1, (At.keep HR a_b15).2.2.1, (At.keep HR a_b15).2.2.2.1, (At.keep HR a_b15).2.2.2.2.1, (At.keep HR a_b15).2.2.2.2.2.1, (At.keep HR a_b15).2.2.2.2.2.2⟩)) (first | (go_at_call 14; refine (May_any rd _ hrd (hG.below (bstep HB HR))).mono ?_; rintro e w6 ⟨rfl, hB⟩; replace HR := bstep HR hB; clear hB) | (go_at_call 15; refine (rMay2_any rd _ hrd).mono ?_; rintro e w7 ⟨rfl, hB⟩; replace HR := bstep HR hB; clear hB))
        replace HB := bstep HB HR
        clear HR
        go_wp2_with fail
        go_roundw
        case rel => exact ⟨.inr (.inr rfl), HB⟩
        case measure => simp [intOf]

    · go_wp2_with (go_at_call 16; refine (works_any _ (hG.below HB)).mono ?_; rintro e w' ⟨rfl, hB⟩; replace HB := bstep HB hB; clear hB)
      go_ret
      exact ⟨rfl, HB⟩
end Go.Proofs.YtinnkaokplmcbaaDoor
