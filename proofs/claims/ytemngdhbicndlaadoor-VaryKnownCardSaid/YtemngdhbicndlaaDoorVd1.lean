/- VaryPuts: the walk. -/
import Derived.Test.YtemngdhbicndlaaDoorVc8
import Derived.Test.YtemngdhbicndlaaDoorVc7
import Derived.Test.YtemngdhbicndlaaDoorVb9
namespace Go.Proofs.YtemngdhbicndlaaDoor
open Go.RowKit
set_option linter.unusedVariables false
set_option linter.unusedSimpArgs false

theorem eql_self (f : Fd) (W : World) : (binOp .eql 50 (.agg #[.int .i64 f.tag, .bool f.isT, .int .u64 (f.n : Nat), .string f.s]) (.agg #[.int .i64 f.tag, .bool f.isT, .int .u64 (f.n : Nat), .string f.s])).run Tryd.prog W = .ok (.bool true) W := by
  rw [fd_eql]
  simp
theorem alloc_cell {w : World} {a : Addr} {v : Value} (h : w.cell? a = some v) (o : Obj) : (w.alloc o).cell? a = some v := keepC ((Below.refl _ _).alloc (Nat.le_refl _) o) h
set_option maxRecDepth 100000 in
set_option maxHeartbeats 1000000 in
theorem puts_any (l : List Fd) (tag longer : Int) (v : Value) (w : World) (hE : EtP w) (hv : RdV w v l) (hml : l.length ≤ maxLen) (hn : ∀ f ∈ l, f.n < 18446744073709551616) (hg0 : 0 ≤ longer) (hg1 : longer < 256) :
    Calls Tryd.prog 6 #[v, .int .i64 tag, .int .u8 longer] w fun e w' => e = .returned (.bool true) ∧ Below w.heap.size w w' := by
  have HF := Lib.hid (few_any l longer v w hv hml hn hg0 hg1)
  clear hv hml hn
  go_enter Tryd.func6, Tryd.ntmps6
  go_wp2_with fail
  refine HF.out.mono ?_
  rintro e w1 ⟨v1, l1, rfl, hr1, hp1, hB1⟩
  have HR1 := Lib.hid hr1
  have HP1 := Lib.hid hp1
  have HB1 := Lib.hid hB1
  have hl40 := hp1.len
  have hm1 : l1.length ≤ maxLen := by unfold maxLen; omega
  clear hr1 hp1 hB1 HF
  go_wp2_with fail
  have q1 := put_any l1 v1 w1 HR1.out HP1.out.num hm1
  obtain ⟨PL, hPL⟩ : ∃ PL : ByteArray, PL = ⟨(putL l1).toArray⟩ := ⟨_, rfl⟩
  obtain ⟨C, hC⟩ : ∃ C, C = putC l1 := ⟨_, rfl⟩
  rw [← hPL, ← hC] at q1
  refine q1.mono ?_
  clear q1
  rintro e w2 ⟨rfl, hB2⟩
  have q2 := rput_any l1 v1 w2 (HR1.out.below hB2) HP1.out.num hm1
  rw [← hPL, ← hC] at q2
  replace HR1 := Lib.hid (HR1.out.below hB2)
  have HB2 := Lib.hid (bstep7 HB1.out hB2)
  have HQ2 := Lib.hid q2
  clear hB2 HB1 q2 hPL hC
  go_wp2_with fail
  refine HQ2.out.mono ?_
  rintro e w3 ⟨rfl, hB3⟩
  replace HR1 := Lib.hid (HR1.out.below hB3)
  have HB3 := Lib.hid (bstep7 HB2.out hB3)
  clear hB3 HB2 HQ2
  go_wp2_with fail
  refine (find_any l1 tag v1 _ HR1.out hm1).mono ?_
  obtain ⟨F, hF⟩ : ∃ F, F = findV l1 tag := ⟨_, rfl⟩
  obtain ⟨I, hI⟩ : ∃ I, I = (findF l1 tag).isSome := ⟨_, rfl⟩
  rw [← hF, ← hI]
  have HFI := Lib.hid (And.intro hF hI)
  clear hF hI
  rintro e w4 ⟨rfl, hB4⟩
  replace HR1 := Lib.hid (HR1.out.below hB4)
  have HB4 := Lib.hid (bstep7 HB3.out hB4)
  clear hB4 HB3
  unfold Fd.val
  go_wp2_with fail
  have HBX : Hid ((w4.alloc (.cells #[.int .i64 F.tag, .bool F.isT, .int .u64 (F.n : Nat), .string F.s] 50)).heap[w4.heap.size]? = some (.cells #[.int .i64 F.tag, .bool F.isT, .int .u64 (F.n : Nat), .string F.s] 50 (0, 0))) := heap_alloc_new _ _
  have HB5 : Hid (Below w.heap.size w (w4.alloc (.cells #[.int .i64 F.tag, .bool F.isT, .int .u64 (F.n : Nat), .string F.s] 50))) := HB4.out.alloc HB4.out.size _
  replace HR1 := Lib.hid (HR1.out.below ((Below.refl _ _).alloc (Nat.le_refl _) (.cells #[.int .i64 F.tag, .bool F.isT, .int .u64 (F.n : Nat), .string F.s] 50)))
  generalize w4.alloc (.cells #[.int .i64 F.tag, .bool F.isT, .int .u64 (F.n : Nat), .string F.s] 50) = w5 at HBX HB5 HR1 ⊢
  generalize w4.heap.size = bx at HBX ⊢
  refine (rfind_any l1 tag v1 _ HR1.out hm1).mono ?_
  rw [← HFI.out.1, ← HFI.out.2]
  rintro e w6 ⟨rfl, hB6⟩
  have hbx := below_box hB6 HBX.out
  obtain ⟨z0, z1, z2, z3, _⟩ := box_S hbx
  have HB6 := Lib.hid (bstep7 HB5.out hB6)
  clear hB6 HB4 HB5 HBX hbx
  have hq := fun W => eql_self F W
  have za0 := fun o => alloc_cell z0 o
  have za1 := fun o => alloc_cell z1 o
  have za2 := fun o => alloc_cell z2 o
  have za3 := fun o => alloc_cell z3 o
  clear z0 z1 z2 z3
  unfold Fd.val
  go_wp2_with fail
  have HB7 : Hid (Below w.heap.size w (w6.alloc (.cells #[.int .i64 F.tag, .bool F.isT, .int .u64 (F.n : Nat), .string F.s] 50))) := HB6.out.alloc HB6.out.size _
  refine (works_any _ (hE.below HB7.out)).mono ?_
  rintro e w8 ⟨rfl, hB8⟩
  have HB8 := Lib.hid (bstep7 HB7.out hB8)
  clear hB8
  go_wp2_with fail
  go_ret
  exact ⟨rfl, HB8.out⟩
end Go.Proofs.YtemngdhbicndlaaDoor
