/- VaryBack: the walk. -/
import Derived.Test.YtemngdhbicndlaaDoorVd1
import Derived.Test.YtemngdhbicndlaaDoorVc6
namespace Go.Proofs.YtemngdhbicndlaaDoor
open Go.RowKit
set_option linter.unusedVariables false
set_option linter.unusedSimpArgs false

theorem ok_of_code : ∀ (l : List Fd) (last : Int), (∀ f ∈ l, f.n < 18446744073709551616) → codeL last l = 0 → ∀ f ∈ l, f.Ok
  | [], _, _, _ => fun f hf => by cases hf
  | f :: l, last, hn, h => by
    obtain ⟨h1, h2, h3⟩ := codeL_cons (hn f List.mem_cons_self) h
    intro g hg
    rcases List.mem_cons.1 hg with rfl | hg
    · exact h1
    · exact ok_of_code l f.tag (fun g hg => hn g (List.mem_cons_of_mem _ hg)) h3 g hg
theorem flat_size {l : List Fd} (hn : ∀ f ∈ l, f.n < 18446744073709551616) (hC : putC l = 0) : (flatL l).length ≤ 64320 ∧ l.length ≤ 32 := by
  unfold putC at hC
  split at hC
  · omega
  · have := flat_len l (ok_of_code l 0 hn hC)
    omega
set_option maxRecDepth 100000 in
set_option maxHeartbeats 1000000 in
theorem back_any (l : List Fd) (longer : Int) (s : ByteArray) (v : Value) (w : World) (hE : EtP w) (hv : RdV w v l) (hml : l.length ≤ maxLen) (hn : ∀ f ∈ l, f.n < 18446744073709551616) (hg0 : 0 ≤ longer) (hg1 : longer < 256) :
    Calls Tryd.prog 4 #[v, .int .u8 longer, .string s] w fun e w' => e = .returned (.bool true) ∧ Below w.heap.size w w' := by
  obtain ⟨m, hm⟩ : ∃ m : Nat, m = min s.size 1000 := ⟨_, rfl⟩
  have hmi : (if (1000 : Int) < (s.size : Int) then (1000 : Int) else (s.size : Int)) = (m : Int) := by split <;> omega
  have hms : m ≤ s.size := by omega
  have hsl := fun W => run_take (P := Tryd.prog) 9 Tryd.underlying9 s m hms W
  have hsz : (s.extract 0 m).size ≤ 1000 := by rw [ByteArray.size_extract]; omega
  obtain ⟨S, hS⟩ : ∃ S, S = s.extract 0 m := ⟨_, rfl⟩
  rw [← hS] at hsl hsz
  have HRD := Lib.hid (fun W => read_any S W (by omega))
  clear hm hS
  have HF : Hid (∀ W, Below w.heap.size w W → _) := fun W hB => few_any l longer v W (hv.below hB) hml hn hg0 hg1
  clear hv hml hn
  go_enter Tryd.func4, Tryd.ntmps4
  go_wp2_with fail
  refine (works_any _ hE).mono ?_
  rintro e w0 ⟨rfl, hB0⟩
  have HB0 := Lib.hid hB0
  clear hB0
  go_wp2_with fail
  refine (HF.out _ HB0.out).mono ?_
  rintro e w1 ⟨v1, l1, rfl, hr1, hp1, hB1⟩
  have HR1 := Lib.hid hr1
  have HP1 := Lib.hid hp1
  have HB1 := Lib.hid (bstep7 HB0.out hB1)
  have hl40 := hp1.len
  have hm1 : l1.length ≤ maxLen := by unfold maxLen; omega
  clear hr1 hp1 hB1 HF HB0
  go_wp2_with fail
  have q1 := put_any l1 v1 w1 HR1.out HP1.out.num hm1
  by_cases hC : putC l1 = 0
  · have hPL : putL l1 = flatL l1 := putL_of hC
    obtain ⟨r1, r2, r3⟩ := read_flat HP1.out.num hC
    obtain ⟨PL, hP⟩ : ∃ PL : ByteArray, PL = ⟨(flatL l1).toArray⟩ := ⟨_, rfl⟩
    have hPt : PL.data.toList = flatL l1 := by rw [hP]
    rw [hPL, ← hP, hC] at q1
    have hPs : PL.size ≤ 64320 := by
      rw [hP, mk_size]
      exact (flat_size HP1.out.num hC).1
    have HRP : Hid (∀ W, Calls Tryd.prog 11 #[.string PL] W fun e w' => ∃ v1 v2, e = .returned (.tuple #[v1, v2]) ∧ RdV w' v1 l1 ∧ ErrIs w' v2 0 0 ∧ Below W.heap.size W w') := fun W => by
      have q := read_any PL W (by omega)
      rw [hPt, r1, r2, r3] at q
      exact q
    refine q1.mono ?_
    clear q1 r1 r2 r3 hP hPt hPL hC hPs
    rintro e w2 ⟨rfl, hB2⟩
    replace HR1 := Lib.hid (HR1.out.below hB2)
    have HB2 := Lib.hid (bstep7 HB1.out hB2)
    clear hB2 HB1
    go_wp2_with fail
    refine (HRP.out _).mono ?_
    rintro e w3 ⟨v3, e3, rfl, hr3, he3, hB3⟩
    obtain ⟨_, _, rfl⟩ | ⟨h0, _⟩ := he3
    rotate_left
    · exact absurd rfl h0
    replace HR1 := Lib.hid (HR1.out.below hB3)
    have HB3 := Lib.hid (bstep7 HB2.out hB3)
    have HR3 := Lib.hid hr3
    clear hB3 HB2 hr3 HRP
    go_wp2_with fail
    refine (alike_any l1 v1 v3 _ HR1.out HR3.out (by omega)).mono ?_
    rintro e w4 ⟨rfl, hB4⟩
    have HBa := Lib.hid (bstep7 HB3.out hB4)
    clear hB4 HB3 HR1 HR3
    go_wp2_with fail
    refine (HRD.out _).mono ?_
    rintro e wb ⟨vb, eb, rfl, hrb, heb, hBb⟩
    have HBb := Lib.hid (bstep7 HBa.out hBb)
    have HRb := Lib.hid hrb
    clear hBb HBa hrb
    rcases heb with ⟨hc0, _, rfl⟩ | ⟨hc0, a9, rfl, _⟩
    · obtain ⟨p1, p2, p3⟩ := flat_read hc0
      have q := put_any (readF S.data.toList) vb wb HRb.out (fun f hf => (p3 f hf).1) (Nat.le_trans (readF_len _) (by decide))
      rw [p1, p2, mk_list] at q
      have HQ := Lib.hid q
      clear q p1 p2 p3 hc0
      go_wp2_with fail
      refine HQ.out.mono ?_
      rintro e wc ⟨rfl, hBc⟩
      have HBc := Lib.hid (bstep7 HBb.out hBc)
      clear hBc HQ
      go_wp2_with fail
      go_ret
      exact ⟨rfl, HBc.out⟩
    · have hz : readF S.data.toList = [] := if_neg hc0
      have q := HRb.out
      rw [hz] at q
      obtain ⟨a8, c8, rfl, _⟩ := q.opn
      clear q hz hc0
      unfold ErrV
      go_wp2_with fail
      go_ret
      exact ⟨rfl, HBb.out⟩
  · have hPL : putL l1 = [] := if_neg hC
    have hC0 : (putC l1 == 0) = false := by rw [beq_eq_false_iff_ne]; exact hC
    rw [hPL] at q1
    generalize putC l1 = C at q1 hC0
    refine q1.mono ?_
    clear q1 hC hPL
    rintro e w2 ⟨rfl, hB2⟩
    have HBa := Lib.hid (bstep7 HB1.out hB2)
    clear hB2 HB1
    go_wp2_with fail
    refine (HRD.out _).mono ?_
    rintro e wb ⟨vb, eb, rfl, hrb, heb, hBb⟩
    have HBb := Lib.hid (bstep7 HBa.out hBb)
    have HRb := Lib.hid hrb
    clear hBb HBa hrb
    rcases heb with ⟨hc0, _, rfl⟩ | ⟨hc0, a9, rfl, _⟩
    · obtain ⟨p1, p2, p3⟩ := flat_read hc0
      have q := put_any (readF S.data.toList) vb wb HRb.out (fun f hf => (p3 f hf).1) (Nat.le_trans (readF_len _) (by decide))
      rw [p1, p2, mk_list] at q
      have HQ := Lib.hid q
      clear q p1 p2 p3 hc0
      go_wp2_with fail
      refine HQ.out.mono ?_
      rintro e wc ⟨rfl, hBc⟩
      have HBc := Lib.hid (bstep7 HBb.out hBc)
      clear hBc HQ
      go_wp2_with fail
      go_ret
      exact ⟨rfl, HBc.out⟩
    · have hz : readF S.data.toList = [] := if_neg hc0
      have q := HRb.out
      rw [hz] at q
      obtain ⟨a8, c8, rfl, _⟩ := q.opn
      clear q hz hc0
      unfold ErrV
      go_wp2_with fail
      go_ret
      exact ⟨rfl, HBb.out⟩
end Go.Proofs.YtemngdhbicndlaaDoor
