/- VaryOn: the walk. -/
import Derived.Test.YtemngdhbicndlaaDoorVd2
namespace Go.Proofs.YtemngdhbicndlaaDoor
open Go.RowKit
set_option linter.unusedVariables false
set_option linter.unusedSimpArgs false

theorem info_fd' : (Tryd.prog.info? 50).map (fun i => (i.zero, i.size, i.bytes)) = some (some (.agg #[.int .i64 0, .bool false, .int .u64 0, .string ⟨#[]⟩]), 4, 40) := info_fd
/-- v[:i] of fields. -/
theorem fields_to (w0 : World) (v : Value) (l : List Fd) (i : Nat) (hv : RdV w0 v l) (hi : i ≤ l.length) :
    ∃ v', RdV w0 v' (l.take i) ∧ ∀ W, (Instr.slice 22 v none (some (.int .i64 (i : Int))) none).run Tryd.prog W = .ok v' W := by
  obtain ⟨i0, hi0, hz0, hz1, hz2⟩ := info_parts info_fd
  have ht' : Tryd.prog.underlying 22 = some (.slice (Tryd.prog.elem 22)) := by simp [Program.elem, Tryd.underlying22]
  have he : Tryd.prog.elem 22 = 50 := by simp [Program.elem, Tryd.underlying22]
  obtain ⟨A, c, rfl, h1, h2, h3⟩ := hv
  have hrun : ∀ W, (Instr.slice 22 (.slice (A.map fun p => (⟨p.1, p.2, none⟩ : Addr)) l.length c) none (some (.int .i64 (i : Int))) none).run Tryd.prog W = .ok (sliced (A.map fun p => (⟨p.1, p.2, none⟩ : Addr)) 0 i c 4) W := fun W => by
    rw [run_slice_h W 22 _ l.length c ht' .i64 (i : Int) (by omega) (by omega), he]
    have hz : (Go.sizeOf 50).run Tryd.prog W = .ok 4 W := by simp [Go.sizeOf, typeInfo, hi0, hz1]
    rw [hz]
    rfl
  refine ⟨_, ?_, hrun⟩
  have hl : (l.take i).length = i := by rw [List.length_take]; omega
  have hsl : sliced (A.map fun p => (⟨p.1, p.2, none⟩ : Addr)) 0 i c 4 = .slice (A.map fun p => ⟨p.1, p.2, none⟩) (l.take i).length c := by
    rw [hl]
    unfold sliced
    cases A with
    | none => simp
    | some q => simp [add_lit]
  rw [hsl]
  refine ⟨A, c, rfl, by omega, h2, fun p hp k f hf j u hu => h3 p hp k f ?_ j u hu⟩
  have hk := (List.getElem?_eq_some_iff.1 hf).1
  rw [List.getElem?_take] at hf
  split at hf
  · exact hf
  · cases hf
theorem fields_to' {w0 : World} {a : Option Addr} {c : Nat} {l : List Fd} {i : Nat} (hv : RdV w0 (.slice a l.length c) l) (hi : i ≤ l.length) : RdV w0 (.slice a i c) (l.take i) := by
  have hl : (l.take i).length = i := by rw [List.length_take]; omega
  obtain ⟨A, c', e, h1, h2, h3⟩ := hv
  simp only [Value.slice.injEq] at e
  obtain ⟨rfl, _, rfl⟩ := e
  refine ⟨A, c, by rw [hl], by omega, h2, fun p hp k f hf j u hu => h3 p hp k f ?_ j u hu⟩
  rw [List.getElem?_take] at hf
  split at hf
  · exact hf
  · cases hf
/-- v[i:] of fields. -/
theorem fields_from (w0 : World) (v : Value) (l : List Fd) (i : Nat) (hv : RdV w0 v l) (hi : i ≤ l.length) :
    ∃ v', RdV w0 v' (l.drop i) ∧ ∀ W, (Instr.slice 22 v (some (.int .i64 (i : Int))) none none).run Tryd.prog W = .ok v' W := by
  obtain ⟨i0, hi0, hz0, hz1, hz2⟩ := info_parts info_fd
  have ht' : Tryd.prog.underlying 22 = some (.slice (Tryd.prog.elem 22)) := by simp [Program.elem, Tryd.underlying22]
  have he : Tryd.prog.elem 22 = 50 := by simp [Program.elem, Tryd.underlying22]
  obtain ⟨A, c, rfl, h1, h2, h3⟩ := hv
  have hrun : ∀ W, (Instr.slice 22 (.slice (A.map fun p => (⟨p.1, p.2, none⟩ : Addr)) l.length c) (some (.int .i64 (i : Int))) none none).run Tryd.prog W = .ok (sliced (A.map fun p => (⟨p.1, p.2, none⟩ : Addr)) i l.length c 4) W := fun W => by
    rw [run_slice_l W 22 _ l.length c ht' .i64 (i : Int) (by omega) (by omega), he]
    have hz : (Go.sizeOf 50).run Tryd.prog W = .ok 4 W := by simp [Go.sizeOf, typeInfo, hi0, hz1]
    rw [hz]
    rfl
  refine ⟨_, ?_, hrun⟩
  unfold sliced
  by_cases hc : c = i
  · subst hc
    rw [if_pos rfl]
    have hd : l.drop c = [] := List.drop_eq_nil_of_le h1
    rw [hd]
    refine ⟨A, 0, ?_, Nat.le_refl _, fun _ => rfl, fun p hp k f hf => by simp at hf⟩
    simp
    omega
  · rw [if_neg hc]
    refine ⟨A.map fun q => (q.1, q.2 + i * 4), c - i, ?_, by rw [List.length_drop]; omega, fun h => ?_, fun p hp k f hf j u hu => ?_⟩
    · rw [List.length_drop]
      cases A with
      | none => rfl
      | some q => simp [add_lit]
    · cases A with
      | none => have := h2 rfl; omega
      | some q => cases h
    · cases A with
      | none => cases hp
      | some q =>
        simp only [Option.map_some, Option.some.injEq] at hp
        subst hp
        have e : q.2 + i * 4 + k * 4 + j = q.2 + (i + k) * 4 + j := by omega
        show w0.cell? ⟨q.1, q.2 + i * 4 + k * 4 + j, none⟩ = some u
        rw [e]
        refine h3 q rfl (i + k) f ?_ j u hu
        rw [List.getElem?_drop] at hf
        exact hf
set_option maxHeartbeats 1000000 in
theorem inner_prefix (b s : ByteArray) (w : World) (h : s.size ≤ b.size) (he : b.extract 0 s.size = s) : Calls Tryd.prog 31 #[.string b, .string s] w fun e w' => e = .returned (.bool true) ∧ w' = w := by
  have hsl := fun W => run_take (P := Tryd.prog) 9 Tryd.underlying9 b s.size h W
  rw [he] at hsl
  have hge : (s.size : Int) ≤ (b.size : Int) := by omega
  clear he
  go_enter Tryd.func31, Tryd.ntmps31
  go_wp2_with fail
  go_ret
  exact ⟨rfl, rfl⟩
set_option maxHeartbeats 1000000 in
theorem has_prefix (b s : ByteArray) (w : World) (h : s.size ≤ b.size) (he : b.extract 0 s.size = s) : Calls Tryd.prog 18 #[.string b, .string s] w fun e w' => e = .returned (.bool true) ∧ w' = w := by
  go_enter Tryd.func18, Tryd.ntmps18
  go_wp2_with fail
  refine (inner_prefix b s _ h he).mono ?_
  rintro e w1 ⟨rfl, rfl⟩
  go_wp2_with fail
  go_ret
  exact ⟨rfl, rfl⟩
/-- Which fields are whole, of bytes that are cut: so far. -/
structure CutI (l : List Fd) (N i who beg : Nat) : Prop where
  lt : who < i ∨ (i = 0 ∧ who = 0)
  le : who ≤ l.length
  is : beg = begA l who
  low : beg ≤ N
  up : ∀ j, who < j → j < i → N < begA l j
theorem CutI.start (l : List Fd) (N : Nat) : CutI l N 0 0 0 := ⟨.inr ⟨rfl, rfl⟩, Nat.zero_le _, rfl, Nat.zero_le _, fun j _ h => by omega⟩
theorem CutI.more {l : List Fd} {N i who beg : Nat} (h : CutI l N i who beg) (hi : i ≤ l.length) (hb : begA l i ≤ N) : CutI l N (i + 1) i (begA l i) :=
  ⟨.inl (by omega), hi, rfl, hb, fun j h1 h2 => by omega⟩
theorem CutI.less {l : List Fd} {N i who beg : Nat} (h : CutI l N i who beg) (hi : 0 < i) (hb : N < begA l i) : CutI l N (i + 1) who beg := by
  refine ⟨?_, h.le, h.is, h.low, fun j h1 h2 => ?_⟩
  · rcases h.lt with h0 | h0 <;> left <;> omega
  · rcases Nat.lt_or_ge j i with h3 | h3
    · exact h.up j h1 h3
    · have : j = i := by omega
      rw [this]
      exact hb
theorem begA_zero (l : List Fd) : begA l 0 = 0 := rfl
theorem begA_le (l : List Fd) (i : Nat) (hi : i ≤ l.length) : begA l i ≤ (flatL l).length := by
  have e : flatL l = flatL (l.take i) ++ flatL (l.drop i) := by rw [← flatL_append, List.take_append_drop]
  rw [e, List.length_append]
  unfold begA
  omega
theorem take_extract (l : List UInt8) (n : Nat) : (⟨l.toArray⟩ : ByteArray).extract 0 n = ⟨(l.take n).toArray⟩ := by
  apply ByteArray.ext
  simp [ByteArray.data_extract]
set_option maxRecDepth 100000 in
set_option maxHeartbeats 2000000 in
theorem on_any (l : List Fd) (at_ : Int) (v : Value) (w : World) (hE : EtP w) (hv : RdV w v l) (hml : l.length ≤ maxLen) (hn : ∀ f ∈ l, f.n < 18446744073709551616) (hg0 : 0 ≤ at_) (hg1 : at_ < 65536) :
    Calls Tryd.prog 5 #[v, .int .u16 at_] w fun e w' => e = .returned (.bool true) ∧ Below w.heap.size w w' := by
  have HF : Hid (∀ W, Below w.heap.size w W → _) := fun W hB => few_any l 0 v W (hv.below hB) hml hn (by decide) (by decide)
  clear hv hml hn
  go_enter Tryd.func5, Tryd.ntmps5
  go_wp2_with fail
  refine (works_any _ hE).mono ?_
  rintro e w0 ⟨rfl, hB0⟩
  have HB0 := Lib.hid hB0
  clear hB0
  go_wp2_with fail
  refine (HF.out _ HB0.out).mono ?_
  rintro e w1 ⟨v1, l1, rfl, hr1, hp1, hB1⟩
  obtain ⟨a1, c1, hv1, hac, _⟩ : ∃ a1 c1, v1 = .slice a1 l1.length c1 ∧ l1.length ≤ c1 ∧ True := by
    obtain ⟨A, c, e, h1, _⟩ := hr1
    exact ⟨_, c, e, h1, trivial⟩
  subst hv1
  have HR1 := Lib.hid hr1
  have HP1 := Lib.hid hp1
  have HB1 := Lib.hid (bstep7 HB0.out hB1)
  have hl40 := hp1.len
  have hm1 : l1.length ≤ maxLen := by unfold maxLen; omega
  clear hr1 hp1 hB1 HF HB0
  go_wp2_with fail
  have q1 := put_any l1 _ w1 HR1.out HP1.out.num hm1
  by_cases hC : putC l1 = 0
  rotate_left
  · have hC0 : (putC l1 == 0) = false := by rw [beq_eq_false_iff_ne]; exact hC
    generalize putC l1 = C at q1 hC0
    generalize (⟨(putL l1).toArray⟩ : ByteArray) = PL at q1
    refine q1.mono ?_
    clear q1 hC
    rintro e w2 ⟨rfl, hB2⟩
    have HBa := Lib.hid (bstep7 HB1.out hB2)
    clear hB2 HB1
    go_wp2_with fail
    go_ret
    exact ⟨rfl, HBa.out⟩
  have HC := Lib.hid hC
  have hPL : putL l1 = flatL l1 := putL_of hC
  obtain ⟨PL, hP⟩ : ∃ PL : ByteArray, PL = ⟨(flatL l1).toArray⟩ := ⟨_, rfl⟩
  rw [hPL, ← hP, hC] at q1
  have hfs := flat_size HP1.out.num hC
  have hPs : PL.size = (flatL l1).length := by rw [hP, mk_size]
  have hPb : PL.size ≤ 64320 := by rw [hPs]; exact hfs.1
  have hl32 := hfs.2
  have HPS := Lib.hid hPs
  have HP := Lib.hid hP
  clear hPs hfs hP hPL hC
  refine q1.mono ?_
  clear q1
  rintro e w2 ⟨rfl, hB2⟩
  replace HR1 := Lib.hid (HR1.out.below hB2)
  have HB2 := Lib.hid (bstep7 HB1.out hB2)
  clear hB2 HB1
  obtain ⟨N, hN⟩ : ∃ N : Nat, at_.tmod ((PL.size : Int) + 1) = (N : Int) := ⟨(at_.tmod ((PL.size : Int) + 1)).toNat, by
    have := Int.tmod_nonneg ((PL.size : Int) + 1) hg0
    omega⟩
  have hNb : N ≤ PL.size := by
    rw [Int.tmod_eq_emod_of_nonneg hg0] at hN
    have := Int.emod_lt_of_pos at_ (show (0 : Int) < (PL.size : Int) + 1 by omega)
    omega
  have hN2 : at_ % ((PL.size : Int) + 1) = (N : Int) := by rw [← hN, Int.tmod_eq_emod_of_nonneg hg0]
  have hz1 : (((PL.size : Int) + 1) == 0) = false := by rw [beq_eq_false_iff_ne]; omega
  have HNB := Lib.hid hNb
  clear hN hNb
  have hpl : PL.data.toList = flatL l1 := by rw [HP.out]
  have HPT := Lib.hid hpl
  clear hpl
  go_wp2_with fail
  try simp only [hN2]
  clear hN2 hz1
  go_loopw [8, 9, 10] (fun wv bv_ iv wr => ∃ (i who beg : Nat), i ≤ l1.length + 1 ∧ iv = .int .i64 i ∧ wv = .int .i64 who ∧ bv_ = .int .i64 beg ∧ Hid (CutI l1 N i who beg) ∧ Hid (RdV wr (.slice a1 l1.length c1) l1) ∧ Hid (Below w.heap.size w wr)) (fun _ _ iv _ => l1.length + 1 - (intOf iv).toNat)
  case atStart => exact ⟨0, 0, 0, Nat.zero_le _, rfl, rfl, rfl, CutI.start l1 N, HR1.out, HB2.out⟩
  case round =>
    clear HR1 HB2
    obtain ⟨i, who, beg, hi, rfl, rfl, rfl, HI, HR, HB⟩ := hrel
    by_cases hil : i ≤ l1.length
    · have hvt := fields_to' HR.out hil
      have hic : (i : Int) ≤ (c1 : Int) := by omega
      obtain ⟨p1, p2, p3⟩ := put_part i HC.out
      have e1 := putL_of p1
      have e2 := putL_of p2
      have hbl : begA l1 i ≤ PL.size := by rw [HPS.out]; exact begA_le l1 i hil
      obtain ⟨S, hS⟩ : ∃ S : ByteArray, S = ⟨(flatL (l1.take i)).toArray⟩ := ⟨_, rfl⟩
      have hSz : S.size = begA l1 i := by rw [hS, mk_size]; rfl
      obtain ⟨R, hR⟩ : ∃ R : ByteArray, R = ⟨(flatL (l1.drop i)).toArray⟩ := ⟨_, rfl⟩
      have hSR : S ++ R = PL := by
        rw [hS, hR, mk_app, ← flatL_append, List.take_append_drop, HP.out]
      have hsz2 : S.size + R.size = PL.size := by rw [← hSR, ByteArray.size_append]
      have hadd := fun W => (run_string_add_sum (P := Tryd.prog) W S R (by omega))
      rw [hSR] at hadd
      have hpre : PL.extract 0 S.size = S := by
        rw [hSz, HP.out, take_extract, cut_at HP1.out.num HC.out hil, hS]
      have q1 := put_any (l1.take i) _ wr hvt (fun f hf => HP1.out.num f (List.mem_of_mem_take hf)) (by unfold maxLen; rw [List.length_take]; omega)
      rw [e1, p1, ← hS] at q1
      have HQ1 := Lib.hid q1
      have HPR : Hid (∀ W, _) := fun W => has_prefix PL S W (by omega) hpre
      have HQ2 : Hid (∀ W, Below wr.heap.size wr W → ∃ vr, (∀ W, (Instr.slice 22 (.slice a1 l1.length c1) (some (.int .i64 (i : Int))) none none).run Tryd.prog W = .ok vr W) ∧ Calls Tryd.prog 16 #[vr] W fun e w' => e = .returned (.tuple #[.string R, .int .i64 0]) ∧ Below W.heap.size W w') := fun W hB => by
        obtain ⟨vr, hvr, hsr⟩ := fields_from W _ l1 i (HR.out.below hB) hil
        have q2 := put_any (l1.drop i) vr W hvr (fun f hf => HP1.out.num f (List.mem_of_mem_drop hf)) (by unfold maxLen; rw [List.length_drop]; omega)
        rw [e2, p2, ← hR] at q2
        exact ⟨vr, hsr, q2⟩
      have HSZ := Lib.hid hSz
      clear p1 p2 p3 e1 e2 hS hSz hR hSR hpre q1 hvt
      have HIL := Lib.hid hil
      go_wp2_with fail
      refine HQ1.out.mono ?_
      rintro e w3 ⟨rfl, hB3⟩
      obtain ⟨vr, hsr, hq2⟩ := HQ2.out w3 hB3
      have HQ2c := Lib.hid hq2
      clear hq2
      replace HB := Lib.hid (bstep7 HB.out hB3)
      have HR3 := Lib.hid (HR.out.below hB3)
      have HQ2b := HQ2
      have HB3 := Lib.hid hB3
      clear hB3 HQ1
      go_wp2_with fail
      refine (HPR.out _).mono ?_
      rintro e w4 ⟨rfl, rfl⟩
      by_cases hbN : S.size ≤ N
      · have hbNi : (S.size : Int) ≤ (N : Int) := by omega
        have HNX : Hid (CutI l1 N (i + 1) i S.size) := by
          rw [HSZ.out]
          exact HI.out.more hil (by rw [← HSZ.out]; exact hbN)
        clear hbN
        go_wp2_with fail
        refine HQ2c.out.mono ?_
        rintro e w5 ⟨rfl, hB5⟩
        have HB5 := Lib.hid (bstep7 HB.out hB5)
        have HR5 := Lib.hid (HR3.out.below hB5)
        clear hB5 HB HR HR3 HB3 HQ2 HQ2b HQ2c HPR
        go_wp2_with fail
        go_roundw
        case rel => exact ⟨i + 1, i, S.size, by omega, by go_num, rfl, rfl, HNX.out, HR5.out, HB5.out⟩
        case measure => simp [intOf]; omega
      · have hbNi : ¬ (S.size : Int) ≤ (N : Int) := by omega
        have hi0 : 0 < i := by
          rcases Nat.eq_zero_or_pos i with h | h
          · subst h
            have := HSZ.out
            rw [begA_zero] at this
            omega
          · exact h
        have HNX : Hid (CutI l1 N (i + 1) who beg) := HI.out.less hi0 (by rw [← HSZ.out]; omega)
        clear hbN hi0
        go_wp2_with fail
        refine HQ2c.out.mono ?_
        rintro e w5 ⟨rfl, hB5⟩
        have HB5 := Lib.hid (bstep7 HB.out hB5)
        have HR5 := Lib.hid (HR3.out.below hB5)
        clear hB5 HB HR HR3 HB3 HQ2 HQ2b HQ2c HPR
        go_wp2_with fail
        go_roundw
        case rel => exact ⟨i + 1, who, beg, by omega, by go_num, rfl, rfl, HNX.out, HR5.out, HB5.out⟩
        case measure => simp [intOf]; omega
    · obtain rfl : i = l1.length + 1 := by omega
      have hIl := HI.out
      obtain ⟨Q, hQ⟩ : ∃ Q : ByteArray, Q = PL.extract 0 N := ⟨_, rfl⟩
      have hslQ := fun W => run_take (P := Tryd.prog) 9 Tryd.underlying9 PL N HNB.out W
      rw [← hQ] at hslQ
      have hQt : Q.data.toList = (flatL l1).take N := by rw [hQ, HP.out, take_extract]
      have hQs : Q.size ≤ 64320 := by
        have h1 := size_list Q
        rw [hQt, List.length_take] at h1
        have h2 := HPS.out
        omega
      have hq := fun W => read_any Q W (by omega)
      rw [hQt] at hq
      by_cases hbN : beg = N
      · subst hbN
        obtain ⟨c1', c2', c3'⟩ := read_cut_at HP1.out.num HC.out hIl.le
        rw [← hIl.is] at c1' c2' c3'
        rw [c1', c2', c3'] at hq
        have HQ := Lib.hid hq
        have hwl : (who : Int) ≤ (c1 : Int) := by have := hIl.le; omega
        have HWL := Lib.hid hIl.le
        have hil : ¬ ((l1.length + 1 : Nat) : Int) ≤ (l1.length : Int) := by omega
        have hbz : ((beg : Int) == (beg : Int)) = true := by simp
        clear c1' c2' c3' hq hQ hQt hIl
        go_wp2_with fail
        refine (HQ.out _).mono ?_
        rintro e w3 ⟨v3, e3, rfl, hr3, he3, hB3⟩
        obtain ⟨_, _, rfl⟩ | ⟨h0, _⟩ := he3
        rotate_left
        · exact absurd rfl h0
        have HR3 := Lib.hid (fields_to' (HR.out.below hB3) HWL.out)
        have HRD3 := Lib.hid hr3
        have HB3 := Lib.hid (bstep7 HB.out hB3)
        clear hB3 hr3 HQ HB HR
        go_wp2_with fail
        refine (alike_any (l1.take who) v3 _ _ HRD3.out HR3.out (by rw [List.length_take]; omega)).mono ?_
        rintro e w4 ⟨rfl, hB4⟩
        have HB4 := Lib.hid (bstep7 HB3.out hB4)
        clear hB4
        go_wp2_with fail
        go_ret
        exact ⟨rfl, HB4.out⟩
      · have hbl := hIl.low
        have hwl : who < l1.length := by
          rcases Nat.lt_or_ge who l1.length with h | h
          · exact h
          · have h1 : who = l1.length := by have := hIl.le; omega
            have h2 := hIl.is
            rw [h1, begA_all, ← HPS.out] at h2
            have h3 := HNB.out
            omega
        obtain ⟨f, hf⟩ : ∃ f, l1[who]? = some f := ⟨l1[who], List.getElem?_eq_getElem hwl⟩
        obtain ⟨c1', c2', c3'⟩ := read_cut_in HP1.out.num HC.out hf (n := N) (by rw [← hIl.is]; omega) (hIl.up (who + 1) (by omega) (by omega))
        rw [← hIl.is] at c2'
        rw [c1', c2', c3'] at hq
        have HQ := Lib.hid hq
        have hil : ¬ ((l1.length + 1 : Nat) : Int) ≤ (l1.length : Int) := by omega
        have hbz : ((beg : Int) == (N : Int)) = false := by rw [beq_eq_false_iff_ne]; omega
        clear c1' c2' c3' hq hQ hQt hIl hbN hbl hwl hf
        go_wp2_with fail
        refine (HQ.out _).mono ?_
        rintro e w3 ⟨v3, e3, rfl, hr3, he3, hB3⟩
        obtain ⟨a8, c8, rfl, _⟩ := hr3.opn
        have HE3 := Lib.hid he3
        have HB3 := Lib.hid (bstep7 HB.out hB3)
        clear hB3 hr3 he3 HQ HB HR
        go_wp2_with fail
        refine (told_is HE3.out (hE.below HB3.out)).mono ?_
        rintro e w4 ⟨rfl, hB4⟩
        have HB4 := Lib.hid (bstep7 HB3.out hB4)
        clear hB4
        go_wp2_with fail
        go_ret
        exact ⟨rfl, HB4.out⟩
end Go.Proofs.YtemngdhbicndlaaDoor
