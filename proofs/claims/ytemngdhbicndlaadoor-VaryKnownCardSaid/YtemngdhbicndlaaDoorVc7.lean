/- The law's few: which fields it looks at. -/
import Derived.Test.YtemngdhbicndlaaDoorVc5
import Derived.Deep.OwnRows
namespace Go.Proofs.YtemngdhbicndlaaDoor
open Go.RowKit
set_option linter.unusedVariables false
set_option linter.unusedSimpArgs false

/-- Fields that a law looks at. -/
structure FewP (l : List Fd) : Prop where
  len : l.length ≤ 40
  num : ∀ f ∈ l, f.n < 18446744073709551616
  txt : ∀ f ∈ l, f.s.size ≤ 2010
theorem run_take {P : Program} (t : TypeId) (ht : P.underlying t = some .string) (s : ByteArray) (m : Nat) (hm : m ≤ s.size) (W : World) : (Instr.slice t (.string s) none (some (.int .i64 (m : Int))) none).run P W = .ok (.string (s.extract 0 m)) W := by
  rw [run_slice_string_h W t s ht .i64 (m : Int) (by omega) (by omega)]
  simp
theorem FewP.snoc {l : List Fd} {f : Fd} (h : FewP l) (hl : l.length < 40) (h1 : f.n < 18446744073709551616) (h2 : f.s.size ≤ 2010) : FewP (l ++ [f]) := by
  refine ⟨by simp; omega, fun g hg => ?_, fun g hg => ?_⟩
  · rcases List.mem_append.1 hg with hg | hg
    · exact h.num g hg
    · have e : g = f := by simpa using hg
      rw [e]; exact h1
  · rcases List.mem_append.1 hg with hg | hg
    · exact h.txt g hg
    · have e : g = f := by simpa using hg
      rw [e]; exact h2
theorem zeros_str (X : World) (M : Nat) : (convert 60 9 (.slice (some ⟨X.heap.size, 0, none⟩) M M)).run Tryd.prog (X.alloc (.cells (madeCells #[.int .u8 0] M) 5)) = .ok (.string ⟨(List.replicate M (0 : UInt8)).toArray⟩) (X.alloc (.cells (madeCells #[.int .u8 0] M) 5)) := by
  have h : RdB (X.alloc (.cells (madeCells #[.int .u8 0] M) 5)) (.slice (some ⟨X.heap.size, 0, none⟩) M M) (List.replicate M (0 : UInt8)) := by
    refine ⟨some (X.heap.size, 0), M, by simp, by simp, (fun h => by cases h), fun p hp j u hu => ?_⟩
    obtain rfl : (X.heap.size, 0) = p := by simpa using hp
    have hj : j < M := by
      have := (List.getElem?_eq_some_iff.1 hu).1
      simpa [bv] using this
    simp only [bv, List.map_replicate, List.getElem?_replicate, if_pos hj, Option.some.injEq] at hu
    rw [Nat.zero_add, cell_of_row _ _ j _ _ _ (heap_alloc_new X _), ← hu]
    rw [← Array.getElem?_toList, toList_madeCells_one, List.getElem?_replicate, if_pos hj]
    rfl
  exact h.str (P := Tryd.prog) 60 9 5 Tryd.underlying60 Tryd.underlying5 Tryd.underlying9
theorem own_append_box3 {P : Program} {ops : Array Oper} {rest : List Oper} {o : Oper} {a : Act} {Q : Exit → Act → World → Prop} {w0 W : World} (base : Nat) (hgd : o.guard = none) (s x : Operand) (t e : TypeId)
    (ho : o.op = .call { callee := .builtin .append, args := #[s, x], argTypes := #[t, t] })
    (ht : P.underlying t = some (.slice e)) {z : Value} {size bytes : Nat} (hinfo : (P.info? e).map (fun i => (i.zero, i.size, i.bytes)) = some (some z, size, bytes)) (hzs : z.cells.size = size) (hsz : 0 < size)
    (v : Value) (n : Nat) (xs : List Value) (ns : Array Value) (hns : ns.size = size) (h1 : ∀ u ∈ ns.toList, u.oneCell' = true) (hs : a.eval s = v) (B : Nat) (hb : B = W.heap.size) (hx : a.eval x = .slice (some ⟨B, 0, none⟩) 1 1)
    (HO : W.ownsRow base e size v n xs) (HB : Below base w0 W) (hbase : base ≤ W.heap.size) (hl : (n + 1) * bytes ≤ 140737488355328) (hn : n + 1 ≤ 140737488355328)
    (h : ∀ v1 w1, w1.ownsRow base e size v1 (n + 1) (xs ++ ns.toList) → Below base w0 w1 → W.heap.size ≤ w1.heap.size → wpList P ops Q rest (a.put o.dst v1) w1) :
    wpList P ops Q (o :: rest) a (W.alloc (.cells ns e)) := by
  subst hb
  exact own_append_box base hgd s x t e ho ht hinfo hzs hsz v n xs ns hns h1 hs hx HO HB hbase hl hn h
set_option maxRecDepth 100000 in
set_option maxHeartbeats 1000000 in
theorem few_any (l : List Fd) (longer : Int) (v : Value) (w : World) (hv : RdV w v l) (hml : l.length ≤ maxLen) (hn : ∀ f ∈ l, f.n < 18446744073709551616) (hg0 : 0 ≤ longer) (hg1 : longer < 256) :
    Calls Tryd.prog 9 #[v, .int .u8 longer] w fun e w' => ∃ v1 l1, e = .returned v1 ∧ RdV w' v1 l1 ∧ FewP l1 ∧ Below w.heap.size w w' := by
  obtain ⟨a, c, rfl, hc, hr⟩ := hv.opn
  unfold maxLen at hml
  have HR := Lib.hid hr
  have HN := Lib.hid hn
  clear hr hv hn
  go_enter Tryd.func9, Tryd.ntmps9
  go_wp2_with fail
  go_loopw [5, 6] (fun ov kv wr => ∃ (k : Nat) (acc : List Fd), k ≤ l.length ∧ k ≤ 40 ∧ kv = .int .i64 k ∧ Hid (acc.length = k) ∧ Hid (FewP acc) ∧ Hid (wr.ownsRow w.heap.size 50 4 ov k (acc.flatMap fdC)) ∧ Hid (Below w.heap.size w wr)) (fun _ kv _ => 40 - (intOf kv).toNat)
  case atStart => exact ⟨0, [], Nat.zero_le _, Nat.zero_le _, rfl, rfl, ⟨by simp, by simp, by simp⟩, World.ownsRow_nil _ _ _ _, Below.refl _ _⟩
  case round =>
    obtain ⟨k, acc, hk, hk40, rfl, HA, HP, HO, HB⟩ := hrel
    by_cases hkl : k < l.length ∧ k < 40
    · obtain ⟨hkl, hkk⟩ := hkl
      obtain ⟨f, hf⟩ : ∃ f, l[k]? = some f := ⟨l[k], List.getElem?_eq_getElem hkl⟩
      obtain ⟨b, o, rfl, hcs⟩ := HR.out k f hf
      have hfn := HN.out f (List.mem_of_getElem? hf)
      have c0 := keepC HB.out (hcs 0 _ rfl)
      have c1 := keepC HB.out (hcs 1 _ rfl)
      have c2 := keepC HB.out (hcs 2 _ rfl)
      have c3 := keepC HB.out (hcs 3 _ rfl)
      rw [Nat.add_zero] at c0
      obtain ⟨m, hm⟩ : ∃ m : Nat, m = min f.s.size 2010 := ⟨_, rfl⟩
      have hmi : (if (2010 : Int) < (f.s.size : Int) then (2010 : Int) else (f.s.size : Int)) = (m : Int) := by split <;> omega
      have hms : m ≤ f.s.size := by omega
      have hsl := fun W => run_take (P := Tryd.prog) 9 Tryd.underlying9 f.s m hms W
      have hsz : (f.s.extract 0 m).size ≤ 2010 := by rw [ByteArray.size_extract]; omega
      obtain ⟨S, hS⟩ : ∃ S, S = f.s.extract 0 m := ⟨_, rfl⟩
      rw [← hS] at hsl hsz
      have hk0 : (0 : Int) ≤ (k : Int) := by omega
      have hk1 : (k : Int) < (l.length : Int) := by omega
      have hl0 : ((l.length : Int) == 0) = false := by rw [beq_eq_false_iff_ne]; omega
      clear hf hcs hm hS
      obtain ⟨M, hM⟩ : ∃ M : Nat, 1990 + longer % 20 = (M : Int) := ⟨(1990 + longer % 20).toNat, by omega⟩
      have hM2 : M ≤ 2009 := by omega
      have hmk := fun W => run_make_row' (P := Tryd.prog) 60 5 (.int .u8 0) 1 Tryd.underlying60 info_u8 rfl .i64 .i64 M (by omega) (by omega) W
      have hzs := zeros_str (wr.alloc (.cells #[.int .i64 f.tag, .bool true, .int .u64 (f.n : Nat), .string S] 50)) M
      simp only [World.size_alloc] at hzs
      have hZs : (⟨(List.replicate M (0 : UInt8)).toArray⟩ : ByteArray).size ≤ 2010 := by
        rw [mk_size, List.length_replicate]
        omega
      obtain ⟨Z, hZ⟩ : ∃ Z : ByteArray, Z = ⟨(List.replicate M (0 : UInt8)).toArray⟩ := ⟨_, rfl⟩
      rw [← hZ] at hzs hZs
      clear hZ
      have hH0 := HB.out.size
      have HA1 : ∀ x : Fd, Hid ((acc ++ [x]).length = k + 1) := fun x => by show (acc ++ [x]).length = k + 1; rw [List.length_append, HA.out]; rfl
      cases hT : f.isT with
      | true =>
        rw [hT] at c1
        go_wp2_with (at_builtin; first
          | (refine own_append_box3 w.heap.size rfl (.tmp 52) (.tmp 54) 22 50 rfl Tryd.underlying22 info_fd rfl (by decide) _ k _ #[.int .i64 f.tag, .bool true, .int .u64 (f.n : Nat), .string S] rfl (by simp [Value.oneCell']) rfl _ ?_ rfl (HO.out.alloc _) (HB.out.alloc hH0 _) ?_ ?_ ?_ ?_; (simp); (simp; omega); omega; omega; intro v5 w5 hO5 hB5 hs5)
          | (refine own_append_box3 w.heap.size rfl (.tmp 52) (.tmp 54) 22 50 rfl Tryd.underlying22 info_fd rfl (by decide) _ k _ #[.int .i64 f.tag, .bool true, .int .u64 (f.n : Nat), .string Z] rfl (by simp [Value.oneCell']) rfl _ ?_ rfl ((HO.out.alloc _).alloc _) ((HB.out.alloc hH0 _).alloc (by simp; omega) _) ?_ ?_ ?_ ?_; (simp); (simp; omega); omega; omega; intro v5 w5 hO5 hB5 hs5))
        all_goals
          first
          | exact ⟨⟨k + 1, acc ++ [⟨f.tag, true, f.n, S⟩], by omega, by omega, by go_num, HA1 _, HP.out.snoc (by rw [HA.out]; exact hkk) hfn (by assumption), by rw [List.flatMap_append, List.flatMap_singleton]; exact hO5, hB5⟩, by simp [intOf]; omega⟩
          | exact ⟨⟨k + 1, acc ++ [⟨f.tag, true, f.n, Z⟩], by omega, by omega, by go_num, HA1 _, HP.out.snoc (by rw [HA.out]; exact hkk) hfn (by assumption), by rw [List.flatMap_append, List.flatMap_singleton]; exact hO5, hB5⟩, by simp [intOf]; omega⟩
      | false =>
        rw [hT] at c1
        go_wp2_with (at_builtin; (refine own_append_box3 w.heap.size rfl (.tmp 52) (.tmp 54) 22 50 rfl Tryd.underlying22 info_fd rfl (by decide) _ k _ #[.int .i64 f.tag, .bool false, .int .u64 (f.n : Nat), .string S] rfl (by simp [Value.oneCell']) rfl _ ?_ rfl (HO.out.alloc _) (HB.out.alloc hH0 _) ?_ ?_ ?_ ?_; (simp); (simp; omega); omega; omega; intro v5 w5 hO5 hB5 hs5))
        all_goals
          exact ⟨⟨k + 1, acc ++ [⟨f.tag, false, f.n, S⟩], by omega, by omega, by go_num, HA1 _, HP.out.snoc (by rw [HA.out]; exact hkk) hfn (by assumption), by rw [List.flatMap_append, List.flatMap_singleton]; exact hO5, hB5⟩, by simp [intOf]; omega⟩
    · have HLA := HA.out
      have hrd : RdV wr _ acc := RdV.own (base := w.heap.size) (e := 50) (by rw [HLA]; exact HO.out)
      have HRD := Lib.hid hrd
      clear hrd HLA
      go_wp2_with fail
      all_goals
        go_ret
        exact ⟨_, acc, rfl, HRD.out, HP.out, HB.out⟩
end Go.Proofs.YtemngdhbicndlaaDoor
