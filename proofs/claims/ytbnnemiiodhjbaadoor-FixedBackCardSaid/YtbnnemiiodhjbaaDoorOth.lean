/- What comes in: lists of things. -/
import Derived.Test.YtbnnemiiodhjbaaDoorOe
import Derived.Test.YtbnnemiiodhjbaaDoorFz1
namespace Go.Proofs.YtbnnemiiodhjbaaDoor
open Go.ChangeShapes Go.WideShapes Go.ChangeAt Go.WideMaps Go.WideElems Go.RowKit
set_option linter.unusedVariables false
set_option linter.unusedSimpArgs false

instance : Inhabited Th := ⟨⟨0, 0, ⟨#[]⟩⟩⟩
theorem th_spot {P : Program} {w : World} {r : Reach} {b : Nat} {t e : TypeId} {a : Addr} {n c : Nat} (ht : P.underlying t = some (.slice e)) (hv : Value.okWide P w r b t (.slice (some a) n c)) : a.spot = none := by
  simp only [Value.okWide, ht, Cell.okWide, Cell.ok] at hv
  exact hv.2.2.2.1
theorem th_c8 : Tryd.prog.cellsOf 5 = 1 := by kernel_rfl
theorem th_c64 : Tryd.prog.cellsOf 23 = 1 := by kernel_rfl
theorem th_cs : Tryd.prog.cellsOf 9 = 1 := by kernel_rfl
theorem th_ct : Tryd.prog.cellsOf 66 = 3 := by kernel_rfl
theorem weights_mem_all {H : Type} {P : Program} {e : TypeId} : ∀ {l : List (DataW H)} {d : DataW H}, d ∈ l → ∀ n ∈ d.weights P e, n ∈ DataW.weightsAll P e l
  | [], _, h, _, _ => by cases h
  | x :: l, d, h, n, hn => by
    simp only [DataW.weightsAll, List.mem_append]
    rcases List.mem_cons.1 h with rfl | h
    · exact .inl hn
    · exact .inr (weights_mem_all h n hn)
section
variable {H : Type} {enc : TypeId × Value → H} {W : World} {base : Nat}

set_option maxRecDepth 100000 in
theorem open_things {v : Value} {d : DataW H} {p : List MemPlace} (hv : Value.okWide Tryd.prog W .any base 62 v) (h : DataW.Trod enc Tryd.prog W 0 (fun _ => true) true 62 v d p) (hw : (d.weights Tryd.prog 62).all (· ≤ reachBytes) = true) :
    ∃ l : List Th, RdTh W v l ∧ (∀ x ∈ l, x.Ok) ∧ l.length ≤ maxLen := by
  have hv' := hv
  obtain ⟨a, len, cap, rfl⟩ := okWide_slice Tryd.underlying62 hv
  obtain ⟨fuel, hf⟩ := h
  rcases Deep.open_slice Tryd.underlying62 hf with ⟨h0, _⟩ | ⟨a', len', cap', m, n, D, Pl, hc, _, hle, hcap, hm, hdd, hx⟩
  · simp [Value.cells] at h0
    obtain ⟨rfl, rfl, rfl⟩ := h0
    exact ⟨[], ⟨none, 0, rfl, Nat.le_refl _, fun _ => rfl, fun _ h => by cases h⟩, by simp, by simp⟩
  · simp [Value.cells] at hc
    obtain ⟨rfl, rfl, rfl⟩ := hc
    have hlm : len ≤ m := by rw [hm]; split <;> omega
    have hsp := th_spot Tryd.underlying62 hv'
    simp only [Prod.mk.injEq] at hdd
    obtain ⟨hd, _⟩ := hdd
    have hwe : ∀ i, i < len → ((D i).weights Tryd.prog 66).all (· ≤ reachBytes) = true := by
      intro i hi
      refine List.all_eq_true.2 fun y hy => List.all_eq_true.1 hw y ?_
      rw [hd]
      simp only [DataW.weights, Tryd.underlying62]
      exact List.mem_cons_of_mem _ (List.mem_append.2 (.inl (weights_mem_all (List.mem_map.2 ⟨i, List.mem_range.2 hi, rfl⟩) y hy)))
    obtain ⟨b, o, sp⟩ := a'
    simp only at hsp
    subst hsp
    have each : ∀ i, i < len → ∃ q : Th, q.Ok ∧ ∀ (j : Nat) (u : Value), (thC q)[j]? = some u → W.cell? ⟨b, o + i * 3 + j, none⟩ = some u := by
      intro i hi
      obtain ⟨cs', h1, h2⟩ := hx i (by omega)
      rw [th_ct] at h1
      obtain ⟨_, hlen, hcell⟩ := World.cells?_some h1
      obtain ⟨xs, k, _, hdi, _, hxl, hel⟩ := DataW.trod_struct Tryd.underlying66 h2
      match xs, hxl, hdi, cs', hlen with
      | [x0, x1, x2], _, hdi, [v0, v1, v2], _ =>
        have e0 : DataW.trod enc Tryd.prog W 0 _ true k 5 ((List.drop 0 _).take (Tryd.prog.cellsOf 5)) = some x0 := hel 0 _ rfl
        have e1 : DataW.trod enc Tryd.prog W 0 _ true k 23 ((List.drop 1 _).take (Tryd.prog.cellsOf 23)) = some x1 := hel 1 _ rfl
        have e2 : DataW.trod enc Tryd.prog W 0 _ true k 9 ((List.drop 2 _).take (Tryd.prog.cellsOf 9)) = some x2 := hel 2 _ rfl
        simp only [th_c8, th_c64, th_cs] at e0 e1 e2
        obtain ⟨b0, g0, _, w0⟩ := DataW.trod_int Tryd.underlying5 (show DataW.trod _ Tryd.prog W 0 _ true k 5 _ = some x0 from e0)
        obtain ⟨b1, g1, _, w1⟩ := DataW.trod_int Tryd.underlying23 (show DataW.trod _ Tryd.prog W 0 _ true k 23 _ = some x1 from e1)
        obtain ⟨b2, g2, z2, w2⟩ := DataW.trod_string Tryd.underlying9 (show DataW.trod _ Tryd.prog W 0 _ true k 9 _ = some x2 from e2)
        simp at g0 g1 g2
        subst g0 g1 g2
        have q0 := wfB w0
        have q1 := wfB w1
        have m1 : IntKind.u8.min = 0 := rfl
        have m2 : IntKind.u8.max = 255 := rfl
        have m3 : IntKind.u64.min = 0 := rfl
        have m4 : IntKind.u64.max = 18446744073709551615 := rfl
        have q2 : b2.size ≤ 140737488351232 := by
          have hwi := hwe i hi
          simp only [Prod.mk.injEq] at hdi
          obtain ⟨hdi, _⟩ := hdi
          rw [hdi] at hwi
          simp only [DataW.weights, Tryd.underlying66] at hwi
          have z := sized_string hwi (j := 2) (t := 9) rfl (by simp only [List.map_cons, List.getElem?_cons_zero, List.getElem?_cons_succ, z2]; rfl)
          rw [Array.length_toList] at z
          exact z
        refine ⟨⟨b0, b1, b2⟩, ⟨?_, ?_, ?_, ?_, q2⟩, fun j u hu => ?_⟩
        · show 0 ≤ b0; omega
        · show b0 < 256; omega
        · show 0 ≤ b1; omega
        · show b1 < 18446744073709551616; omega
        have hj : j < 3 := (List.getElem?_eq_some_iff.1 hu).1
        have z := hcell j (by omega)
        rw [add_lit, add_lit] at z
        exact z.trans hu
    obtain ⟨f, hfq⟩ := Deep.choose_lt each
    refine ⟨(List.range len).map f, ⟨some (b, o), cap, by simp, by simpa using hle, (fun h => by cases h), fun p hp k x hk j u hu => ?_⟩, fun x hx => ?_, by simp; omega⟩
    · obtain rfl : (b, o) = p := by simpa using hp
      have hkl : k < len := by
        have := (List.getElem?_eq_some_iff.1 hk).1
        simpa using this
      have hxe : x = f k := by
        rw [List.getElem?_map, List.getElem?_range hkl] at hk
        simpa using hk.symm
      subst hxe
      exact (hfq k hkl).2 j u hu
    · obtain ⟨k, hk, rfl⟩ := List.mem_map.1 hx
      exact (hfq k (List.mem_range.1 hk)).1
end
end Go.Proofs.YtbnnemiiodhjbaaDoor
