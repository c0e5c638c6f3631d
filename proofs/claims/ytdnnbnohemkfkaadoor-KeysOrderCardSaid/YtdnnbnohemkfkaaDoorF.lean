/- keys.key: pieces, one behind the other. -/
import Derived.Test.YtdnnbnohemkfkaaDoorE
namespace Go.Proofs.YtdnnbnohemkfkaaDoor
open Go.RowKit
set_option linter.unusedVariables false

/-- What pieces give: nothing, if one may not be. -/
def keyB : List (List UInt8 × Bool) → List UInt8
  | l => if l.all (·.2) then (l.map (·.1)).flatten else []

theorem take_snoc' {α : Type} (l : List α) (k : Nat) (x : α) (h : l[k]? = some x) : l.take (k + 1) = l.take k ++ [x] := by
  rw [List.take_add_one, h]; rfl

theorem sum_take (ps : List (List UInt8 × Bool)) (k : Nat) (hl : (ps.map fun p => p.1.length).sum < 800000) : ((ps.take k).map (·.1)).flatten.length < 800000 := by
  have h : (ps.map fun p => p.1.length).sum = ((ps.take k).map fun p => p.1.length).sum + ((ps.drop k).map fun p => p.1.length).sum := by
    rw [← List.sum_append, ← List.map_append, List.take_append_drop]
  rw [List.length_flatten, List.map_map]
  have e : ((ps.take k).map (List.length ∘ fun x => x.1)) = ((ps.take k).map fun p => p.1.length) := rfl
  rw [e]
  omega

set_option maxHeartbeats 4000000 in
theorem key_any (b : Nat) (cap : Nat) (fs : List Value) (ps : List (List UInt8 × Bool)) (w : World) (hn : fs.length = ps.length) (hlen : ps.length ≤ 100) (hcap : fs.length ≤ cap)
    (hc : ∀ j f, fs[j]? = some f → w.cell? ⟨b, j, none⟩ = some f) (hp : ∀ (j : Nat) (f : Value) (p : List UInt8 × Bool), fs[j]? = some f → ps[j]? = some p → IsPiece w f p.1 p.2)
    (hl : (ps.map fun p => p.1.length).sum < 800000) :
    Calls Tryd.prog 31 #[.slice (some ⟨b, 0, none⟩) fs.length cap] w fun e w' => e = .returned (.string ⟨(keyB ps).toArray⟩) ∧ Below w.heap.size w w' := by
  have hfl : fs.length ≤ 100 := by omega
  have HC := Lib.hid hc
  have HP := Lib.hid hp
  have HN := Lib.hid hn
  clear hc hp hn
  go_enter Tryd.func31, Tryd.ntmps31
  go_wp2_with fail
  go_loopw [3, 9] (fun bb i wr => ∃ k : Nat, k ≤ fs.length ∧ i = .int .i64 k ∧ RdB wr bb ((ps.take k).map (·.1)).flatten ∧ Hid ((ps.take k).all (·.2) = true) ∧ Below w.heap.size w wr)
      (fun _ i _ => fs.length - (intOf i).toNat)
  case atStart => exact ⟨0, Nat.zero_le _, rfl, RdB.nil _, (by simp [Hid]), Below.refl _ _⟩
  case round =>
    obtain ⟨k, hk, rfl, hbb, hall, hB⟩ := hrel
    by_cases hkl : k < fs.length
    · obtain ⟨f, hf⟩ : ∃ f, fs[k]? = some f := ⟨fs[k], by simp [hkl]⟩
      obtain ⟨p, hpk⟩ : ∃ p, ps[k]? = some p := ⟨ps[k]'(by rw [← HN.out]; exact hkl), by simp⟩
      have hpiece := HP.out k f p hf hpk
      have hcell := HC.out k f hf
      have hcell' := (hB.cell (World.block_lt_of_cell? w _ hcell)).trans hcell
      obtain ⟨fid, cp, rfl, hen, hcall⟩ := hpiece
      have HCALL := Lib.hid hcall
      have hlk := sum_take ps k hl
      have hte := take_snoc' ps k p hpk
      have HF := Lib.hid hf
      have HPK := Lib.hid hpk
      have HTE := Lib.hid hte
      clear hcall hf hpk hte
      by_cases hok : p.2 = true
      · go_wp2_with fail
        refine (HCALL.out _ _ _ hbb (by omega) hB).mono ?_
        rintro e w' ⟨v1, rfl, hv1, hB1⟩
        rw [hok]
        go_wp2
        go_roundw
        case rel =>
          refine ⟨k + 1, by omega, by go_num, ?_, ?_, hB.trans (hB1.mono hB.size)⟩
          · rw [HTE.out, List.map_append, List.flatten_append]
            simpa using hv1
          · show ((ps.take (k + 1)).all (·.2)) = true
            rw [HTE.out, List.all_append, hall.out]
            simp [hok]
        case measure => simp [intOf]; omega
      · have hok' : p.2 = false := by simpa using hok
        have HE : Hid (keyB ps = []) := by
          have : ps.all (·.2) = false := by
            rw [List.all_eq_false]
            exact ⟨p, List.mem_of_getElem? HPK.out, by simp [hok']⟩
          show keyB ps = []
          unfold keyB
          rw [if_neg (by rw [this]; simp)]
        clear hok
        go_wp2_with fail
        refine (HCALL.out _ _ _ hbb (by omega) hB).mono ?_
        rintro e w' ⟨v1, rfl, hv1, hB1⟩
        rw [hok']
        go_wp2
        go_ret
        refine ⟨?_, hB.trans (hB1.mono hB.size)⟩
        rw [HE.out]
        rfl
    · have hke : k = fs.length := by omega
      have HE : Hid (keyB ps = ((ps.take k).map (·.1)).flatten) := by
        have e1 : ps.take k = ps := List.take_of_length_le (by rw [hke, HN.out]; exact Nat.le_refl _)
        have h2 := hall.out
        rw [e1] at h2 ⊢
        show keyB ps = _
        unfold keyB
        rw [if_pos h2]
      have hcv := fun W (h : RdB W u3 ((ps.take k).map (·.1)).flatten) => h.str (P := Tryd.prog) 41 9 5 Tryd.underlying41 Tryd.underlying5 Tryd.underlying9
      have hcv1 := hcv _ hbb
      clear hcv hke
      go_wp2
      go_ret
      exact ⟨by rw [HE.out, List.map_take]; rfl, hB⟩
end Go.Proofs.YtdnnbnohemkfkaaDoor
