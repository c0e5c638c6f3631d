/- How many bytes a number needs: math/bits.Len64. -/
import Derived.Test.YtemngdhbicndlaaDoorVa2
namespace Go.Proofs.YtemngdhbicndlaaDoor
open Go.RowKit
set_option linter.unusedVariables false
set_option linter.unusedSimpArgs false

/-- How many bits a byte needs. -/
def len8 (i : Nat) : Nat := if i = 0 then 0 else if i < 2 then 1 else if i < 4 then 2 else if i < 8 then 3 else if i < 16 then 4 else if i < 32 then 5 else if i < 64 then 6 else if i < 128 then 7 else 8
theorem len8_b (i : Nat) : len8 i ≤ 8 ∧ (len8 i + 7) / 8 = if i = 0 then 0 else 1 := by
  unfold len8
  repeat' split
  all_goals omega
theorem tab_v (T : ByteArray) (hT : T.data.toList.map (·.toNat) = (List.range 256).map len8) (i : Nat) (hi : i < T.size) (h : i < 256) : (T[i]'hi).toNat = len8 i := by
  have h1 : (T.data.toList.map (·.toNat))[i]? = some (len8 i) := by rw [hT]; simp [h]
  have h2 : (T.data.toList.map (·.toNat))[i]? = some ((T[i]'hi).toNat) := by
    rw [List.getElem?_map, Array.getElem?_toList, Array.getElem?_eq_getElem hi]
    rfl
  rw [h1] at h2
  exact (Option.some.inj h2).symm
theorem w64_in (x : Int) (h0 : 0 ≤ x) (h1 : x < 1000) : wrap64 x = x := by unfold wrap64; omega
theorem len_end (T : ByteArray) (hT : T.data.toList.map (·.toNat) = (List.range 256).map len8) (N : Nat) (j c x : Nat) (hc : c = 8 * j) (hj7 : j ≤ 7) (hb : x < T.size) (hx : x < 256) (hn : nb N = nb x + j) :
    0 ≤ wrap64 ((c : Int) + wrap64 ((T[x]'hb).toNat : Int)) ∧ wrap64 ((c : Int) + wrap64 ((T[x]'hb).toNat : Int)) ≤ 64 ∧ (wrap64 ((c : Int) + wrap64 ((T[x]'hb).toNat : Int)) + 7) / 8 = nb N := by
  have hv := tab_v T hT x hb hx
  have h8 := len8_b x
  rw [nb_small hx] at hn
  rw [hv]
  clear hv hT
  generalize len8 x = v at h8 ⊢
  rw [w64_in v (by omega) (by omega), w64_in (c + v) (by omega) (by omega)]
  by_cases e : x = 0
  · rw [if_pos e] at hn h8
    omega
  · rw [if_neg e] at hn h8
    omega
theorem len_end0 (T : ByteArray) (hT : T.data.toList.map (·.toNat) = (List.range 256).map len8) (N x : Nat) (hb : x < T.size) (hx : x < 256) (hn : nb N = nb x) :
    0 ≤ wrap64 (wrap64 ((T[x]'hb).toNat : Int)) ∧ wrap64 (wrap64 ((T[x]'hb).toNat : Int)) ≤ 64 ∧ (wrap64 (wrap64 ((T[x]'hb).toNat : Int)) + 7) / 8 = nb N := by
  have h := len_end T hT N 0 0 x rfl (by omega) hb hx hn
  rwa [Int.natCast_zero, Int.zero_add] at h
theorem sh_1 {n : Int} (h : 256 ≤ n) : nb n.toNat = nb (n / 256).toNat + 1 := by
  rw [nb_shift 1 n.toNat (by omega)]; congr 2; omega
theorem sh_2 {n : Int} (h : 65536 ≤ n) : nb n.toNat = nb (n / 65536).toNat + 2 := by
  rw [nb_shift 2 n.toNat (by omega)]; congr 2; omega
theorem sh_4 {n : Int} (h : 4294967296 ≤ n) : nb n.toNat = nb (n / 4294967296).toNat + 4 := by
  rw [nb_shift 4 n.toNat (by omega)]; congr 2; omega
set_option maxRecDepth 100000 in
set_option maxHeartbeats 4000000 in
theorem len64_any (n : Int) (w : World) (h0 : 0 ≤ n) (h1 : n < 18446744073709551616) : Calls Tryd.prog 44 #[.int .u64 n] w fun e w' => ∃ L : Int, e = .returned (.int .i64 L) ∧ w = w' ∧ 0 ≤ L ∧ L ≤ 64 ∧ (L + 7) / 8 = nb n.toNat := by
  go_enter Tryd.func44, Tryd.ntmps44
  go_wp2_with fail
  all_goals
    go_ret
    refine ⟨_, rfl, rfl, ?_⟩
    first
    | exact len_end _ (by kernel_rfl) _ 7 56 _ (by decide) (by decide) _ (by omega) (by rw [sh_4 (by assumption), sh_2 (by assumption), sh_1 (by assumption)])
    | exact len_end _ (by kernel_rfl) _ 6 48 _ (by decide) (by decide) _ (by omega) (by rw [sh_4 (by assumption), sh_2 (by assumption)])
    | exact len_end _ (by kernel_rfl) _ 5 40 _ (by decide) (by decide) _ (by omega) (by rw [sh_4 (by assumption), sh_1 (by assumption)])
    | exact len_end _ (by kernel_rfl) _ 4 32 _ (by decide) (by decide) _ (by omega) (by rw [sh_4 (by assumption)])
    | exact len_end _ (by kernel_rfl) _ 3 24 _ (by decide) (by decide) _ (by omega) (by rw [sh_2 (by assumption), sh_1 (by assumption)])
    | exact len_end _ (by kernel_rfl) _ 2 16 _ (by decide) (by decide) _ (by omega) (by rw [sh_2 (by assumption)])
    | exact len_end _ (by kernel_rfl) _ 1 8 _ (by decide) (by decide) _ (by omega) (by rw [sh_1 (by assumption)])
    | exact len_end0 _ (by kernel_rfl) _ _ _ (by omega) rfl
end Go.Proofs.YtemngdhbicndlaaDoor
