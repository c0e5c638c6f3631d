/- The reference of layer 1: a number's bytes, a text's. -/
import Derived.Test.YtbnnemiiodhjbaaDoorC
import Derived.Deep.RegionHeld3
import Derived.Deep.RegionWith
namespace Go.Proofs.YtbnnemiiodhjbaaDoor
open Go.RowKit
set_option linter.unusedVariables false

theorem beB_len (k : Nat) : ∀ n, (beB k n).length = k := by
  induction k with
  | zero => intro n; rfl
  | succ k ih => intro n; simp [beB, ih]

theorem keep1 {w w' : World} {y : Value} {t : TypeId} (h : Below (w.alloc (.cells #[y] t)).drew.heap.size (w.alloc (.cells #[y] t)).drew w') : w'.cell? ⟨w.heap.size, 0, none⟩ = some y := by
  have hc : (w.alloc (.cells #[y] t)).cell? ⟨w.heap.size, 0, none⟩ = some y := by
    rw [cell_of_row _ _ 0 _ _ _ (heap_alloc_new w _)]; rfl
  exact (h.cell (World.block_lt_of_cell? _ _ hc)).trans hc

theorem below_alloc' {w w' : World} {o : Obj} (h : Below (w.alloc o).drew.heap.size (w.alloc o).drew w') : Below w.heap.size w w' := ((Below.refl _ _).alloc (Nat.le_refl _) _).trans ((of_drew h).mono (by show _ ≤ (w.alloc o).heap.size; simp))

theorem mk_app (a b : List UInt8) : ((⟨a.toArray⟩ : ByteArray) ++ ⟨b.toArray⟩) = ⟨(a ++ b).toArray⟩ := by
  apply ByteArray.ext
  simp
theorem ret_app {a b c : List UInt8} (h : c = a ++ b) : Ending.returned (.string (⟨a.toArray⟩ ++ ⟨b.toArray⟩)) = Ending.returned (.string ⟨c.toArray⟩) := by rw [h, mk_app]
theorem ret_app' {a c : List UInt8} (s : ByteArray) (h : c = a ++ s.data.toList) : Ending.returned (.string (⟨a.toArray⟩ ++ s)) = Ending.returned (.string ⟨c.toArray⟩) := by
  have : s = ⟨s.data.toList.toArray⟩ := by cases s; simp
  rw [this, mk_app, h]

theorem str_one {P : Program} (src dst e : TypeId) (hs : P.underlying src = some (.slice e)) (he : P.underlying e = some (.int .u8)) (hd : P.underlying dst = some .string) (y : Int) (h0 : 0 ≤ y) (h1 : y < 256)
    (W : World) (b : Nat) (hc : W.cell? ⟨b, 0, none⟩ = some (.int .u8 y)) : (convert src dst (.slice (some ⟨b, 0, none⟩) 1 1)).run P W = .ok (.string ⟨[UInt8.ofNat y.toNat].toArray⟩) W := by
  have hr : RdB W (.slice (some ⟨b, 0, none⟩) 1 1) [UInt8.ofNat y.toNat] := by
    refine ⟨some (b, 0), 1, rfl, by simp, (fun h => by cases h), fun p hp j u hu => ?_⟩
    obtain rfl : (b, 0) = p := by simpa using hp
    match j, hu with
    | 0, hu =>
      simp [bv] at hu
      subst hu
      rw [hc]
      simp; omega
    | j + 1, hu => simp [bv] at hu
  exact hr.str src dst e hs he hd

theorem rd_lit (w : World) (t : TypeId) (y : Int) (h0 : 0 ≤ y) (h1 : y < 256) : RdB (w.alloc (.cells #[.int .u8 y] t)) (.slice (some ⟨w.heap.size, 0, none⟩) 1 1) [UInt8.ofNat y.toNat] := by
  refine ⟨some (w.heap.size, 0), 1, rfl, by simp, (fun h => by cases h), fun p hp j u hu => ?_⟩
  obtain rfl : (w.heap.size, 0) = p := by simpa using hp
  simp only [Nat.zero_add]
  rw [cell_of_row _ _ j _ _ _ (heap_alloc_new w _)]
  match j, hu with
  | 0, hu =>
    simp [bv] at hu
    subst hu
    simp; omega
  | j + 1, hu => simp [bv] at hu

set_option maxRecDepth 100000 in
set_option maxHeartbeats 4000000 in
theorem bytes_any (k : Nat) : ∀ (n : Int) (w : World), 0 ≤ n → n < 18446744073709551616 → k ≤ 100 → Calls Tryd.prog 9 #[.int .u64 n, .int .i64 k] w fun e w' => e = .returned (.string ⟨(beB k n.toNat).toArray⟩) ∧ Below w.heap.size w w' := by
  induction k with
  | zero =>
    intro n w h0 h1 hk
    go_enter Tryd.func9, Tryd.ntmps9
    go_wp2_with fail
    go_ret
    exact ⟨rfl, by go_grown⟩
  | succ k ih =>
    intro n w h0 h1 hk
    have IH := Lib.hid ih
    clear ih
    have hk1 : (((k + 1 : Nat) : Int) == 0) = false := by simp; omega
    have hk3 : ((k + 1 : Nat) : Int) - 1 = (k : Int) := by omega
    have hL : (beB k (n / 256).toNat).length ≤ 100 := by rw [beB_len]; omega
    have HE : Hid (beB (k + 1) n.toNat = beB k (n / 256).toNat ++ [UInt8.ofNat (n % 256).toNat]) := by
      show beB k (n.toNat / 256) ++ [UInt8.ofNat (n.toNat % 256)] = _
      congr 3 <;> omega
    have E1 : Hid (IntKind.u64.wrap (n.tdiv 256) = n / 256) := by
      show IntKind.u64.wrap (n.tdiv 256) = n / 256
      rw [Int.tdiv_eq_ediv_of_nonneg h0, IntKind.wrap_u64]; omega
    have E2 : Hid (IntKind.i64.wrap (k : Int) = k) := by
      show IntKind.i64.wrap (k : Int) = k
      rw [IntKind.wrap_i64]; omega
    have E3 : Hid (IntKind.u8.wrap (n.tmod 256) = ((n.toNat % 256 : Nat) : Int)) := by
      show IntKind.u8.wrap (n.tmod 256) = ((n.toNat % 256 : Nat) : Int)
      rw [Int.tmod_eq_emod_of_nonneg h0, IntKind.wrap_u8]; omega
    have hcv := str_one (P := Tryd.prog) 22 9 5 Tryd.underlying22 Tryd.underlying5 Tryd.underlying9 (IntKind.u8.wrap (n.tmod 256)) (by rw [E3.out]; omega) (by rw [E3.out]; omega)
    go_enter Tryd.func9, Tryd.ntmps9
    go_wp2_with fail
    go_region_with (go_at_call 9; rw [E1.out, E2.out]; refine (IH.out _ _ (by omega) (by omega) (by omega)).mono ?_; rintro e w' ⟨rfl, hB⟩; try have hcc := keep1 hB)
    all_goals go_wp2
    all_goals go_ret
    all_goals refine ⟨?_, by first | exact of_drew hB | exact (of_drew hB).alloc (of_drew hB).size _ | exact below_alloc' hB⟩
    all_goals exact ret_app HE.out

set_option maxRecDepth 100000 in
set_option maxHeartbeats 1000000 in
theorem rtext_any (s : ByteArray) (w : World) (hs : s.size ≤ 140737488351232) : Calls Tryd.prog 11 #[.string s] w fun e w' => e = .returned (.string ⟨(textB s.data.toList).toArray⟩) ∧ Below w.heap.size w w' := by
  have hsz : s.data.toList.length = s.size := by rw [Array.length_toList]; rfl
  by_cases h : 255 < (s.size : Int)
  · have HE : Hid (textB s.data.toList = []) := by show textB _ = []; unfold textB; rw [if_neg (by omega)]
    clear hsz
    go_enter Tryd.func11, Tryd.ntmps11
    go_wp2
    go_ret
    exact ⟨by rw [HE.out]; rfl, by go_grown⟩
  · have HE : Hid (textB s.data.toList = [UInt8.ofNat ((s.size : Int)).toNat] ++ s.data.toList) := by show textB _ = _; unfold textB; rw [if_pos (by omega), hsz]; rfl
    have h' : (s.size : Int) ≤ 255 := by omega
    clear hsz h
    have hcv := (rd_lit w 5 (s.size : Int) (by omega) (by omega)).str (P := Tryd.prog) 22 9 5 Tryd.underlying22 Tryd.underlying5 Tryd.underlying9
    go_enter Tryd.func11, Tryd.ntmps11
    go_wp2
    go_ret
    refine ⟨?_, by go_grown⟩
    have h2 := HE.out
    exact ret_app' s h2

end Go.Proofs.YtbnnemiiodhjbaaDoor
