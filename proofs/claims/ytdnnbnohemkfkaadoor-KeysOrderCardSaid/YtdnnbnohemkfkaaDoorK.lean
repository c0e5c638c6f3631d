/- keys.End. -/
import Derived.Test.YtdnnbnohemkfkaaDoorH
namespace Go.Proofs.YtdnnbnohemkfkaaDoor
open Go.RowKit
set_option linter.unusedVariables false

/-- Without the bytes 255 at the end. -/
def strip (l : List UInt8) : List UInt8 := (l.reverse.dropWhile (· == 255)).reverse
/-- The least text above all that begin with one. -/
def kEnd (l : List UInt8) : List UInt8 := if strip l = [] then [] else (strip l).dropLast ++ [(strip l).getLastD 0 + 1]

theorem strip_255 (l : List UInt8) : strip (l ++ [255]) = strip l := by simp [strip]
theorem strip_other (l : List UInt8) (x : UInt8) (h : x ≠ 255) : strip (l ++ [x]) = l ++ [x] := by
  simp [strip, h]

theorem slice_to {P : Program} (t e : TypeId) (ht : P.underlying t = some (.slice e)) (hinfo : (P.info? e).map (fun i => (i.zero, i.size, i.bytes)) = some (some (.int .u8 0), 1, 1)) (b o len n c : Nat) (hn : n ≤ c) (W : World) :
    (Instr.slice t (.slice (some ⟨b, o, none⟩) len c) none (some (.int .i64 (n : Int))) none).run P W = .ok (.slice (some ⟨b, o, none⟩) n c) W := by
  obtain ⟨i0, hi, hz0, hz1, hz2⟩ := info_parts hinfo
  have ht' : P.underlying t = some (.slice (P.elem t)) := by simp [Program.elem, ht]
  have he : P.elem t = e := by simp [Program.elem, ht]
  rw [run_slice_h W t (some ⟨b, o, none⟩) len c ht' .i64 (n : Int) (by omega) (by omega), he]
  have hz : (Go.sizeOf e).run P W = .ok 1 W := by simp [Go.sizeOf, typeInfo, hi, hz1]
  rw [hz]
  simp only [Result.andThen, sliced]
  congr 2
  · split
    · rfl
    · simp [Addr.add]

def slen : Value → Nat | .slice _ n _ => n | _ => 0

theorem bytesWorld_below (w : World) (e : TypeId) (s : ByteArray) : Below w.heap.size w (Lib.bytesWorld w e s) :=
  ⟨rfl, rfl, rfl, by rw [Lib.bytesWorld_size]; omega, fun k hk => Lib.bytesWorld_at_old w e s k hk⟩

theorem bytesCells_size (w : World) (e : TypeId) (s : ByteArray) : s.size ≤ (Lib.bytesCells w e s).size := by
  unfold Lib.bytesCells
  rw [Array.size_append, Array.size_map]
  exact Nat.le_add_right _ _

theorem bytesWorld_frozen (w : World) (e : TypeId) (s : ByteArray) (j : Nat) (hj : j < s.size) : (Lib.bytesWorld w e s).frozen? ⟨w.heap.size, j, none⟩ = false := by
  have h1 := Lib.bytesWorld_at_new w e s
  have h2 := bytesCells_size w e s
  simp [World.frozen?, h1]
  omega

set_option maxRecDepth 100000 in
set_option maxHeartbeats 4000000 in
theorem end_any (s : ByteArray) (w : World) (hs : s.size ≤ 140737488351232) : Calls Tryd.prog 23 #[.string s] w fun e w' => e = .returned (.string ⟨(kEnd s.data.toList).toArray⟩) ∧ Below w.heap.size w w' := by
  have hcv := Lib.run_convert_string_bytes (P := Tryd.prog) w 9 41 5 s Tryd.underlying9 Tryd.underlying41 Tryd.underlying5
  have hge := grownCap_ge w s.size 0 5
  obtain ⟨C, hC⟩ : ∃ C, C = grownCap w s.size 0 5 := ⟨_, rfl⟩
  rw [← hC] at hcv hge
  clear hC
  have hsz := size_toList s
  have hB : Below w.heap.size w (Lib.bytesWorld w 5 s) := bytesWorld_below w 5 s
  have hcell : ∀ j, j < s.size → (Lib.bytesWorld w 5 s).cell? ⟨w.heap.size, j, none⟩ = some (.int .u8 (s.data.toList.getD j 0).toNat) := fun j hj => Lib.bytesWorld_cell w 5 s j hj
  have hfroz : ∀ j, j < s.size → (Lib.bytesWorld w 5 s).frozen? ⟨w.heap.size, j, none⟩ = false := fun j hj => bytesWorld_frozen w 5 s j hj
  obtain ⟨W, hW⟩ : ∃ W, W = Lib.bytesWorld w 5 s := ⟨_, rfl⟩
  rw [← hW] at hcv hcell hfroz hB
  clear hW
  have HC := Lib.hid hcell
  have HF := Lib.hid hfroz
  have HZ := Lib.hid hsz
  have HS0 : Hid (strip s.data.toList = strip (s.data.toList.take s.size)) := by show strip _ = strip _; rw [List.take_of_length_le (by omega)]
  clear hcell hfroz hsz
  go_enter Tryd.func23, Tryd.ntmps23
  go_wp2_with fail
  go_loopw [3] (fun b wr => ∃ n : Nat, n ≤ s.size ∧ b = .slice (some ⟨w.heap.size, 0, none⟩) n C ∧ Hid (strip s.data.toList = strip (s.data.toList.take n)) ∧ wr = W) (fun b _ => slen b)
  case atStart => exact ⟨s.size, Nat.le_refl _, rfl, HS0, rfl⟩
  case round =>
    obtain ⟨n, hn, rfl, hst, rfl⟩ := hrel
    rcases n with _ | m
    · have HE : Hid (kEnd s.data.toList = []) := by
        show kEnd _ = []
        unfold kEnd
        rw [hst.out]
        rfl
      go_wp2
      go_ret
      exact ⟨by rw [HE.out]; rfl, hB⟩
    · obtain ⟨x, hx⟩ : ∃ x : UInt8, s.data.toList[m]? = some x := ⟨s.data.toList[m]'(by rw [HZ.out]; omega), List.getElem?_eq_getElem _⟩
      have hx2 : s.data.toList.getD m 0 = x := by rw [List.getD_eq_getElem?_getD, hx]; rfl
      have c0 := HC.out m (by omega)
      have f0 := HF.out m (by omega)
      rw [hx2] at c0
      have htk : s.data.toList.take (m + 1) = s.data.toList.take m ++ [x] := by rw [List.take_add_one, hx]; rfl
      have hxl := x.toNat_lt
      by_cases h255 : x = 255
      · have bx : ((x.toNat : Int) == 255) = true := by rw [h255]; rfl
        have HST : Hid (strip s.data.toList = strip (s.data.toList.take m)) := by
          show strip _ = strip _
          rw [hst.out, htk, h255, strip_255]
        have hsl := slice_to (P := Tryd.prog) 41 5 Tryd.underlying41 info_u8 w.heap.size 0 (m + 1) m C (by omega) wr
        clear hst hx hx2 htk h255
        go_wp2_with fail
        exact ⟨⟨m, by omega, rfl, HST, trivial⟩, Nat.lt_succ_self m⟩
      · have bx : ((x.toNat : Int) == 255) = false := by
          simp only [beq_eq_false_iff_ne, ne_eq]
          intro h
          exact h255 (UInt8.toNat_inj.1 (by simp; omega))
        have hne : x.toNat ≠ 255 := by
          intro h
          exact h255 (UInt8.toNat_inj.1 (by simp; omega))
        have HE : Hid (kEnd s.data.toList = s.data.toList.take m ++ [x + 1]) := by
          show kEnd _ = _
          unfold kEnd
          rw [hst.out, htk, strip_other _ _ h255]
          simp
        have hlt : (x.toNat : Int) + 1 < 256 := by omega
        have hcv2 : (convert 41 9 (.slice (some ⟨w.heap.size, 0, none⟩) (m + 1) C)).run Tryd.prog (wr.setCell ⟨w.heap.size, m, none⟩ (.int .u8 ((x.toNat : Int) + 1))) = .ok (.string ⟨(s.data.toList.take m ++ [x + 1]).toArray⟩) (wr.setCell ⟨w.heap.size, m, none⟩ (.int .u8 ((x.toNat : Int) + 1))) := by
          have hr : RdB (wr.setCell ⟨w.heap.size, m, none⟩ (.int .u8 ((x.toNat : Int) + 1))) (.slice (some ⟨w.heap.size, 0, none⟩) (m + 1) C) (s.data.toList.take m ++ [x + 1]) := by
            have hlen : (s.data.toList.take m ++ [x + 1]).length = m + 1 := by simp; have := HZ.out; omega
            refine ⟨some (w.heap.size, 0), C, by rw [hlen]; rfl, by omega, (fun h => by cases h), fun p hp j u hu => ?_⟩
            obtain rfl : (w.heap.size, 0) = p := by simpa using hp
            have hj : j < m + 1 := by
              have h1 := (List.getElem?_eq_some_iff.1 hu).1
              rw [bv_length, hlen] at h1
              exact h1
            show (wr.setCell ⟨w.heap.size, m, none⟩ (.int .u8 ((x.toNat : Int) + 1))).cell? ⟨w.heap.size, 0 + j, none⟩ = some u
            rw [Nat.zero_add]
            rw [bv_append, bv_one] at hu
            have hbl : (bv (s.data.toList.take m)).length = m := by rw [bv_length, List.length_take]; have := HZ.out; omega
            by_cases hjm : j = m
            · subst hjm
              rw [List.getElem?_append_right (by omega), hbl, Nat.sub_self] at hu
              simp only [List.getElem?_cons_zero, Option.some.injEq] at hu
              rw [World.cell?_setCell_same (h := c0), ← hu]
              congr 2
              have : (x + 1).toNat = x.toNat + 1 := by rw [UInt8.toNat_add]; simp <;> omega
              rw [this]; omega
            · rw [World.cell?_setCell_other (h := by simp <;> omega), HC.out j (by omega), ← hu, List.getElem?_append_left (by omega)]
              have hjl : j < s.data.toList.length := by rw [HZ.out]; omega
              unfold bv
              rw [List.getElem?_map, List.getElem?_take_of_lt (by omega), List.getElem?_eq_getElem hjl, List.getD_eq_getElem?_getD, List.getElem?_eq_getElem hjl]
              rfl
          exact hr.str 41 9 5 Tryd.underlying41 Tryd.underlying5 Tryd.underlying9
        clear hst hx hx2 htk h255 hne
        go_wp2_with fail
        go_ret
        exact ⟨by rw [HE.out]; rfl, hB.setCell (Nat.le_refl _) _⟩
end Go.Proofs.YtdnnbnohemkfkaaDoor
