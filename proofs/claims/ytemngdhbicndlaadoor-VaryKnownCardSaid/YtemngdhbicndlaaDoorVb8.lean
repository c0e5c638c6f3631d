/- Slices of fields; vary.Put. -/
import Derived.Test.YtemngdhbicndlaaDoorVb7
namespace Go.Proofs.YtemngdhbicndlaaDoor
open Go.RowKit
set_option linter.unusedVariables false
set_option linter.unusedSimpArgs false

theorem keepC {w w' : World} {a : Addr} {v : Value} (h : Below w.heap.size w w') (hc : w.cell? a = some v) : w'.cell? a = some v :=
  (h.cell (World.block_lt_of_cell? _ _ hc)).trans hc
/-- The value v is a slice that reads as these fields. -/
def RdV (w : World) (v : Value) (l : List Fd) : Prop :=
  ∃ (A : Option (Nat × Nat)) (c : Nat), v = .slice (A.map fun p => ⟨p.1, p.2, none⟩) l.length c ∧ l.length ≤ c ∧ (A = none → c = 0) ∧
    ∀ p, A = some p → ∀ (k : Nat) (f : Fd), l[k]? = some f → ∀ (j : Nat) (u : Value), (fdC f)[j]? = some u → w.cell? ⟨p.1, p.2 + k * 4 + j, none⟩ = some u
theorem RdV.nil (w : World) : RdV w (.slice none 0 0) [] := ⟨none, 0, rfl, Nat.le_refl _, fun _ => rfl, fun _ h => by cases h⟩
theorem RdV.below {w w1 : World} {v : Value} {l : List Fd} (h : RdV w v l) (hb : Below w.heap.size w w1) : RdV w1 v l := by
  obtain ⟨A, c, e, h1, h2, h3⟩ := h
  exact ⟨A, c, e, h1, h2, fun p hp k r hr j u hu => keepC hb (h3 p hp k r hr j u hu)⟩
theorem RdV.own {w : World} {base : Nat} {e : TypeId} {v : Value} {l : List Fd} (h : w.ownsRow base e 4 v l.length (l.flatMap fdC)) : RdV w v l := by
  rcases own_cells h with ⟨h1, h2⟩ | ⟨g, c, h1, h2, _, h3⟩
  · obtain rfl := List.eq_nil_of_length_eq_zero h2
    subst h1
    exact RdV.nil w
  · refine ⟨some (g, 0), c, h1, h2, (fun h => by cases h), fun p hp k r hr j u hu => ?_⟩
    obtain rfl : (g, 0) = p := by simpa using hp
    have hj : j < 4 := (List.getElem?_eq_some_iff.1 hu).1
    have f := flat_at fdC 4 (fun _ => rfl) j hj l k r hr
    show w.cell? ⟨g, 0 + k * 4 + j, none⟩ = some u
    rw [Nat.zero_add]
    exact h3 _ _ (f.trans hu)
theorem RdV.opn {w : World} {v : Value} {l : List Fd} (h : RdV w v l) : ∃ (a : Option Addr) (c : Nat), v = .slice a l.length c ∧ l.length ≤ c ∧ ∀ (k : Nat) (r : Fd), l[k]? = some r → ∃ b o, a = some ⟨b, o, none⟩ ∧ ∀ (j : Nat) (u : Value), (fdC r)[j]? = some u → w.cell? ⟨b, o + k * 4 + j, none⟩ = some u := by
  obtain ⟨A, c, rfl, h1, h2, h3⟩ := h
  refine ⟨_, c, rfl, h1, fun k x hx => ?_⟩
  cases A with
  | none =>
    have := (List.getElem?_eq_some_iff.1 hx).1
    have := h2 rfl
    omega
  | some p => exact ⟨p.1, p.2, rfl, h3 p rfl k x hx⟩
theorem kept_box {e : TypeId} {w w' : World} (h : KeptT e w w') {b : Nat} {cs : Array Value} {t : TypeId} (hb : w.heap[b]? = some (.cells cs t (0, 0))) (ht : t ≠ e) : w'.heap[b]? = some (.cells cs t (0, 0)) := h.block _ _ _ _ hb ht
theorem box_S {w : World} {b : Nat} {v0 v1 v2 v3 : Value} {t : TypeId} (h : w.heap[b]? = some (.cells #[v0, v1, v2, v3] t (0, 0))) :
    w.cell? ⟨b, 0, none⟩ = some v0 ∧ w.cell? ⟨b, 1, none⟩ = some v1 ∧ w.cell? ⟨b, 2, none⟩ = some v2 ∧ w.cell? ⟨b, 3, none⟩ = some v3 ∧ w.heap[b]? = some (.cells #[v0, v1, v2, v3] t (0, 0)) :=
  ⟨cell_of_row _ _ 0 _ _ _ h, cell_of_row _ _ 1 _ _ _ h, cell_of_row _ _ 2 _ _ _ h, cell_of_row _ _ 3 _ _ _ h, h⟩
theorem below_box {w w' : World} {b : Nat} {o : Obj} (h : Below w.heap.size w w') (hb : w.heap[b]? = some o) : w'.heap[b]? = some o :=
  (h.block b (by
    rcases Nat.lt_or_ge b w.heap.size with h' | h'
    · exact h'
    · rw [Array.getElem?_eq_none h'] at hb
      cases hb)).trans hb
/-- A tag's byte. -/
def tagB (f : Fd) : UInt8 := UInt8.ofNat (headN f)
theorem fieldL_t {f : Fd} (h : f.isT = true) : fieldL f = tagB f :: (numL f.s.size ++ f.s.data.toList) := by
  unfold fieldL tagB headN
  rw [if_pos h, if_pos h]
theorem fieldL_n {f : Fd} (h : f.isT = false) : fieldL f = tagB f :: numL f.n := by
  unfold fieldL tagB headN
  rw [h]
  rfl
theorem tagB_is {f : Fd} (hf : mayF f = true) (y : Int) (hy : y = 2 * f.tag + (if f.isT then 1 else 0)) : y = ((tagB f).toNat : Int) := by
  obtain ⟨h1, h2⟩ := may_tag hf
  unfold tagB headN
  cases h : f.isT with
  | true =>
    rw [h] at hy
    simp only [if_true] at hy ⊢
    rw [toNat_of _ (by omega)]
    omega
  | false =>
    rw [h] at hy
    simp only [Bool.false_eq_true, if_false] at hy ⊢
    rw [toNat_of _ (by omega)]
    omega
theorem flat_len : ∀ (l : List Fd), (∀ f ∈ l, f.Ok) → (flatL l).length ≤ l.length * 2010
  | [], _ => by simp [flatL]
  | f :: l, h => by
    rw [flatL_cons, List.length_append, List.length_cons, Nat.succ_mul]
    have h1 := (fieldL_len f (h f List.mem_cons_self)).2
    have h2 := flat_len l (fun g hg => h g (List.mem_cons_of_mem _ hg))
    omega
theorem flat_take_len {l : List Fd} {k : Nat} (hl : l.length ≤ 32) (h : ∀ f ∈ l.take k, f.Ok) : (flatL (l.take k)).length ≤ 64320 := by
  have h1 := flat_len _ h
  have h2 : (l.take k).length ≤ 32 := by rw [List.length_take]; omega
  omega
theorem ok_at1 {l : List Fd} {k : Nat} {f : Fd} (h : ∀ f ∈ l.take k, f.Ok) (hf : l[k]? = some f) (hok : f.Ok) : ∀ f ∈ l.take (k + 1), f.Ok := by
  rw [take_at hf]
  intro g hg
  rcases List.mem_append.1 hg with hg | hg
  · exact h g hg
  · have e : g = f := by simpa using hg
    rw [e]
    exact hok

set_option maxRecDepth 100000 in
set_option maxHeartbeats 8000000 in
theorem put_any (l : List Fd) (v : Value) (w : World) (hv : RdV w v l) (hn : ∀ f ∈ l, f.n < 18446744073709551616) (hml : l.length ≤ maxLen) :
    Calls Tryd.prog 16 #[v] w fun e w' => e = .returned (.tuple #[.string ⟨(putL l).toArray⟩, .int .i64 (putC l)]) ∧ Below w.heap.size w w' := by
  obtain ⟨a, c, rfl, hc, hr⟩ := hv.opn
  have HR := Lib.hid hr
  have HN := Lib.hid hn
  clear hr hn hv
  by_cases h32 : 32 < l.length
  · have hp : putC l = 4 := if_pos h32
    have hq : putL l = [] := if_neg (by rw [hp]; decide)
    rw [hp, hq]
    go_enter Tryd.func16, Tryd.ntmps16
    go_wp2_with fail
    go_ret2
    exact ⟨rfl, by go_grown⟩
  have hp : putC l = codeL 0 l := if_neg h32
  have HP := Lib.hid hp
  clear hp
  have h32' : l.length ≤ 32 := by omega
  clear h32
  go_enter Tryd.func16, Tryd.ntmps16
  go_wp2_with fail
  go_loopw [4, 5, 13] (fun bv_ tv kv wr => ∃ (k : Nat), k ≤ l.length ∧ kv = .int .i64 k ∧ tv = .int .i64 (lastT 0 (l.take k)) ∧ Hid (PutI l k) ∧ Hid (∀ f ∈ l.take k, f.Ok) ∧ Hid (wr.ownsRow w.heap.size 5 1 bv_ (flatL (l.take k)).length (bv (flatL (l.take k)))) ∧ Hid (Below w.heap.size w wr)) (fun _ _ kv _ => l.length - (intOf kv).toNat)
  case atStart => exact ⟨0, Nat.zero_le _, rfl, rfl, PutI.start l, (fun f hf => by cases hf), World.ownsRow_nil _ _ _ _, Below.refl _ _⟩
  case round =>
    obtain ⟨k, hk, rfl, rfl, HI, HK, HO, HB⟩ := hrel
    by_cases hkl : k < l.length
    · obtain ⟨f, hf⟩ : ∃ f, l[k]? = some f := ⟨l[k], List.getElem?_eq_getElem hkl⟩
      obtain ⟨b, o, rfl, hcs⟩ := HR.out k f hf
      have c0 := keepC HB.out (hcs 0 _ rfl)
      have c1 := keepC HB.out (hcs 1 _ rfl)
      have c2 := keepC HB.out (hcs 2 _ rfl)
      have c3 := keepC HB.out (hcs 3 _ rfl)
      rw [Nat.add_zero] at c0
      have HF := Lib.hid hf
      have HAT := Lib.hid (HI.out.at hf)
      have hmem := HN.out f (List.mem_of_getElem? hf)
      have HMN := Lib.hid hmem
      obtain ⟨last, hlast⟩ : ∃ last, last = lastT 0 (l.take k) := ⟨_, rfl⟩
      rw [← hlast] at HAT ⊢
      have HL := Lib.hid hlast
      clear hf hcs hlast hmem
      have HBX : Hid ((wr.alloc (.cells #[.int .i64 f.tag, .bool f.isT, .int .u64 (f.n : Nat), .string f.s] 50)).heap[wr.heap.size]? = some (.cells #[.int .i64 f.tag, .bool f.isT, .int .u64 (f.n : Nat), .string f.s] 50 (0, 0))) := heap_alloc_new _ _
      have HMay := Lib.hid (may_any f (wr.alloc (.cells #[.int .i64 f.tag, .bool f.isT, .int .u64 (f.n : Nat), .string f.s] 50)))
      go_wp2_with fail
      refine HMay.out.mono ?_
      rintro e w2 ⟨rfl, hB2⟩
      have hbx := below_box hB2 HBX.out
      obtain ⟨k0, k1, k2, k3, _⟩ := box_S hbx
      have HBX2 := Lib.hid hbx
      have HB2 := Lib.hid (bstep7 HB.out (((Below.refl wr.heap.size wr).alloc (Nat.le_refl _) _).trans (hB2.mono (by simp))))
      have HO2 := Lib.hid (own_kept (own_kept HO.out ((Below.refl _ _).alloc (Nat.le_refl _) _)) hB2)
      have hsz2 : wr.heap.size ≤ w2.heap.size := by have := hB2.size; simp at this; omega
      have HS2 := Lib.hid hsz2
      clear hbx hB2 HBX HMay HO hsz2 c0 c1 c2 c3
      cases hm : mayF f with
      | false =>
        have hcode : Hid (putC l = 2) := by
          show putC l = 2
          rw [HP.out, HAT.out, if_pos hm]
        clear hm
        go_wp2_with fail
        go_ret2
        refine ⟨?_, HB2.out⟩
        rw [hcode.out, show putL l = [] from if_neg (by rw [hcode.out]; decide)]
        rfl
      | true =>
        have HMT := Lib.hid hm
        clear hm
        by_cases ht : f.tag ≤ last
        · have hcode : Hid (putC l = 7) := by
            show putC l = 7
            rw [HP.out, HAT.out, if_neg (by rw [HMT.out]; decide), if_pos ht]
          go_wp2_with fail
          go_ret2
          refine ⟨?_, HB2.out⟩
          rw [hcode.out, show putL l = [] from if_neg (by rw [hcode.out]; decide)]
          rfl
        by_cases hs : 2000 < f.s.size
        · have hcode : Hid (putC l = 4) := by
            show putC l = 4
            rw [HP.out, HAT.out, if_neg (by rw [HMT.out]; decide), if_neg ht, if_pos hs]
          go_wp2_with fail
          go_ret2
          refine ⟨?_, HB2.out⟩
          rw [hcode.out, show putL l = [] from if_neg (by rw [hcode.out]; decide)]
          rfl
        have HNX := Lib.hid (HI.out.next HF.out HMT.out (by rw [← HL.out]; exact ht) hs)
        have hok : f.Ok := ⟨HMT.out, by omega, HMN.out⟩
        have HKN := Lib.hid (ok_at1 HK.out HF.out hok)
        have HFL := Lib.hid (flat_take_len h32' HK.out)
        have HFE := Lib.hid (flat_at1 HF.out)
        have HLT : Hid (f.tag = lastT 0 (l.take (k + 1))) := by
          show f.tag = _
          rw [take_at HF.out, lastT_snoc]
        have hbase : w.heap.size ≤ w2.heap.size := HB2.out.size
        obtain ⟨htag0, htag1⟩ := may_tag HMT.out
        have hs2 : f.s.size ≤ 2000 := by omega
        have hlt : last < f.tag := by omega
        clear hs ht
        cases hT : f.isT with
        | true =>
          have HTB : Hid (IntKind.u8.wrap (IntKind.i64.wrap (IntKind.i64.wrap (2 * f.tag) + 1)) = ((tagB f).toNat : Int)) := by
            show _ = _
            rw [IntKind.wrap_i64, IntKind.wrap_i64, IntKind.wrap_u8, ← tagB_is HMT.out (2 * f.tag + 1) (by rw [hT]; rfl)]
            omega
          have HFT := Lib.hid (fieldL_t hT)
          have hnb := nb_lt 2 f.s.size (by omega)
          have hws : IntKind.u64.wrap ((f.s.size : Nat) : Int) = ((f.s.size : Nat) : Int) := by rw [IntKind.wrap_u64]; omega
          rw [hT] at k1
          go_wp2_with fail
          go_region_held3 (fun w' => w'.cell? ⟨wr.heap.size, 0, none⟩ = some (.int .i64 f.tag) ∧ w'.cell? ⟨wr.heap.size, 1, none⟩ = some (.bool f.isT) ∧ w'.cell? ⟨wr.heap.size, 2, none⟩ = some (.int .u64 (f.n : Nat)) ∧ w'.cell? ⟨wr.heap.size, 3, none⟩ = some (.string f.s) ∧ w'.heap[wr.heap.size]? = some (.cells #[.int .i64 f.tag, .bool f.isT, .int .u64 (f.n : Nat), .string f.s] 50 (0, 0)))
            (first | (exact box_S (w := w2.drew) HBX2.out) | (exact box_S (kept_box hkA (‹_ ∧ _ ∧ _ ∧ _ ∧ _›).2.2.2.2 (by decide))) | (exact box_S (kept_box (KeptT.alloc 5 _ _) (‹_ ∧ _ ∧ _ ∧ _ ∧ _›).2.2.2.2 (by decide))))
            (first
              | (go_at_call 30; refine (number_any w.heap.size _ _ f.s.size _ (by omega) hO3 hB3 (by simp at hs3; omega) (by have := HFL.out; simp; omega)).mono ?_; clear hkA; rintro e w4 ⟨v4, rfl, hO4, hB4, hkA, hs4⟩)
              | (refine step_byte w.heap.size rfl (.tmp 35) (.tmp 41) 60 5 rfl Tryd.underlying60 info_u8 _ _ _ (tagB f) HTB.out rfl rfl (heap_alloc_new w2 (.cells #[.int .u8 (IntKind.u8.wrap (IntKind.i64.wrap (IntKind.i64.wrap (2 * f.tag) + 1)))] 5)) (HO2.out.alloc _).drew (HB2.out.alloc hbase _).drew (by simp; omega) (by have := HFL.out; omega) ?_; intro v3 w3 hO3 hB3 hkA hs3)
              | (refine step_str w.heap.size rfl (.tmp 47) (.tmp 49) 60 5 9 rfl Tryd.underlying60 Tryd.underlying9 info_u8 _ _ rfl f.s rfl hO4 hB4 (by simp at hs3; omega) (by have := HFL.out; simp [numL_len]; omega) ?_; clear hkA; intro v5 w5 hO5 hB5 hkA hs5))
          rw [List.append_assoc, List.append_assoc, List.singleton_append, ← HFT.out, ← HFE.out] at hO5
          have HO5 := Lib.hid hO5
          have HB5 := Lib.hid hB5
          clear hO3 hB3 hs3 hO4 hB4 hs4 hO5 hB5 hkA hs5
          go_wp2_with fail
          go_roundw
          case rel => exact ⟨k + 1, by omega, by go_num, by rw [HLT.out], HNX.out, HKN.out, HO5.out, HB5.out⟩
          case measure => simp [intOf]; omega
        | false =>
          have HTB : Hid (IntKind.u8.wrap (IntKind.i64.wrap (2 * f.tag)) = ((tagB f).toNat : Int)) := by
            show _ = _
            rw [IntKind.wrap_i64, IntKind.wrap_u8, ← tagB_is HMT.out (2 * f.tag) (by rw [hT]; simp)]
            omega
          have HFT := Lib.hid (fieldL_n hT)
          rw [hT] at k1
          go_wp2_with fail
          go_region_held3 (fun w' => w'.cell? ⟨wr.heap.size, 0, none⟩ = some (.int .i64 f.tag) ∧ w'.cell? ⟨wr.heap.size, 1, none⟩ = some (.bool f.isT) ∧ w'.cell? ⟨wr.heap.size, 2, none⟩ = some (.int .u64 (f.n : Nat)) ∧ w'.cell? ⟨wr.heap.size, 3, none⟩ = some (.string f.s) ∧ w'.heap[wr.heap.size]? = some (.cells #[.int .i64 f.tag, .bool f.isT, .int .u64 (f.n : Nat), .string f.s] 50 (0, 0)))
            (first | (exact box_S (w := w2.drew) HBX2.out) | (exact box_S (kept_box hkA (‹_ ∧ _ ∧ _ ∧ _ ∧ _›).2.2.2.2 (by decide))) | (exact box_S (kept_box (KeptT.alloc 5 _ _) (‹_ ∧ _ ∧ _ ∧ _ ∧ _›).2.2.2.2 (by decide))))
            (first
              | (go_at_call 30; refine (number_any w.heap.size _ _ f.n _ HMN.out hO3 hB3 (by simp at hs3; omega) (by have := HFL.out; simp; omega)).mono ?_; clear hkA; rintro e w4 ⟨v4, rfl, hO4, hB4, hkA, hs4⟩)
              | (refine step_byte w.heap.size rfl (.tmp 51) (.tmp 56) 60 5 rfl Tryd.underlying60 info_u8 _ _ _ (tagB f) HTB.out rfl rfl (heap_alloc_new w2 (.cells #[.int .u8 (IntKind.u8.wrap (IntKind.i64.wrap (2 * f.tag)))] 5)) (HO2.out.alloc _).drew (HB2.out.alloc hbase _).drew (by simp; omega) (by have := HFL.out; omega) ?_; intro v3 w3 hO3 hB3 hkA hs3))
          rw [List.append_assoc, List.singleton_append, ← HFT.out, ← HFE.out] at hO4
          have HO4 := Lib.hid hO4
          have HB4 := Lib.hid hB4
          clear hO3 hB3 hs3 hO4 hB4 hs4 hkA
          go_wp2_with fail
          go_roundw
          case rel => exact ⟨k + 1, by omega, by go_num, by rw [HLT.out], HNX.out, HKN.out, HO4.out, HB4.out⟩
          case measure => simp [intOf]; omega
    · obtain rfl : k = l.length := by omega
      have h0 : Hid (putC l = 0) := by show putC l = 0; rw [HP.out]; exact HI.out.all
      have hcv := (RdB.own HO.out).str (P := Tryd.prog) 60 9 5 Tryd.underlying60 Tryd.underlying5 Tryd.underlying9
      go_wp2_with fail
      go_ret2
      refine ⟨?_, HB.out⟩
      rw [h0.out, putL_of h0.out, List.take_length]
      rfl
end Go.Proofs.YtemngdhbicndlaaDoor
