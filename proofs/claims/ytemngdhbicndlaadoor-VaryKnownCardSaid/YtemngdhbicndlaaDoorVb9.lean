/- foyerref02.Put. -/
import Derived.Test.YtemngdhbicndlaaDoorVb8
import Derived.BigQuiet
import Derived.Deep.QuietTactic
namespace Go.Proofs.YtemngdhbicndlaaDoor
open Go.RowKit
set_option linter.unusedVariables false
set_option linter.unusedSimpArgs false

theorem str_one {P : Program} (src dst e : TypeId) (hs : P.underlying src = some (.slice e)) (he : P.underlying e = some (.int .u8)) (hd : P.underlying dst = some .string) (y : Int) (b0 : UInt8) (hy : y = (b0.toNat : Int))
    (W : World) (b : Nat) (hc : W.cell? ⟨b, 0, none⟩ = some (.int .u8 y)) : (convert src dst (.slice (some ⟨b, 0, none⟩) 1 1)).run P W = .ok (.string ⟨#[b0]⟩) W := by
  have hr : RdB W (.slice (some ⟨b, 0, none⟩) 1 1) [b0] := by
    refine ⟨some (b, 0), 1, rfl, by simp, (fun h => by cases h), fun p hp j u hu => ?_⟩
    obtain rfl : (b, 0) = p := by simpa using hp
    match j, hu with
    | 0, hu =>
      simp [bv] at hu
      subst hu
      rw [hc, hy]
    | j + 1, hu => simp [bv] at hu
  exact hr.str src dst e hs he hd
theorem keep1 {w w' : World} {y : Value} {t : TypeId} (h : Below (w.alloc (.cells #[y] t)).drew.heap.size (w.alloc (.cells #[y] t)).drew w') : w'.cell? ⟨w.heap.size, 0, none⟩ = some y := by
  have hc : (w.alloc (.cells #[y] t)).cell? ⟨w.heap.size, 0, none⟩ = some y := by
    rw [cell_of_row _ _ 0 _ _ _ (heap_alloc_new w _)]; rfl
  exact (h.cell (World.block_lt_of_cell? _ _ hc)).trans hc
theorem app_size (a b : ByteArray) : (a ++ b).size = a.size + b.size := ByteArray.size_append
theorem box_SB {w w' : World} {b : Nat} {v0 v1 v2 v3 : Value} {t : TypeId} (h : w'.heap[b]? = some (.cells #[v0, v1, v2, v3] t (0, 0))) (hB : Below w.heap.size w w') :
    w'.cell? ⟨b, 0, none⟩ = some v0 ∧ w'.cell? ⟨b, 1, none⟩ = some v1 ∧ w'.cell? ⟨b, 2, none⟩ = some v2 ∧ w'.cell? ⟨b, 3, none⟩ = some v3 ∧ w'.heap[b]? = some (.cells #[v0, v1, v2, v3] t (0, 0)) ∧ Below w.heap.size w w' := by
  obtain ⟨h0, h1, h2, h3, h4⟩ := box_S h
  exact ⟨h0, h1, h2, h3, h4, hB⟩
theorem below_ad {w X : World} {o : Obj} (h : Below w.heap.size w X.drew) : Below w.heap.size w (X.alloc o).drew := h.alloc (w := X.drew) h.size o
theorem cell_new (X : World) (y : Value) (t : TypeId) : (X.alloc (.cells #[y] t)).drew.cell? ⟨X.heap.size, 0, none⟩ = some y := by
  show (X.alloc (.cells #[y] t)).cell? ⟨X.heap.size, 0, none⟩ = some y
  rw [cell_of_row _ _ 0 _ _ _ (heap_alloc_new X _)]
  rfl
theorem below_any {w X : World} {o o' : Obj} (hx : w.heap.size ≤ X.heap.size) (h : Below w.heap.size w (X.alloc o)) : Below w.heap.size w (X.alloc o') :=
  ⟨h.os, h.tape, h.output, by have := h.size; simpa using this, fun k hk => by
    have q := h.block k hk
    rw [← q]
    simp only [World.alloc]
    rw [Array.getElem?_push_lt (by omega), Array.getElem?_push_lt (by omega)]⟩
theorem last_at {l : List Fd} {k : Nat} {g : Fd} (h : l[k]? = some g) : lastT 0 (l.take (k + 1)) = g.tag := by rw [take_at h, lastT_snoc]
set_option maxRecDepth 100000 in
set_option maxHeartbeats 8000000 in
theorem rput_any (l : List Fd) (v : Value) (w : World) (hv : RdV w v l) (hn : ∀ f ∈ l, f.n < 18446744073709551616) (hml : l.length ≤ maxLen) :
    Calls Tryd.prog 8 #[v] w fun e w' => e = .returned (.tuple #[.string ⟨(putL l).toArray⟩, .int .i64 (putC l)]) ∧ Below w.heap.size w w' := by
  obtain ⟨a, c, rfl, hc, hr⟩ := hv.opn
  have HR := Lib.hid hr
  have HN := Lib.hid hn
  clear hr hn hv
  by_cases h32 : 32 < l.length
  · have hp : putC l = 4 := if_pos h32
    have hq : putL l = [] := if_neg (by rw [hp]; decide)
    rw [hp, hq]
    go_enter Tryd.func8, Tryd.ntmps8
    go_wp2_with fail
    go_ret2
    exact ⟨rfl, by go_grown⟩
  have hp : putC l = codeL 0 l := if_neg h32
  have HP := Lib.hid hp
  clear hp
  have h32' : l.length ≤ 32 := by omega
  clear h32
  go_enter Tryd.func8, Tryd.ntmps8
  go_wp2_with fail
  go_loopw [4, 5] (fun sv kv wr => ∃ (k : Nat) (S : ByteArray), k ≤ l.length ∧ kv = .int .i64 k ∧ sv = .string S ∧ Hid (S = ⟨(flatL (l.take k)).toArray⟩) ∧ Hid (PutI l k) ∧ Hid (∀ f ∈ l.take k, f.Ok) ∧ Hid (Below w.heap.size w wr)) (fun _ kv _ => l.length - (intOf kv).toNat)
  case atStart => exact ⟨0, ⟨#[]⟩, Nat.zero_le _, rfl, rfl, rfl, PutI.start l, (fun f hf => by cases hf), Below.refl _ _⟩
  case round =>
    obtain ⟨k, S, hk, rfl, rfl, HSS, HI, HK, HB⟩ := hrel
    by_cases hkl : k < l.length
    · obtain ⟨f, hf⟩ : ∃ f, l[k]? = some f := ⟨l[k], List.getElem?_eq_getElem hkl⟩
      obtain ⟨b, o, rfl, hcs⟩ := HR.out k f hf
      have c0 := keepC HB.out (hcs 0 _ rfl)
      have c1 := keepC HB.out (hcs 1 _ rfl)
      have c2 := keepC HB.out (hcs 2 _ rfl)
      have c3 := keepC HB.out (hcs 3 _ rfl)
      rw [Nat.add_zero] at c0
      have HF := Lib.hid hf
      have HAT := Lib.hid (HI.out.at hf)
      have hmem := HN.out f (List.mem_of_getElem? hf)
      have HMN := Lib.hid hmem
      obtain ⟨last, hlast⟩ : ∃ last, last = lastT 0 (l.take k) := ⟨_, rfl⟩
      rw [← hlast] at HAT
      have HL := Lib.hid hlast
      clear hf hcs hlast hmem
      have HBX : Hid ((wr.alloc (.cells #[.int .i64 f.tag, .bool f.isT, .int .u64 (f.n : Nat), .string f.s] 50)).heap[wr.heap.size]? = some (.cells #[.int .i64 f.tag, .bool f.isT, .int .u64 (f.n : Nat), .string f.s] 50 (0, 0))) := heap_alloc_new _ _
      have HMay := Lib.hid (rmay_any f (wr.alloc (.cells #[.int .i64 f.tag, .bool f.isT, .int .u64 (f.n : Nat), .string f.s] 50)))
      go_wp2_with fail
      refine HMay.out.mono ?_
      rintro e w2 ⟨rfl, hB2⟩
      have hbx := below_box hB2 HBX.out
      obtain ⟨k0, k1, k2, k3, _⟩ := box_S hbx
      have HBX2 := Lib.hid hbx
      have HB2 := Lib.hid (bstep7 HB.out (((Below.refl wr.heap.size wr).alloc (Nat.le_refl _) _).trans (hB2.mono (by simp))))
      have hsz2 : wr.heap.size ≤ w2.heap.size := by have := hB2.size; simp at this; omega
      have HS2 := Lib.hid hsz2
      clear hbx hB2 HBX HMay hsz2 c0 c1 c2 c3
      cases hm : mayF f with
      | false =>
        have hcode : Hid (putC l = 2) := by
          show putC l = 2
          rw [HP.out, HAT.out, if_pos hm]
        clear hm
        go_wp2_with fail
        go_ret2
        refine ⟨?_, HB2.out⟩
        rw [hcode.out, show putL l = [] from if_neg (by rw [hcode.out]; decide)]
        rfl
      | true =>
        have HMT := Lib.hid hm
        obtain ⟨htag0, htag1⟩ := may_tag HMT.out
        clear hm
        rcases Nat.eq_zero_or_pos k with hk0 | hk0
        · subst hk0
          have hl0 : last = 0 := HL.out
          have HT : Hid (last < f.tag) := by show _ < _; omega
          have hgd : decide ((0 : Int) < ((0 : Nat) : Int)) = false := by decide
          go_wp2_with fail
          go_quiet (fail)
          have HBQ := Lib.hid (below_drewN HB2.out nq)
          have HBXQ : Hid ((w2.drewN nq).heap[wr.heap.size]? = _) := HBX2.out
          generalize w2.drewN nq = wq at HBQ HBXQ ⊢
          obtain ⟨z0, z1, z2, z3, _⟩ := box_S HBXQ.out
          have hS3 : ¬ 2000 < f.s.size ∨ 2000 < f.s.size := by omega
          rcases hS3 with hs | hs
          case inr =>
            have hcode : Hid (putC l = 4) := by
              show putC l = 4
              rw [HP.out, HAT.out, if_neg (by rw [HMT.out]; decide), if_neg (Int.not_le.2 HT.out), if_pos hs]
            go_wp2_with fail
            go_ret2
            refine ⟨?_, HBQ.out⟩
            rw [hcode.out, show putL l = [] from if_neg (by rw [hcode.out]; decide)]
            rfl
          have HNX := Lib.hid (HI.out.next HF.out HMT.out (by rw [← HL.out]; exact (Int.not_le.2 HT.out)) hs)
          have hok : f.Ok := ⟨HMT.out, by omega, HMN.out⟩
          have HKN := Lib.hid (ok_at1 HK.out HF.out hok)
          have HFL := Lib.hid (flat_take_len h32' HK.out)
          have HFE := Lib.hid (flat_at1 HF.out)
          have hs2 : f.s.size ≤ 2000 := by omega
          have hSS : S.size ≤ 64320 := by rw [HSS.out, mk_size]; exact HFL.out
          clear hs
          cases hT : f.isT with
          | true =>
            have hnb := nb_lt 2 f.s.size (by omega)
            have hws : IntKind.u64.wrap ((f.s.size : Nat) : Int) = ((f.s.size : Nat) : Int) := by rw [IntKind.wrap_u64]; omega
            obtain ⟨NS, hNS⟩ : ∃ NS, NS = numS f.s.size := ⟨_, rfl⟩
            have hNSz : NS.size ≤ 3 := by rw [hNS]; unfold numS; rw [mk_size, numL_len]; omega
            have HCN := Lib.hid (fun W => rnumber_any f.s.size W (by omega))
            rw [← hNS] at HCN
            obtain ⟨TB, hTB⟩ : ∃ TB : ByteArray, TB = ⟨#[tagB f]⟩ := ⟨_, rfl⟩
            have hTBz : TB.size = 1 := by rw [hTB]; rfl
            have hcv := str_one (P := Tryd.prog) 60 9 5 Tryd.underlying60 Tryd.underlying5 Tryd.underlying9 (IntKind.u8.wrap (IntKind.i64.wrap (IntKind.i64.wrap (2 * f.tag) + 1))) (tagB f) (by rw [IntKind.wrap_i64, IntKind.wrap_i64, IntKind.wrap_u8, ← tagB_is HMT.out (2 * f.tag + 1) (by rw [hT]; rfl)]; omega)
            rw [← hTB] at hcv
            obtain ⟨X1, hX1⟩ : ∃ X1, X1 = S ++ TB := ⟨_, rfl⟩
            have hz1 : X1.size ≤ 64330 := by rw [hX1, app_size]; omega
            obtain ⟨X2, hX2⟩ : ∃ X2, X2 = X1 ++ NS := ⟨_, rfl⟩
            have hz2 : X2.size ≤ 64340 := by rw [hX2, app_size]; omega
            obtain ⟨X3, hX3⟩ : ∃ X3, X3 = X2 ++ f.s := ⟨_, rfl⟩
            have ha1 : ∀ W, (Op.stringOp .add S TB).run Tryd.prog W = .ok (.string X1) W := fun W => by rw [hX1]; exact run_string_add_sum W _ _ (by omega)
            have ha2 : ∀ W, (Op.stringOp .add X1 NS).run Tryd.prog W = .ok (.string X2) W := fun W => by rw [hX2]; exact run_string_add_sum W _ _ (by omega)
            have ha3 : ∀ W, (Op.stringOp .add X2 f.s).run Tryd.prog W = .ok (.string X3) W := fun W => by rw [hX3]; exact run_string_add_sum W _ _ (by omega)
            have HX3 : Hid (X3 = ⟨(flatL (l.take (0 + 1))).toArray⟩) := by
              show X3 = _
              rw [HFE.out, fieldL_t hT, hX3, hX2, hX1, hTB, hNS, HSS.out]
              unfold numS
              rw [show (⟨#[tagB f]⟩ : ByteArray) = ⟨[tagB f].toArray⟩ from rfl, mk_app, mk_app]
              conv => lhs; rw [← mk_list f.s]
              rw [mk_app]
              simp
            clear hX1 hX2 hX3 hTB hNS
            rw [hT] at z1
            go_wp2_with fail
            refine wp_region_held_drew (S := (fun w' => w'.cell? ⟨wr.heap.size, 0, none⟩ = some (.int .i64 f.tag) ∧ w'.cell? ⟨wr.heap.size, 1, none⟩ = some (.bool f.isT) ∧ w'.cell? ⟨wr.heap.size, 2, none⟩ = some (.int .u64 (f.n : Nat)) ∧ w'.cell? ⟨wr.heap.size, 3, none⟩ = some (.string f.s) ∧ w'.heap[wr.heap.size]? = some (.cells #[.int .i64 f.tag, .bool f.isT, .int .u64 (f.n : Nat), .string f.s] 50 (0, 0)) ∧ Below w.heap.size w w')) (by kernel_rfl) ?hSsat (fun hHeld => ?restSat)
            case hSsat => exact box_SB (w' := wq.drew) HBXQ.out HBQ.out.drew
            refine wpAnyH_take (i := 0) (v := ?vat0) rfl (by kernel_rfl) (by kernel_rfl) (by kernel_rfl) (fun _ _ _ h => h) (Or.inl ⟨by rfl, ?hyat0⟩) (by assumption) ?restat0
            case hyat0 =>
              intro w hSw
              (try dsimp only at hSw)
              go_simp
              all_goals with_reducible rfl
            try simp only [Act.put, List.getElem_toArray, List.getElem_cons_succ, List.getElem_cons_zero, List.setIfInBounds_toArray, List.set_cons_zero, List.set_cons_succ]
            refine wpAnyH_take (i := 1) (v := ?vat1) rfl (by kernel_rfl) (by kernel_rfl) (by kernel_rfl) (fun _ _ _ h => h) (Or.inl ⟨by rfl, ?hyat1⟩) (by assumption) ?restat1
            case hyat1 =>
              intro w hSw
              (try dsimp only at hSw)
              go_simp
              all_goals with_reducible rfl
            try simp only [Act.put, List.getElem_toArray, List.getElem_cons_succ, List.getElem_cons_zero, List.setIfInBounds_toArray, List.set_cons_zero, List.set_cons_succ]
            refine wpAnyH_take (i := 2) (v := ?vat2) rfl (by kernel_rfl) (by kernel_rfl) (by kernel_rfl) (fun _ _ _ h => h) (Or.inl ⟨by rfl, ?hyat2⟩) (by assumption) ?restat2
            case hyat2 =>
              intro w hSw
              (try dsimp only at hSw)
              go_simp
              all_goals with_reducible rfl
            try simp only [Act.put, List.getElem_toArray, List.getElem_cons_succ, List.getElem_cons_zero, List.setIfInBounds_toArray, List.set_cons_zero, List.set_cons_succ]
            refine wpAnyH_take (i := 3) (v := ?vat3) rfl (by kernel_rfl) (by kernel_rfl) (by kernel_rfl) (fun _ _ _ h => h) (Or.inl ⟨by rfl, ?hyat3⟩) (by assumption) ?restat3
            case hyat3 =>
              intro w hSw
              (try dsimp only at hSw)
              go_simp
              all_goals with_reducible rfl
            try simp only [Act.put, List.getElem_toArray, List.getElem_cons_succ, List.getElem_cons_zero, List.setIfInBounds_toArray, List.set_cons_zero, List.set_cons_succ]
            refine wpAnyH_take (i := 4) (v := ?vat4) rfl (by kernel_rfl) (by kernel_rfl) (by kernel_rfl) (fun _ _ _ h => h) (Or.inl ⟨by rfl, ?hyat4⟩) (by assumption) ?restat4
            case hyat4 =>
              intro w hSw
              (try dsimp only at hSw)
              go_simp
              all_goals with_reducible rfl
            try simp only [Act.put, List.getElem_toArray, List.getElem_cons_succ, List.getElem_cons_zero, List.setIfInBounds_toArray, List.set_cons_zero, List.set_cons_succ]
            refine wpAnyH_take (i := 5) (v := ?vat5) rfl (by kernel_rfl) (by kernel_rfl) (by kernel_rfl) (fun _ _ _ h => h) (Or.inl ⟨by rfl, ?hyat5⟩) (by assumption) ?restat5
            case hyat5 =>
              intro w hSw
              (try dsimp only at hSw)
              go_simp
              all_goals with_reducible rfl
            try simp only [Act.put, List.getElem_toArray, List.getElem_cons_succ, List.getElem_cons_zero, List.setIfInBounds_toArray, List.set_cons_zero, List.set_cons_succ]
            refine wpAnyH_take (i := 9) (v := ?vat6) rfl (by kernel_rfl) (by kernel_rfl) (by kernel_rfl) (fun _ _ _ h => h) (Or.inl ⟨by rfl, ?hyat6⟩) (by assumption) ?restat6
            case hyat6 =>
              intro w hSw
              (try dsimp only at hSw)
              go_simp
              all_goals with_reducible rfl
            try simp only [Act.put, List.getElem_toArray, List.getElem_cons_succ, List.getElem_cons_zero, List.setIfInBounds_toArray, List.set_cons_zero, List.set_cons_succ]
            refine wpAnyH_take (i := 10) (v := ?vat7) rfl (by kernel_rfl) (by kernel_rfl) (by kernel_rfl) (fun _ _ _ h => h) (Or.inl ⟨by rfl, ?hyat7⟩) (by assumption) ?restat7
            case hyat7 =>
              intro w hSw
              (try dsimp only at hSw)
              go_simp
              all_goals with_reducible rfl
            try simp only [Act.put, List.getElem_toArray, List.getElem_cons_succ, List.getElem_cons_zero, List.setIfInBounds_toArray, List.set_cons_zero, List.set_cons_succ]
            refine wpAnyH_take (i := 11) (v := ?vat8) rfl (by kernel_rfl) (by kernel_rfl) (by kernel_rfl) (fun _ _ _ h => h) (Or.inl ⟨by rfl, ?hyat8⟩) (by assumption) ?restat8
            case hyat8 =>
              intro w hSw
              (try dsimp only at hSw)
              go_simp
              all_goals with_reducible rfl
            try simp only [Act.put, List.getElem_toArray, List.getElem_cons_succ, List.getElem_cons_zero, List.setIfInBounds_toArray, List.set_cons_zero, List.set_cons_succ]
            refine wpAnyH_take (i := 12) (v := ?vat9) rfl (by kernel_rfl) (by kernel_rfl) (by kernel_rfl) (fun _ _ _ h => h) (Or.inl ⟨by rfl, ?hyat9⟩) (by assumption) ?restat9
            case hyat9 =>
              intro w hSw
              (try dsimp only at hSw)
              go_simp
              all_goals with_reducible rfl
            try simp only [Act.put, List.getElem_toArray, List.getElem_cons_succ, List.getElem_cons_zero, List.setIfInBounds_toArray, List.set_cons_zero, List.set_cons_succ]
            refine wpAnyH_take (i := 15) (v := ?vat10) rfl (by kernel_rfl) (by kernel_rfl) (by kernel_rfl) (fun _ _ _ h => h) (Or.inl ⟨by rfl, ?hyat10⟩) (by assumption) ?restat10
            case hyat10 =>
              intro w hSw
              (try dsimp only at hSw)
              go_simp
              all_goals with_reducible rfl
            try simp only [Act.put, List.getElem_toArray, List.getElem_cons_succ, List.getElem_cons_zero, List.setIfInBounds_toArray, List.set_cons_zero, List.set_cons_succ]
            refine wpAnyH_take (i := 16) (v := ?vat11) rfl (by kernel_rfl) (by kernel_rfl) (by kernel_rfl) (fun _ _ _ h => h) (Or.inl ⟨by rfl, ?hyat11⟩) (by assumption) ?restat11
            case hyat11 =>
              intro w hSw
              (try dsimp only at hSw)
              go_simp
              all_goals with_reducible rfl
            try simp only [Act.put, List.getElem_toArray, List.getElem_cons_succ, List.getElem_cons_zero, List.setIfInBounds_toArray, List.set_cons_zero, List.set_cons_succ]
            refine wpAnyH_ready (rs := [6, 13]) (by kernel_rfl) (by simp) ?_
            refine AllReadyH.cons rfl (fun K hK => ?_) (AllReadyH.cons rfl (fun K hK => ?_) (AllReadyH.nil))
            · try go_simp
              refine hK.out _ _ ?hScat12 (fun hHeld => ?restcat12)
              case hScat12 => first | exact box_SB (kept_box (KeptT.alloc 5 _ _) hHeld.2.2.2.2.1 (by decide)) (below_ad hHeld.2.2.2.2.2) | exact box_SB (kept_box (KeptT.alloc 5 _ _) hHeld.2.2.2.2.1 (by decide)) (hHeld.2.2.2.2.2.alloc hHeld.2.2.2.2.2.size _)
              clear hK K
              try simp only [Act.put, List.getElem_toArray, List.getElem_cons_succ, List.getElem_cons_zero, List.setIfInBounds_toArray, List.set_cons_zero, List.set_cons_succ]
              refine wpAnyH_ready (rs := [7, 13]) (by kernel_rfl) (by simp) ?_
              refine AllReadyH.cons rfl (fun K hK => ?_) (AllReadyH.cons rfl (fun K hK => ?_) (AllReadyH.nil))
              · have hcc0 := cell_new wq (.int .u8 (IntKind.u8.wrap (IntKind.i64.wrap (IntKind.i64.wrap (2 * f.tag) + 1)))) 5
                try (have hcc := keepC hBs hcc0)
                try go_simp
                refine hK.out _ _ ?hScat13 (fun hHeld => ?restcat13)
                case hScat13 => exact hHeld
                clear hK K
                try simp only [Act.put, List.getElem_toArray, List.getElem_cons_succ, List.getElem_cons_zero, List.setIfInBounds_toArray, List.set_cons_zero, List.set_cons_succ]
                refine wpAnyH_take (i := 8) (v := ?vat14) rfl (by kernel_rfl) (by kernel_rfl) (by kernel_rfl) (fun _ _ _ h => h) (Or.inl ⟨by rfl, ?hyat14⟩) (by assumption) ?restat14
                case hyat14 =>
                  intro w hSw
                  (try dsimp only at hSw)
                  go_simp
                  all_goals with_reducible rfl
                try simp only [Act.put, List.getElem_toArray, List.getElem_cons_succ, List.getElem_cons_zero, List.setIfInBounds_toArray, List.set_cons_zero, List.set_cons_succ]
                refine wpAnyH_ready (rs := [13]) (by kernel_rfl) (by simp) ?_
                refine AllReadyH.cons rfl (fun K hK => ?_) (AllReadyH.nil)
                try go_simp
                go_at_call 23
                refine (HCN.out _).mono ?_
                rintro e w4 ⟨rfl, hBs⟩
                refine hK.out _ _ ?hScat15 (fun hHeld => ?restcat15)
                case hScat15 => exact box_SB (below_box hBs hHeld.2.2.2.2.1) (bstep7 hHeld.2.2.2.2.2 hBs)
                clear hK K
                try simp only [Act.put, List.getElem_toArray, List.getElem_cons_succ, List.getElem_cons_zero, List.setIfInBounds_toArray, List.set_cons_zero, List.set_cons_succ]
                refine wpAnyH_take (i := 14) (v := ?vat16) rfl (by kernel_rfl) (by kernel_rfl) (by kernel_rfl) (fun _ _ _ h => h) (Or.inl ⟨by rfl, ?hyat16⟩) (by assumption) ?restat16
                case hyat16 =>
                  intro w hSw
                  (try dsimp only at hSw)
                  go_simp
                  all_goals with_reducible rfl
                try simp only [Act.put, List.getElem_toArray, List.getElem_cons_succ, List.getElem_cons_zero, List.setIfInBounds_toArray, List.set_cons_zero, List.set_cons_succ]
                refine wpAnyH_take (i := 17) (v := ?vat17) rfl (by kernel_rfl) (by kernel_rfl) (by kernel_rfl) (fun _ _ _ h => h) (Or.inl ⟨by rfl, ?hyat17⟩) (by assumption) ?restat17
                case hyat17 =>
                  intro w hSw
                  (try dsimp only at hSw)
                  go_simp
                  all_goals with_reducible rfl
                try simp only [Act.put, List.getElem_toArray, List.getElem_cons_succ, List.getElem_cons_zero, List.setIfInBounds_toArray, List.set_cons_zero, List.set_cons_succ]
                refine wpAnyH_take (i := 18) (v := ?vat18) rfl (by kernel_rfl) (by kernel_rfl) (by kernel_rfl) (fun _ _ _ h => h) (Or.inl ⟨by rfl, ?hyat18⟩) (by assumption) ?restat18
                case hyat18 =>
                  intro w hSw
                  (try dsimp only at hSw)
                  go_simp
                  all_goals with_reducible rfl
                try simp only [Act.put, List.getElem_toArray, List.getElem_cons_succ, List.getElem_cons_zero, List.setIfInBounds_toArray, List.set_cons_zero, List.set_cons_succ]
                refine wpAnyH_done (by kernel_rfl) ?_ _
                go_wp2_with fail
                go_roundw
                case rel => exact ⟨0 + 1, _, by omega, by go_num, rfl, HX3.out, HNX.out, HKN.out, by first | exact hHeld.2.2.2.2.2 | exact below_any (Nat.le_trans HBQ.out.size hBs.size) hHeld.2.2.2.2.2⟩
                case measure => simp [intOf]; omega
              · try go_simp
                go_at_call 23
                refine (HCN.out _).mono ?_
                rintro e w4 ⟨rfl, hBs⟩
                refine hK.out _ _ ?hScat19 (fun hHeld => ?restcat19)
                case hScat19 => exact box_SB (below_box hBs hHeld.2.2.2.2.1) (bstep7 hHeld.2.2.2.2.2 hBs)
                clear hK K
                try simp only [Act.put, List.getElem_toArray, List.getElem_cons_succ, List.getElem_cons_zero, List.setIfInBounds_toArray, List.set_cons_zero, List.set_cons_succ]
                refine wpAnyH_ready (rs := [7]) (by kernel_rfl) (by simp) ?_
                refine AllReadyH.cons rfl (fun K hK => ?_) (AllReadyH.nil)
                have hcc0 := cell_new wq (.int .u8 (IntKind.u8.wrap (IntKind.i64.wrap (IntKind.i64.wrap (2 * f.tag) + 1)))) 5
                try (have hcc := keepC hBs hcc0)
                try go_simp
                refine hK.out _ _ ?hScat20 (fun hHeld => ?restcat20)
                case hScat20 => exact hHeld
                clear hK K
                try simp only [Act.put, List.getElem_toArray, List.getElem_cons_succ, List.getElem_cons_zero, List.setIfInBounds_toArray, List.set_cons_zero, List.set_cons_succ]
                refine wpAnyH_take (i := 8) (v := ?vat21) rfl (by kernel_rfl) (by kernel_rfl) (by kernel_rfl) (fun _ _ _ h => h) (Or.inl ⟨by rfl, ?hyat21⟩) (by assumption) ?restat21
                case hyat21 =>
                  intro w hSw
                  (try dsimp only at hSw)
                  go_simp
                  all_goals with_reducible rfl
                try simp only [Act.put, List.getElem_toArray, List.getElem_cons_succ, List.getElem_cons_zero, List.setIfInBounds_toArray, List.set_cons_zero, List.set_cons_succ]
                refine wpAnyH_take (i := 14) (v := ?vat22) rfl (by kernel_rfl) (by kernel_rfl) (by kernel_rfl) (fun _ _ _ h => h) (Or.inl ⟨by rfl, ?hyat22⟩) (by assumption) ?restat22
                case hyat22 =>
                  intro w hSw
                  (try dsimp only at hSw)
                  go_simp
                  all_goals with_reducible rfl
                try simp only [Act.put, List.getElem_toArray, List.getElem_cons_succ, List.getElem_cons_zero, List.setIfInBounds_toArray, List.set_cons_zero, List.set_cons_succ]
                refine wpAnyH_take (i := 17) (v := ?vat23) rfl (by kernel_rfl) (by kernel_rfl) (by kernel_rfl) (fun _ _ _ h => h) (Or.inl ⟨by rfl, ?hyat23⟩) (by assumption) ?restat23
                case hyat23 =>
                  intro w hSw
                  (try dsimp only at hSw)
                  go_simp
                  all_goals with_reducible rfl
                try simp only [Act.put, List.getElem_toArray, List.getElem_cons_succ, List.getElem_cons_zero, List.setIfInBounds_toArray, List.set_cons_zero, List.set_cons_succ]
                refine wpAnyH_take (i := 18) (v := ?vat24) rfl (by kernel_rfl) (by kernel_rfl) (by kernel_rfl) (fun _ _ _ h => h) (Or.inl ⟨by rfl, ?hyat24⟩) (by assumption) ?restat24
                case hyat24 =>
                  intro w hSw
                  (try dsimp only at hSw)
                  go_simp
                  all_goals with_reducible rfl
                try simp only [Act.put, List.getElem_toArray, List.getElem_cons_succ, List.getElem_cons_zero, List.setIfInBounds_toArray, List.set_cons_zero, List.set_cons_succ]
                refine wpAnyH_done (by kernel_rfl) ?_ _
                go_wp2_with fail
                go_roundw
                case rel => exact ⟨0 + 1, _, by omega, by go_num, rfl, HX3.out, HNX.out, HKN.out, by first | exact hHeld.2.2.2.2.2 | exact below_any (Nat.le_trans HBQ.out.size hBs.size) hHeld.2.2.2.2.2⟩
                case measure => simp [intOf]; omega
            · try go_simp
              go_at_call 23
              refine (HCN.out _).mono ?_
              rintro e w4 ⟨rfl, hBs⟩
              refine hK.out _ _ ?hScat25 (fun hHeld => ?restcat25)
              case hScat25 => exact box_SB (below_box hBs hHeld.2.2.2.2.1) (bstep7 hHeld.2.2.2.2.2 hBs)
              clear hK K
              try simp only [Act.put, List.getElem_toArray, List.getElem_cons_succ, List.getElem_cons_zero, List.setIfInBounds_toArray, List.set_cons_zero, List.set_cons_succ]
              refine wpAnyH_ready (rs := [6]) (by kernel_rfl) (by simp) ?_
              refine AllReadyH.cons rfl (fun K hK => ?_) (AllReadyH.nil)
              try go_simp
              refine hK.out _ _ ?hScat26 (fun hHeld => ?restcat26)
              case hScat26 => first | exact box_SB (kept_box (KeptT.alloc 5 _ _) hHeld.2.2.2.2.1 (by decide)) (below_ad hHeld.2.2.2.2.2) | exact box_SB (kept_box (KeptT.alloc 5 _ _) hHeld.2.2.2.2.1 (by decide)) (hHeld.2.2.2.2.2.alloc hHeld.2.2.2.2.2.size _)
              clear hK K
              try simp only [Act.put, List.getElem_toArray, List.getElem_cons_succ, List.getElem_cons_zero, List.setIfInBounds_toArray, List.set_cons_zero, List.set_cons_succ]
              refine wpAnyH_ready (rs := [7]) (by kernel_rfl) (by simp) ?_
              refine AllReadyH.cons rfl (fun K hK => ?_) (AllReadyH.nil)
              have hcc0 := cell_new wq (.int .u8 (IntKind.u8.wrap (IntKind.i64.wrap (IntKind.i64.wrap (2 * f.tag) + 1)))) 5
              try (have hcc := keepC hBs hcc0)
              try go_simp
              refine hK.out _ _ ?hScat27 (fun hHeld => ?restcat27)
              case hScat27 => exact hHeld
              clear hK K
              try simp only [Act.put, List.getElem_toArray, List.getElem_cons_succ, List.getElem_cons_zero, List.setIfInBounds_toArray, List.set_cons_zero, List.set_cons_succ]
              refine wpAnyH_take (i := 8) (v := ?vat28) rfl (by kernel_rfl) (by kernel_rfl) (by kernel_rfl) (fun _ _ _ h => h) (Or.inl ⟨by rfl, ?hyat28⟩) (by assumption) ?restat28
              case hyat28 =>
                intro w hSw
                (try dsimp only at hSw)
                go_simp
                all_goals with_reducible rfl
              try simp only [Act.put, List.getElem_toArray, List.getElem_cons_succ, List.getElem_cons_zero, List.setIfInBounds_toArray, List.set_cons_zero, List.set_cons_succ]
              refine wpAnyH_take (i := 14) (v := ?vat29) rfl (by kernel_rfl) (by kernel_rfl) (by kernel_rfl) (fun _ _ _ h => h) (Or.inl ⟨by rfl, ?hyat29⟩) (by assumption) ?restat29
              case hyat29 =>
                intro w hSw
                (try dsimp only at hSw)
                go_simp
                all_goals with_reducible rfl
              try simp only [Act.put, List.getElem_toArray, List.getElem_cons_succ, List.getElem_cons_zero, List.setIfInBounds_toArray, List.set_cons_zero, List.set_cons_succ]
              refine wpAnyH_take (i := 17) (v := ?vat30) rfl (by kernel_rfl) (by kernel_rfl) (by kernel_rfl) (fun _ _ _ h => h) (Or.inl ⟨by rfl, ?hyat30⟩) (by assumption) ?restat30
              case hyat30 =>
                intro w hSw
                (try dsimp only at hSw)
                go_simp
                all_goals with_reducible rfl
              try simp only [Act.put, List.getElem_toArray, List.getElem_cons_succ, List.getElem_cons_zero, List.setIfInBounds_toArray, List.set_cons_zero, List.set_cons_succ]
              refine wpAnyH_take (i := 18) (v := ?vat31) rfl (by kernel_rfl) (by kernel_rfl) (by kernel_rfl) (fun _ _ _ h => h) (Or.inl ⟨by rfl, ?hyat31⟩) (by assumption) ?restat31
              case hyat31 =>
                intro w hSw
                (try dsimp only at hSw)
                go_simp
                all_goals with_reducible rfl
              try simp only [Act.put, List.getElem_toArray, List.getElem_cons_succ, List.getElem_cons_zero, List.setIfInBounds_toArray, List.set_cons_zero, List.set_cons_succ]
              refine wpAnyH_done (by kernel_rfl) ?_ _
              go_wp2_with fail
              go_roundw
              case rel => exact ⟨0 + 1, _, by omega, by go_num, rfl, HX3.out, HNX.out, HKN.out, by first | exact hHeld.2.2.2.2.2 | exact below_any (Nat.le_trans HBQ.out.size hBs.size) hHeld.2.2.2.2.2⟩
              case measure => simp [intOf]; omega
          | false =>
            obtain ⟨NS, hNS⟩ : ∃ NS, NS = numS f.n := ⟨_, rfl⟩
            have hn8 := nb_8 HMN.out
            have hNSz : NS.size ≤ 9 := by rw [hNS]; unfold numS; rw [mk_size, numL_len]; omega
            have HCN := Lib.hid (fun W => rnumber_any f.n W HMN.out)
            rw [← hNS] at HCN
            obtain ⟨TB, hTB⟩ : ∃ TB : ByteArray, TB = ⟨#[tagB f]⟩ := ⟨_, rfl⟩
            have hTBz : TB.size = 1 := by rw [hTB]; rfl
            have hcv := str_one (P := Tryd.prog) 60 9 5 Tryd.underlying60 Tryd.underlying5 Tryd.underlying9 (IntKind.u8.wrap (IntKind.i64.wrap (2 * f.tag))) (tagB f) (by rw [IntKind.wrap_i64, IntKind.wrap_u8, ← tagB_is HMT.out (2 * f.tag) (by rw [hT]; simp)]; omega)
            rw [← hTB] at hcv
            obtain ⟨X1, hX1⟩ : ∃ X1, X1 = S ++ TB := ⟨_, rfl⟩
            have hz1 : X1.size ≤ 64330 := by rw [hX1, app_size]; omega
            obtain ⟨X3, hX3⟩ : ∃ X3, X3 = X1 ++ NS := ⟨_, rfl⟩
            have ha1 : ∀ W, (Op.stringOp .add S TB).run Tryd.prog W = .ok (.string X1) W := fun W => by rw [hX1]; exact run_string_add_sum W _ _ (by omega)
            have ha2 : ∀ W, (Op.stringOp .add X1 NS).run Tryd.prog W = .ok (.string X3) W := fun W => by rw [hX3]; exact run_string_add_sum W _ _ (by omega)
            have HX3 : Hid (X3 = ⟨(flatL (l.take (0 + 1))).toArray⟩) := by
              show X3 = _
              rw [HFE.out, fieldL_n hT, hX3, hX1, hTB, hNS, HSS.out]
              unfold numS
              rw [show (⟨#[tagB f]⟩ : ByteArray) = ⟨[tagB f].toArray⟩ from rfl, mk_app, mk_app]
              simp
            clear hX1 hX3 hTB hNS
            rw [hT] at z1
            go_wp2_with fail
            refine wp_region_held_drew (S := (fun w' => w'.cell? ⟨wr.heap.size, 0, none⟩ = some (.int .i64 f.tag) ∧ w'.cell? ⟨wr.heap.size, 1, none⟩ = some (.bool f.isT) ∧ w'.cell? ⟨wr.heap.size, 2, none⟩ = some (.int .u64 (f.n : Nat)) ∧ w'.cell? ⟨wr.heap.size, 3, none⟩ = some (.string f.s) ∧ w'.heap[wr.heap.size]? = some (.cells #[.int .i64 f.tag, .bool f.isT, .int .u64 (f.n : Nat), .string f.s] 50 (0, 0)) ∧ Below w.heap.size w w')) (by kernel_rfl) ?hSsaf (fun hHeld => ?restSaf)
            case hSsaf => exact box_SB (w' := wq.drew) HBXQ.out HBQ.out.drew
            refine wpAnyH_take (i := 0) (v := ?vaf0) rfl (by kernel_rfl) (by kernel_rfl) (by kernel_rfl) (fun _ _ _ h => h) (Or.inl ⟨by rfl, ?hyaf0⟩) (by assumption) ?restaf0
            case hyaf0 =>
              intro w hSw
              (try dsimp only at hSw)
              go_simp
              all_goals with_reducible rfl
            try simp only [Act.put, List.getElem_toArray, List.getElem_cons_succ, List.getElem_cons_zero, List.setIfInBounds_toArray, List.set_cons_zero, List.set_cons_succ]
            refine wpAnyH_take (i := 1) (v := ?vaf1) rfl (by kernel_rfl) (by kernel_rfl) (by kernel_rfl) (fun _ _ _ h => h) (Or.inl ⟨by rfl, ?hyaf1⟩) (by assumption) ?restaf1
            case hyaf1 =>
              intro w hSw
              (try dsimp only at hSw)
              go_simp
              all_goals with_reducible rfl
            try simp only [Act.put, List.getElem_toArray, List.getElem_cons_succ, List.getElem_cons_zero, List.setIfInBounds_toArray, List.set_cons_zero, List.set_cons_succ]
            refine wpAnyH_take (i := 2) (v := ?vaf2) rfl (by kernel_rfl) (by kernel_rfl) (by kernel_rfl) (fun _ _ _ h => h) (Or.inl ⟨by rfl, ?hyaf2⟩) (by assumption) ?restaf2
            case hyaf2 =>
              intro w hSw
              (try dsimp only at hSw)
              go_simp
              all_goals with_reducible rfl
            try simp only [Act.put, List.getElem_toArray, List.getElem_cons_succ, List.getElem_cons_zero, List.setIfInBounds_toArray, List.set_cons_zero, List.set_cons_succ]
            refine wpAnyH_take (i := 3) (v := ?vaf3) rfl (by kernel_rfl) (by kernel_rfl) (by kernel_rfl) (fun _ _ _ h => h) (Or.inl ⟨by rfl, ?hyaf3⟩) (by assumption) ?restaf3
            case hyaf3 =>
              intro w hSw
              (try dsimp only at hSw)
              go_simp
              all_goals with_reducible rfl
            try simp only [Act.put, List.getElem_toArray, List.getElem_cons_succ, List.getElem_cons_zero, List.setIfInBounds_toArray, List.set_cons_zero, List.set_cons_succ]
            refine wpAnyH_take (i := 4) (v := ?vaf4) rfl (by kernel_rfl) (by kernel_rfl) (by kernel_rfl) (fun _ _ _ h => h) (Or.inl ⟨by rfl, ?hyaf4⟩) (by assumption) ?restaf4
            case hyaf4 =>
              intro w hSw
              (try dsimp only at hSw)
              go_simp
              all_goals with_reducible rfl
            try simp only [Act.put, List.getElem_toArray, List.getElem_cons_succ, List.getElem_cons_zero, List.setIfInBounds_toArray, List.set_cons_zero, List.set_cons_succ]
            refine wpAnyH_take (i := 8) (v := ?vaf5) rfl (by kernel_rfl) (by kernel_rfl) (by kernel_rfl) (fun _ _ _ h => h) (Or.inl ⟨by rfl, ?hyaf5⟩) (by assumption) ?restaf5
            case hyaf5 =>
              intro w hSw
              (try dsimp only at hSw)
              go_simp
              all_goals with_reducible rfl
            try simp only [Act.put, List.getElem_toArray, List.getElem_cons_succ, List.getElem_cons_zero, List.setIfInBounds_toArray, List.set_cons_zero, List.set_cons_succ]
            refine wpAnyH_take (i := 9) (v := ?vaf6) rfl (by kernel_rfl) (by kernel_rfl) (by kernel_rfl) (fun _ _ _ h => h) (Or.inl ⟨by rfl, ?hyaf6⟩) (by assumption) ?restaf6
            case hyaf6 =>
              intro w hSw
              (try dsimp only at hSw)
              go_simp
              all_goals with_reducible rfl
            try simp only [Act.put, List.getElem_toArray, List.getElem_cons_succ, List.getElem_cons_zero, List.setIfInBounds_toArray, List.set_cons_zero, List.set_cons_succ]
            refine wpAnyH_ready (rs := [5, 10]) (by kernel_rfl) (by simp) ?_
            refine AllReadyH.cons rfl (fun K hK => ?_) (AllReadyH.cons rfl (fun K hK => ?_) (AllReadyH.nil))
            · try go_simp
              refine hK.out _ _ ?hScaf7 (fun hHeld => ?restcaf7)
              case hScaf7 => first | exact box_SB (kept_box (KeptT.alloc 5 _ _) hHeld.2.2.2.2.1 (by decide)) (below_ad hHeld.2.2.2.2.2) | exact box_SB (kept_box (KeptT.alloc 5 _ _) hHeld.2.2.2.2.1 (by decide)) (hHeld.2.2.2.2.2.alloc hHeld.2.2.2.2.2.size _)
              clear hK K
              try simp only [Act.put, List.getElem_toArray, List.getElem_cons_succ, List.getElem_cons_zero, List.setIfInBounds_toArray, List.set_cons_zero, List.set_cons_succ]
              refine wpAnyH_ready (rs := [6, 10]) (by kernel_rfl) (by simp) ?_
              refine AllReadyH.cons rfl (fun K hK => ?_) (AllReadyH.cons rfl (fun K hK => ?_) (AllReadyH.nil))
              · have hcc0 := cell_new wq (.int .u8 (IntKind.u8.wrap (IntKind.i64.wrap (2 * f.tag)))) 5
                try (have hcc := keepC hBs hcc0)
                try go_simp
                refine hK.out _ _ ?hScaf8 (fun hHeld => ?restcaf8)
                case hScaf8 => exact hHeld
                clear hK K
                try simp only [Act.put, List.getElem_toArray, List.getElem_cons_succ, List.getElem_cons_zero, List.setIfInBounds_toArray, List.set_cons_zero, List.set_cons_succ]
                refine wpAnyH_take (i := 7) (v := ?vaf9) rfl (by kernel_rfl) (by kernel_rfl) (by kernel_rfl) (fun _ _ _ h => h) (Or.inl ⟨by rfl, ?hyaf9⟩) (by assumption) ?restaf9
                case hyaf9 =>
                  intro w hSw
                  (try dsimp only at hSw)
                  go_simp
                  all_goals with_reducible rfl
                try simp only [Act.put, List.getElem_toArray, List.getElem_cons_succ, List.getElem_cons_zero, List.setIfInBounds_toArray, List.set_cons_zero, List.set_cons_succ]
                refine wpAnyH_ready (rs := [10]) (by kernel_rfl) (by simp) ?_
                refine AllReadyH.cons rfl (fun K hK => ?_) (AllReadyH.nil)
                try go_simp
                go_at_call 23
                refine (HCN.out _).mono ?_
                rintro e w4 ⟨rfl, hBs⟩
                refine hK.out _ _ ?hScaf10 (fun hHeld => ?restcaf10)
                case hScaf10 => exact box_SB (below_box hBs hHeld.2.2.2.2.1) (bstep7 hHeld.2.2.2.2.2 hBs)
                clear hK K
                try simp only [Act.put, List.getElem_toArray, List.getElem_cons_succ, List.getElem_cons_zero, List.setIfInBounds_toArray, List.set_cons_zero, List.set_cons_succ]
                refine wpAnyH_take (i := 11) (v := ?vaf11) rfl (by kernel_rfl) (by kernel_rfl) (by kernel_rfl) (fun _ _ _ h => h) (Or.inl ⟨by rfl, ?hyaf11⟩) (by assumption) ?restaf11
                case hyaf11 =>
                  intro w hSw
                  (try dsimp only at hSw)
                  go_simp
                  all_goals with_reducible rfl
                try simp only [Act.put, List.getElem_toArray, List.getElem_cons_succ, List.getElem_cons_zero, List.setIfInBounds_toArray, List.set_cons_zero, List.set_cons_succ]
                refine wpAnyH_take (i := 12) (v := ?vaf12) rfl (by kernel_rfl) (by kernel_rfl) (by kernel_rfl) (fun _ _ _ h => h) (Or.inl ⟨by rfl, ?hyaf12⟩) (by assumption) ?restaf12
                case hyaf12 =>
                  intro w hSw
                  (try dsimp only at hSw)
                  go_simp
                  all_goals with_reducible rfl
                try simp only [Act.put, List.getElem_toArray, List.getElem_cons_succ, List.getElem_cons_zero, List.setIfInBounds_toArray, List.set_cons_zero, List.set_cons_succ]
                refine wpAnyH_done (by kernel_rfl) ?_ _
                go_wp2_with fail
                go_roundw
                case rel => exact ⟨0 + 1, _, by omega, by go_num, rfl, HX3.out, HNX.out, HKN.out, by first | exact hHeld.2.2.2.2.2 | exact below_any (Nat.le_trans HBQ.out.size hBs.size) hHeld.2.2.2.2.2⟩
                case measure => simp [intOf]; omega
              · try go_simp
                go_at_call 23
                refine (HCN.out _).mono ?_
                rintro e w4 ⟨rfl, hBs⟩
                refine hK.out _ _ ?hScaf13 (fun hHeld => ?restcaf13)
                case hScaf13 => exact box_SB (below_box hBs hHeld.2.2.2.2.1) (bstep7 hHeld.2.2.2.2.2 hBs)
                clear hK K
                try simp only [Act.put, List.getElem_toArray, List.getElem_cons_succ, List.getElem_cons_zero, List.setIfInBounds_toArray, List.set_cons_zero, List.set_cons_succ]
                refine wpAnyH_ready (rs := [6]) (by kernel_rfl) (by simp) ?_
                refine AllReadyH.cons rfl (fun K hK => ?_) (AllReadyH.nil)
                have hcc0 := cell_new wq (.int .u8 (IntKind.u8.wrap (IntKind.i64.wrap (2 * f.tag)))) 5
                try (have hcc := keepC hBs hcc0)
                try go_simp
                refine hK.out _ _ ?hScaf14 (fun hHeld => ?restcaf14)
                case hScaf14 => exact hHeld
                clear hK K
                try simp only [Act.put, List.getElem_toArray, List.getElem_cons_succ, List.getElem_cons_zero, List.setIfInBounds_toArray, List.set_cons_zero, List.set_cons_succ]
                refine wpAnyH_take (i := 7) (v := ?vaf15) rfl (by kernel_rfl) (by kernel_rfl) (by kernel_rfl) (fun _ _ _ h => h) (Or.inl ⟨by rfl, ?hyaf15⟩) (by assumption) ?restaf15
                case hyaf15 =>
                  intro w hSw
                  (try dsimp only at hSw)
                  go_simp
                  all_goals with_reducible rfl
                try simp only [Act.put, List.getElem_toArray, List.getElem_cons_succ, List.getElem_cons_zero, List.setIfInBounds_toArray, List.set_cons_zero, List.set_cons_succ]
                refine wpAnyH_take (i := 11) (v := ?vaf16) rfl (by kernel_rfl) (by kernel_rfl) (by kernel_rfl) (fun _ _ _ h => h) (Or.inl ⟨by rfl, ?hyaf16⟩) (by assumption) ?restaf16
                case hyaf16 =>
                  intro w hSw
                  (try dsimp only at hSw)
                  go_simp
                  all_goals with_reducible rfl
                try simp only [Act.put, List.getElem_toArray, List.getElem_cons_succ, List.getElem_cons_zero, List.setIfInBounds_toArray, List.set_cons_zero, List.set_cons_succ]
                refine wpAnyH_take (i := 12) (v := ?vaf17) rfl (by kernel_rfl) (by kernel_rfl) (by kernel_rfl) (fun _ _ _ h => h) (Or.inl ⟨by rfl, ?hyaf17⟩) (by assumption) ?restaf17
                case hyaf17 =>
                  intro w hSw
                  (try dsimp only at hSw)
                  go_simp
                  all_goals with_reducible rfl
                try simp only [Act.put, List.getElem_toArray, List.getElem_cons_succ, List.getElem_cons_zero, List.setIfInBounds_toArray, List.set_cons_zero, List.set_cons_succ]
                refine wpAnyH_done (by kernel_rfl) ?_ _
                go_wp2_with fail
                go_roundw
                case rel => exact ⟨0 + 1, _, by omega, by go_num, rfl, HX3.out, HNX.out, HKN.out, by first | exact hHeld.2.2.2.2.2 | exact below_any (Nat.le_trans HBQ.out.size hBs.size) hHeld.2.2.2.2.2⟩
                case measure => simp [intOf]; omega
            · try go_simp
              go_at_call 23
              refine (HCN.out _).mono ?_
              rintro e w4 ⟨rfl, hBs⟩
              refine hK.out _ _ ?hScaf18 (fun hHeld => ?restcaf18)
              case hScaf18 => exact box_SB (below_box hBs hHeld.2.2.2.2.1) (bstep7 hHeld.2.2.2.2.2 hBs)
              clear hK K
              try simp only [Act.put, List.getElem_toArray, List.getElem_cons_succ, List.getElem_cons_zero, List.setIfInBounds_toArray, List.set_cons_zero, List.set_cons_succ]
              refine wpAnyH_ready (rs := [5]) (by kernel_rfl) (by simp) ?_
              refine AllReadyH.cons rfl (fun K hK => ?_) (AllReadyH.nil)
              try go_simp
              refine hK.out _ _ ?hScaf19 (fun hHeld => ?restcaf19)
              case hScaf19 => first | exact box_SB (kept_box (KeptT.alloc 5 _ _) hHeld.2.2.2.2.1 (by decide)) (below_ad hHeld.2.2.2.2.2) | exact box_SB (kept_box (KeptT.alloc 5 _ _) hHeld.2.2.2.2.1 (by decide)) (hHeld.2.2.2.2.2.alloc hHeld.2.2.2.2.2.size _)
              clear hK K
              try simp only [Act.put, List.getElem_toArray, List.getElem_cons_succ, List.getElem_cons_zero, List.setIfInBounds_toArray, List.set_cons_zero, List.set_cons_succ]
              refine wpAnyH_ready (rs := [6]) (by kernel_rfl) (by simp) ?_
              refine AllReadyH.cons rfl (fun K hK => ?_) (AllReadyH.nil)
              have hcc0 := cell_new wq (.int .u8 (IntKind.u8.wrap (IntKind.i64.wrap (2 * f.tag)))) 5
              try (have hcc := keepC hBs hcc0)
              try go_simp
              refine hK.out _ _ ?hScaf20 (fun hHeld => ?restcaf20)
              case hScaf20 => exact hHeld
              clear hK K
              try simp only [Act.put, List.getElem_toArray, List.getElem_cons_succ, List.getElem_cons_zero, List.setIfInBounds_toArray, List.set_cons_zero, List.set_cons_succ]
              refine wpAnyH_take (i := 7) (v := ?vaf21) rfl (by kernel_rfl) (by kernel_rfl) (by kernel_rfl) (fun _ _ _ h => h) (Or.inl ⟨by rfl, ?hyaf21⟩) (by assumption) ?restaf21
              case hyaf21 =>
                intro w hSw
                (try dsimp only at hSw)
                go_simp
                all_goals with_reducible rfl
              try simp only [Act.put, List.getElem_toArray, List.getElem_cons_succ, List.getElem_cons_zero, List.setIfInBounds_toArray, List.set_cons_zero, List.set_cons_succ]
              refine wpAnyH_take (i := 11) (v := ?vaf22) rfl (by kernel_rfl) (by kernel_rfl) (by kernel_rfl) (fun _ _ _ h => h) (Or.inl ⟨by rfl, ?hyaf22⟩) (by assumption) ?restaf22
              case hyaf22 =>
                intro w hSw
                (try dsimp only at hSw)
                go_simp
                all_goals with_reducible rfl
              try simp only [Act.put, List.getElem_toArray, List.getElem_cons_succ, List.getElem_cons_zero, List.setIfInBounds_toArray, List.set_cons_zero, List.set_cons_succ]
              refine wpAnyH_take (i := 12) (v := ?vaf23) rfl (by kernel_rfl) (by kernel_rfl) (by kernel_rfl) (fun _ _ _ h => h) (Or.inl ⟨by rfl, ?hyaf23⟩) (by assumption) ?restaf23
              case hyaf23 =>
                intro w hSw
                (try dsimp only at hSw)
                go_simp
                all_goals with_reducible rfl
              try simp only [Act.put, List.getElem_toArray, List.getElem_cons_succ, List.getElem_cons_zero, List.setIfInBounds_toArray, List.set_cons_zero, List.set_cons_succ]
              refine wpAnyH_done (by kernel_rfl) ?_ _
              go_wp2_with fail
              go_roundw
              case rel => exact ⟨0 + 1, _, by omega, by go_num, rfl, HX3.out, HNX.out, HKN.out, by first | exact hHeld.2.2.2.2.2 | exact below_any (Nat.le_trans HBQ.out.size hBs.size) hHeld.2.2.2.2.2⟩
              case measure => simp [intOf]; omega
        · obtain ⟨j, rfl⟩ : ∃ j, k = j + 1 := ⟨k - 1, by omega⟩
          obtain ⟨g, hg⟩ : ∃ g, l[j]? = some g := ⟨l[j], List.getElem?_eq_getElem (by omega)⟩
          obtain ⟨b', o', hbo, hgc⟩ := HR.out j g hg
          obtain ⟨rfl, rfl⟩ : b = b' ∧ o = o' := by simpa using hbo
          have g0 := keepC HB2.out (hgc 0 _ rfl)
          rw [Nat.add_zero] at g0
          have hl0 : last = g.tag := by rw [HL.out, last_at hg]
          have hj1 : ((j + 1 : Nat) : Int) - 1 = (j : Int) := by omega
          have hgd : decide ((0 : Int) < ((j + 1 : Nat) : Int)) = true := by simp
          have hgi0 : (0 : Int) ≤ (j : Int) := by omega
          have hgi1 : (j : Int) < (l.length : Int) := by omega
          subst hl0
          clear hgc hg hbo
          by_cases ht : f.tag ≤ g.tag
          · have hcode : Hid (putC l = 7) := by
              show putC l = 7
              rw [HP.out, HAT.out, if_neg (by rw [HMT.out]; decide), if_pos ht]
            go_wp2_with fail
            go_quiet (fail)
            have HBQ := Lib.hid (below_drewN HB2.out nq)
            go_wp2_with fail
            go_ret2
            refine ⟨?_, HBQ.out⟩
            rw [hcode.out, show putL l = [] from if_neg (by rw [hcode.out]; decide)]
            rfl
          have HT : Hid (g.tag < f.tag) := by show _ < _; omega
          have hlt : g.tag < f.tag := by omega
          clear ht
          go_wp2_with fail
          go_quiet (fail)
          have HBQ := Lib.hid (below_drewN HB2.out nq)
          have HBXQ : Hid ((w2.drewN nq).heap[wr.heap.size]? = _) := HBX2.out
          generalize w2.drewN nq = wq at HBQ HBXQ ⊢
          obtain ⟨z0, z1, z2, z3, _⟩ := box_S HBXQ.out
          have hS3 : ¬ 2000 < f.s.size ∨ 2000 < f.s.size := by omega
          rcases hS3 with hs | hs
          case inr =>
            have hcode : Hid (putC l = 4) := by
              show putC l = 4
              rw [HP.out, HAT.out, if_neg (by rw [HMT.out]; decide), if_neg (Int.not_le.2 HT.out), if_pos hs]
            go_wp2_with fail
            go_ret2
            refine ⟨?_, HBQ.out⟩
            rw [hcode.out, show putL l = [] from if_neg (by rw [hcode.out]; decide)]
            rfl
          have HNX := Lib.hid (HI.out.next HF.out HMT.out (by rw [← HL.out]; exact (Int.not_le.2 HT.out)) hs)
          have hok : f.Ok := ⟨HMT.out, by omega, HMN.out⟩
          have HKN := Lib.hid (ok_at1 HK.out HF.out hok)
          have HFL := Lib.hid (flat_take_len h32' HK.out)
          have HFE := Lib.hid (flat_at1 HF.out)
          have hs2 : f.s.size ≤ 2000 := by omega
          have hSS : S.size ≤ 64320 := by rw [HSS.out, mk_size]; exact HFL.out
          clear hs
          cases hT : f.isT with
          | true =>
            have hnb := nb_lt 2 f.s.size (by omega)
            have hws : IntKind.u64.wrap ((f.s.size : Nat) : Int) = ((f.s.size : Nat) : Int) := by rw [IntKind.wrap_u64]; omega
            obtain ⟨NS, hNS⟩ : ∃ NS, NS = numS f.s.size := ⟨_, rfl⟩
            have hNSz : NS.size ≤ 3 := by rw [hNS]; unfold numS; rw [mk_size, numL_len]; omega
            have HCN := Lib.hid (fun W => rnumber_any f.s.size W (by omega))
            rw [← hNS] at HCN
            obtain ⟨TB, hTB⟩ : ∃ TB : ByteArray, TB = ⟨#[tagB f]⟩ := ⟨_, rfl⟩
            have hTBz : TB.size = 1 := by rw [hTB]; rfl
            have hcv := str_one (P := Tryd.prog) 60 9 5 Tryd.underlying60 Tryd.underlying5 Tryd.underlying9 (IntKind.u8.wrap (IntKind.i64.wrap (IntKind.i64.wrap (2 * f.tag) + 1))) (tagB f) (by rw [IntKind.wrap_i64, IntKind.wrap_i64, IntKind.wrap_u8, ← tagB_is HMT.out (2 * f.tag + 1) (by rw [hT]; rfl)]; omega)
            rw [← hTB] at hcv
            obtain ⟨X1, hX1⟩ : ∃ X1, X1 = S ++ TB := ⟨_, rfl⟩
            have hz1 : X1.size ≤ 64330 := by rw [hX1, app_size]; omega
            obtain ⟨X2, hX2⟩ : ∃ X2, X2 = X1 ++ NS := ⟨_, rfl⟩
            have hz2 : X2.size ≤ 64340 := by rw [hX2, app_size]; omega
            obtain ⟨X3, hX3⟩ : ∃ X3, X3 = X2 ++ f.s := ⟨_, rfl⟩
            have ha1 : ∀ W, (Op.stringOp .add S TB).run Tryd.prog W = .ok (.string X1) W := fun W => by rw [hX1]; exact run_string_add_sum W _ _ (by omega)
            have ha2 : ∀ W, (Op.stringOp .add X1 NS).run Tryd.prog W = .ok (.string X2) W := fun W => by rw [hX2]; exact run_string_add_sum W _ _ (by omega)
            have ha3 : ∀ W, (Op.stringOp .add X2 f.s).run Tryd.prog W = .ok (.string X3) W := fun W => by rw [hX3]; exact run_string_add_sum W _ _ (by omega)
            have HX3 : Hid (X3 = ⟨(flatL (l.take ((j + 1) + 1))).toArray⟩) := by
              show X3 = _
              rw [HFE.out, fieldL_t hT, hX3, hX2, hX1, hTB, hNS, HSS.out]
              unfold numS
              rw [show (⟨#[tagB f]⟩ : ByteArray) = ⟨[tagB f].toArray⟩ from rfl, mk_app, mk_app]
              conv => lhs; rw [← mk_list f.s]
              rw [mk_app]
              simp
            clear hX1 hX2 hX3 hTB hNS
            rw [hT] at z1
            go_wp2_with fail
            refine wp_region_held_drew (S := (fun w' => w'.cell? ⟨wr.heap.size, 0, none⟩ = some (.int .i64 f.tag) ∧ w'.cell? ⟨wr.heap.size, 1, none⟩ = some (.bool f.isT) ∧ w'.cell? ⟨wr.heap.size, 2, none⟩ = some (.int .u64 (f.n : Nat)) ∧ w'.cell? ⟨wr.heap.size, 3, none⟩ = some (.string f.s) ∧ w'.heap[wr.heap.size]? = some (.cells #[.int .i64 f.tag, .bool f.isT, .int .u64 (f.n : Nat), .string f.s] 50 (0, 0)) ∧ Below w.heap.size w w')) (by kernel_rfl) ?hSsbt (fun hHeld => ?restSbt)
            case hSsbt => exact box_SB (w' := wq.drew) HBXQ.out HBQ.out.drew
            refine wpAnyH_take (i := 0) (v := ?vbt0) rfl (by kernel_rfl) (by kernel_rfl) (by kernel_rfl) (fun _ _ _ h => h) (Or.inl ⟨by rfl, ?hybt0⟩) (by assumption) ?restbt0
            case hybt0 =>
              intro w hSw
              (try dsimp only at hSw)
              go_simp
              all_goals with_reducible rfl
            try simp only [Act.put, List.getElem_toArray, List.getElem_cons_succ, List.getElem_cons_zero, List.setIfInBounds_toArray, List.set_cons_zero, List.set_cons_succ]
            refine wpAnyH_take (i := 1) (v := ?vbt1) rfl (by kernel_rfl) (by kernel_rfl) (by kernel_rfl) (fun _ _ _ h => h) (Or.inl ⟨by rfl, ?hybt1⟩) (by assumption) ?restbt1
            case hybt1 =>
              intro w hSw
              (try dsimp only at hSw)
              go_simp
              all_goals with_reducible rfl
            try simp only [Act.put, List.getElem_toArray, List.getElem_cons_succ, List.getElem_cons_zero, List.setIfInBounds_toArray, List.set_cons_zero, List.set_cons_succ]
            refine wpAnyH_take (i := 2) (v := ?vbt2) rfl (by kernel_rfl) (by kernel_rfl) (by kernel_rfl) (fun _ _ _ h => h) (Or.inl ⟨by rfl, ?hybt2⟩) (by assumption) ?restbt2
            case hybt2 =>
              intro w hSw
              (try dsimp only at hSw)
              go_simp
              all_goals with_reducible rfl
            try simp only [Act.put, List.getElem_toArray, List.getElem_cons_succ, List.getElem_cons_zero, List.setIfInBounds_toArray, List.set_cons_zero, List.set_cons_succ]
            refine wpAnyH_take (i := 3) (v := ?vbt3) rfl (by kernel_rfl) (by kernel_rfl) (by kernel_rfl) (fun _ _ _ h => h) (Or.inl ⟨by rfl, ?hybt3⟩) (by assumption) ?restbt3
            case hybt3 =>
              intro w hSw
              (try dsimp only at hSw)
              go_simp
              all_goals with_reducible rfl
            try simp only [Act.put, List.getElem_toArray, List.getElem_cons_succ, List.getElem_cons_zero, List.setIfInBounds_toArray, List.set_cons_zero, List.set_cons_succ]
            refine wpAnyH_take (i := 4) (v := ?vbt4) rfl (by kernel_rfl) (by kernel_rfl) (by kernel_rfl) (fun _ _ _ h => h) (Or.inl ⟨by rfl, ?hybt4⟩) (by assumption) ?restbt4
            case hybt4 =>
              intro w hSw
              (try dsimp only at hSw)
              go_simp
              all_goals with_reducible rfl
            try simp only [Act.put, List.getElem_toArray, List.getElem_cons_succ, List.getElem_cons_zero, List.setIfInBounds_toArray, List.set_cons_zero, List.set_cons_succ]
            refine wpAnyH_take (i := 5) (v := ?vbt5) rfl (by kernel_rfl) (by kernel_rfl) (by kernel_rfl) (fun _ _ _ h => h) (Or.inl ⟨by rfl, ?hybt5⟩) (by assumption) ?restbt5
            case hybt5 =>
              intro w hSw
              (try dsimp only at hSw)
              go_simp
              all_goals with_reducible rfl
            try simp only [Act.put, List.getElem_toArray, List.getElem_cons_succ, List.getElem_cons_zero, List.setIfInBounds_toArray, List.set_cons_zero, List.set_cons_succ]
            refine wpAnyH_take (i := 9) (v := ?vbt6) rfl (by kernel_rfl) (by kernel_rfl) (by kernel_rfl) (fun _ _ _ h => h) (Or.inl ⟨by rfl, ?hybt6⟩) (by assumption) ?restbt6
            case hybt6 =>
              intro w hSw
              (try dsimp only at hSw)
              go_simp
              all_goals with_reducible rfl
            try simp only [Act.put, List.getElem_toArray, List.getElem_cons_succ, List.getElem_cons_zero, List.setIfInBounds_toArray, List.set_cons_zero, List.set_cons_succ]
            refine wpAnyH_take (i := 10) (v := ?vbt7) rfl (by kernel_rfl) (by kernel_rfl) (by kernel_rfl) (fun _ _ _ h => h) (Or.inl ⟨by rfl, ?hybt7⟩) (by assumption) ?restbt7
            case hybt7 =>
              intro w hSw
              (try dsimp only at hSw)
              go_simp
              all_goals with_reducible rfl
            try simp only [Act.put, List.getElem_toArray, List.getElem_cons_succ, List.getElem_cons_zero, List.setIfInBounds_toArray, List.set_cons_zero, List.set_cons_succ]
            refine wpAnyH_take (i := 11) (v := ?vbt8) rfl (by kernel_rfl) (by kernel_rfl) (by kernel_rfl) (fun _ _ _ h => h) (Or.inl ⟨by rfl, ?hybt8⟩) (by assumption) ?restbt8
            case hybt8 =>
              intro w hSw
              (try dsimp only at hSw)
              go_simp
              all_goals with_reducible rfl
            try simp only [Act.put, List.getElem_toArray, List.getElem_cons_succ, List.getElem_cons_zero, List.setIfInBounds_toArray, List.set_cons_zero, List.set_cons_succ]
            refine wpAnyH_take (i := 12) (v := ?vbt9) rfl (by kernel_rfl) (by kernel_rfl) (by kernel_rfl) (fun _ _ _ h => h) (Or.inl ⟨by rfl, ?hybt9⟩) (by assumption) ?restbt9
            case hybt9 =>
              intro w hSw
              (try dsimp only at hSw)
              go_simp
              all_goals with_reducible rfl
            try simp only [Act.put, List.getElem_toArray, List.getElem_cons_succ, List.getElem_cons_zero, List.setIfInBounds_toArray, List.set_cons_zero, List.set_cons_succ]
            refine wpAnyH_take (i := 15) (v := ?vbt10) rfl (by kernel_rfl) (by kernel_rfl) (by kernel_rfl) (fun _ _ _ h => h) (Or.inl ⟨by rfl, ?hybt10⟩) (by assumption) ?restbt10
            case hybt10 =>
              intro w hSw
              (try dsimp only at hSw)
              go_simp
              all_goals with_reducible rfl
            try simp only [Act.put, List.getElem_toArray, List.getElem_cons_succ, List.getElem_cons_zero, List.setIfInBounds_toArray, List.set_cons_zero, List.set_cons_succ]
            refine wpAnyH_take (i := 16) (v := ?vbt11) rfl (by kernel_rfl) (by kernel_rfl) (by kernel_rfl) (fun _ _ _ h => h) (Or.inl ⟨by rfl, ?hybt11⟩) (by assumption) ?restbt11
            case hybt11 =>
              intro w hSw
              (try dsimp only at hSw)
              go_simp
              all_goals with_reducible rfl
            try simp only [Act.put, List.getElem_toArray, List.getElem_cons_succ, List.getElem_cons_zero, List.setIfInBounds_toArray, List.set_cons_zero, List.set_cons_succ]
            refine wpAnyH_ready (rs := [6, 13]) (by kernel_rfl) (by simp) ?_
            refine AllReadyH.cons rfl (fun K hK => ?_) (AllReadyH.cons rfl (fun K hK => ?_) (AllReadyH.nil))
            · try go_simp
              refine hK.out _ _ ?hScbt12 (fun hHeld => ?restcbt12)
              case hScbt12 => first | exact box_SB (kept_box (KeptT.alloc 5 _ _) hHeld.2.2.2.2.1 (by decide)) (below_ad hHeld.2.2.2.2.2) | exact box_SB (kept_box (KeptT.alloc 5 _ _) hHeld.2.2.2.2.1 (by decide)) (hHeld.2.2.2.2.2.alloc hHeld.2.2.2.2.2.size _)
              clear hK K
              try simp only [Act.put, List.getElem_toArray, List.getElem_cons_succ, List.getElem_cons_zero, List.setIfInBounds_toArray, List.set_cons_zero, List.set_cons_succ]
              refine wpAnyH_ready (rs := [7, 13]) (by kernel_rfl) (by simp) ?_
              refine AllReadyH.cons rfl (fun K hK => ?_) (AllReadyH.cons rfl (fun K hK => ?_) (AllReadyH.nil))
              · have hcc0 := cell_new wq (.int .u8 (IntKind.u8.wrap (IntKind.i64.wrap (IntKind.i64.wrap (2 * f.tag) + 1)))) 5
                try (have hcc := keepC hBs hcc0)
                try go_simp
                refine hK.out _ _ ?hScbt13 (fun hHeld => ?restcbt13)
                case hScbt13 => exact hHeld
                clear hK K
                try simp only [Act.put, List.getElem_toArray, List.getElem_cons_succ, List.getElem_cons_zero, List.setIfInBounds_toArray, List.set_cons_zero, List.set_cons_succ]
                refine wpAnyH_take (i := 8) (v := ?vbt14) rfl (by kernel_rfl) (by kernel_rfl) (by kernel_rfl) (fun _ _ _ h => h) (Or.inl ⟨by rfl, ?hybt14⟩) (by assumption) ?restbt14
                case hybt14 =>
                  intro w hSw
                  (try dsimp only at hSw)
                  go_simp
                  all_goals with_reducible rfl
                try simp only [Act.put, List.getElem_toArray, List.getElem_cons_succ, List.getElem_cons_zero, List.setIfInBounds_toArray, List.set_cons_zero, List.set_cons_succ]
                refine wpAnyH_ready (rs := [13]) (by kernel_rfl) (by simp) ?_
                refine AllReadyH.cons rfl (fun K hK => ?_) (AllReadyH.nil)
                try go_simp
                go_at_call 23
                refine (HCN.out _).mono ?_
                rintro e w4 ⟨rfl, hBs⟩
                refine hK.out _ _ ?hScbt15 (fun hHeld => ?restcbt15)
                case hScbt15 => exact box_SB (below_box hBs hHeld.2.2.2.2.1) (bstep7 hHeld.2.2.2.2.2 hBs)
                clear hK K
                try simp only [Act.put, List.getElem_toArray, List.getElem_cons_succ, List.getElem_cons_zero, List.setIfInBounds_toArray, List.set_cons_zero, List.set_cons_succ]
                refine wpAnyH_take (i := 14) (v := ?vbt16) rfl (by kernel_rfl) (by kernel_rfl) (by kernel_rfl) (fun _ _ _ h => h) (Or.inl ⟨by rfl, ?hybt16⟩) (by assumption) ?restbt16
                case hybt16 =>
                  intro w hSw
                  (try dsimp only at hSw)
                  go_simp
                  all_goals with_reducible rfl
                try simp only [Act.put, List.getElem_toArray, List.getElem_cons_succ, List.getElem_cons_zero, List.setIfInBounds_toArray, List.set_cons_zero, List.set_cons_succ]
                refine wpAnyH_take (i := 17) (v := ?vbt17) rfl (by kernel_rfl) (by kernel_rfl) (by kernel_rfl) (fun _ _ _ h => h) (Or.inl ⟨by rfl, ?hybt17⟩) (by assumption) ?restbt17
                case hybt17 =>
                  intro w hSw
                  (try dsimp only at hSw)
                  go_simp
                  all_goals with_reducible rfl
                try simp only [Act.put, List.getElem_toArray, List.getElem_cons_succ, List.getElem_cons_zero, List.setIfInBounds_toArray, List.set_cons_zero, List.set_cons_succ]
                refine wpAnyH_take (i := 18) (v := ?vbt18) rfl (by kernel_rfl) (by kernel_rfl) (by kernel_rfl) (fun _ _ _ h => h) (Or.inl ⟨by rfl, ?hybt18⟩) (by assumption) ?restbt18
                case hybt18 =>
                  intro w hSw
                  (try dsimp only at hSw)
                  go_simp
                  all_goals with_reducible rfl
                try simp only [Act.put, List.getElem_toArray, List.getElem_cons_succ, List.getElem_cons_zero, List.setIfInBounds_toArray, List.set_cons_zero, List.set_cons_succ]
                refine wpAnyH_done (by kernel_rfl) ?_ _
                go_wp2_with fail
                go_roundw
                case rel => exact ⟨j + 1 + 1, _, by omega, by go_num, rfl, HX3.out, HNX.out, HKN.out, by first | exact hHeld.2.2.2.2.2 | exact below_any (Nat.le_trans HBQ.out.size hBs.size) hHeld.2.2.2.2.2⟩
                case measure => simp [intOf]; omega
              · try go_simp
                go_at_call 23
                refine (HCN.out _).mono ?_
                rintro e w4 ⟨rfl, hBs⟩
                refine hK.out _ _ ?hScbt19 (fun hHeld => ?restcbt19)
                case hScbt19 => exact box_SB (below_box hBs hHeld.2.2.2.2.1) (bstep7 hHeld.2.2.2.2.2 hBs)
                clear hK K
                try simp only [Act.put, List.getElem_toArray, List.getElem_cons_succ, List.getElem_cons_zero, List.setIfInBounds_toArray, List.set_cons_zero, List.set_cons_succ]
                refine wpAnyH_ready (rs := [7]) (by kernel_rfl) (by simp) ?_
                refine AllReadyH.cons rfl (fun K hK => ?_) (AllReadyH.nil)
                have hcc0 := cell_new wq (.int .u8 (IntKind.u8.wrap (IntKind.i64.wrap (IntKind.i64.wrap (2 * f.tag) + 1)))) 5
                try (have hcc := keepC hBs hcc0)
                try go_simp
                refine hK.out _ _ ?hScbt20 (fun hHeld => ?restcbt20)
                case hScbt20 => exact hHeld
                clear hK K
                try simp only [Act.put, List.getElem_toArray, List.getElem_cons_succ, List.getElem_cons_zero, List.setIfInBounds_toArray, List.set_cons_zero, List.set_cons_succ]
                refine wpAnyH_take (i := 8) (v := ?vbt21) rfl (by kernel_rfl) (by kernel_rfl) (by kernel_rfl) (fun _ _ _ h => h) (Or.inl ⟨by rfl, ?hybt21⟩) (by assumption) ?restbt21
                case hybt21 =>
                  intro w hSw
                  (try dsimp only at hSw)
                  go_simp
                  all_goals with_reducible rfl
                try simp only [Act.put, List.getElem_toArray, List.getElem_cons_succ, List.getElem_cons_zero, List.setIfInBounds_toArray, List.set_cons_zero, List.set_cons_succ]
                refine wpAnyH_take (i := 14) (v := ?vbt22) rfl (by kernel_rfl) (by kernel_rfl) (by kernel_rfl) (fun _ _ _ h => h) (Or.inl ⟨by rfl, ?hybt22⟩) (by assumption) ?restbt22
                case hybt22 =>
                  intro w hSw
                  (try dsimp only at hSw)
                  go_simp
                  all_goals with_reducible rfl
                try simp only [Act.put, List.getElem_toArray, List.getElem_cons_succ, List.getElem_cons_zero, List.setIfInBounds_toArray, List.set_cons_zero, List.set_cons_succ]
                refine wpAnyH_take (i := 17) (v := ?vbt23) rfl (by kernel_rfl) (by kernel_rfl) (by kernel_rfl) (fun _ _ _ h => h) (Or.inl ⟨by rfl, ?hybt23⟩) (by assumption) ?restbt23
                case hybt23 =>
                  intro w hSw
                  (try dsimp only at hSw)
                  go_simp
                  all_goals with_reducible rfl
                try simp only [Act.put, List.getElem_toArray, List.getElem_cons_succ, List.getElem_cons_zero, List.setIfInBounds_toArray, List.set_cons_zero, List.set_cons_succ]
                refine wpAnyH_take (i := 18) (v := ?vbt24) rfl (by kernel_rfl) (by kernel_rfl) (by kernel_rfl) (fun _ _ _ h => h) (Or.inl ⟨by rfl, ?hybt24⟩) (by assumption) ?restbt24
                case hybt24 =>
                  intro w hSw
                  (try dsimp only at hSw)
                  go_simp
                  all_goals with_reducible rfl
                try simp only [Act.put, List.getElem_toArray, List.getElem_cons_succ, List.getElem_cons_zero, List.setIfInBounds_toArray, List.set_cons_zero, List.set_cons_succ]
                refine wpAnyH_done (by kernel_rfl) ?_ _
                go_wp2_with fail
                go_roundw
                case rel => exact ⟨j + 1 + 1, _, by omega, by go_num, rfl, HX3.out, HNX.out, HKN.out, by first | exact hHeld.2.2.2.2.2 | exact below_any (Nat.le_trans HBQ.out.size hBs.size) hHeld.2.2.2.2.2⟩
                case measure => simp [intOf]; omega
            · try go_simp
              go_at_call 23
              refine (HCN.out _).mono ?_
              rintro e w4 ⟨rfl, hBs⟩
              refine hK.out _ _ ?hScbt25 (fun hHeld => ?restcbt25)
              case hScbt25 => exact box_SB (below_box hBs hHeld.2.2.2.2.1) (bstep7 hHeld.2.2.2.2.2 hBs)
              clear hK K
              try simp only [Act.put, List.getElem_toArray, List.getElem_cons_succ, List.getElem_cons_zero, List.setIfInBounds_toArray, List.set_cons_zero, List.set_cons_succ]
              refine wpAnyH_ready (rs := [6]) (by kernel_rfl) (by simp) ?_
              refine AllReadyH.cons rfl (fun K hK => ?_) (AllReadyH.nil)
              try go_simp
              refine hK.out _ _ ?hScbt26 (fun hHeld => ?restcbt26)
              case hScbt26 => first | exact box_SB (kept_box (KeptT.alloc 5 _ _) hHeld.2.2.2.2.1 (by decide)) (below_ad hHeld.2.2.2.2.2) | exact box_SB (kept_box (KeptT.alloc 5 _ _) hHeld.2.2.2.2.1 (by decide)) (hHeld.2.2.2.2.2.alloc hHeld.2.2.2.2.2.size _)
              clear hK K
              try simp only [Act.put, List.getElem_toArray, List.getElem_cons_succ, List.getElem_cons_zero, List.setIfInBounds_toArray, List.set_cons_zero, List.set_cons_succ]
              refine wpAnyH_ready (rs := [7]) (by kernel_rfl) (by simp) ?_
              refine AllReadyH.cons rfl (fun K hK => ?_) (AllReadyH.nil)
              have hcc0 := cell_new wq (.int .u8 (IntKind.u8.wrap (IntKind.i64.wrap (IntKind.i64.wrap (2 * f.tag) + 1)))) 5
              try (have hcc := keepC hBs hcc0)
              try go_simp
              refine hK.out _ _ ?hScbt27 (fun hHeld => ?restcbt27)
              case hScbt27 => exact hHeld
              clear hK K
              try simp only [Act.put, List.getElem_toArray, List.getElem_cons_succ, List.getElem_cons_zero, List.setIfInBounds_toArray, List.set_cons_zero, List.set_cons_succ]
              refine wpAnyH_take (i := 8) (v := ?vbt28) rfl (by kernel_rfl) (by kernel_rfl) (by kernel_rfl) (fun _ _ _ h => h) (Or.inl ⟨by rfl, ?hybt28⟩) (by assumption) ?restbt28
              case hybt28 =>
                intro w hSw
                (try dsimp only at hSw)
                go_simp
                all_goals with_reducible rfl
              try simp only [Act.put, List.getElem_toArray, List.getElem_cons_succ, List.getElem_cons_zero, List.setIfInBounds_toArray, List.set_cons_zero, List.set_cons_succ]
              refine wpAnyH_take (i := 14) (v := ?vbt29) rfl (by kernel_rfl) (by kernel_rfl) (by kernel_rfl) (fun _ _ _ h => h) (Or.inl ⟨by rfl, ?hybt29⟩) (by assumption) ?restbt29
              case hybt29 =>
                intro w hSw
                (try dsimp only at hSw)
                go_simp
                all_goals with_reducible rfl
              try simp only [Act.put, List.getElem_toArray, List.getElem_cons_succ, List.getElem_cons_zero, List.setIfInBounds_toArray, List.set_cons_zero, List.set_cons_succ]
              refine wpAnyH_take (i := 17) (v := ?vbt30) rfl (by kernel_rfl) (by kernel_rfl) (by kernel_rfl) (fun _ _ _ h => h) (Or.inl ⟨by rfl, ?hybt30⟩) (by assumption) ?restbt30
              case hybt30 =>
                intro w hSw
                (try dsimp only at hSw)
                go_simp
                all_goals with_reducible rfl
              try simp only [Act.put, List.getElem_toArray, List.getElem_cons_succ, List.getElem_cons_zero, List.setIfInBounds_toArray, List.set_cons_zero, List.set_cons_succ]
              refine wpAnyH_take (i := 18) (v := ?vbt31) rfl (by kernel_rfl) (by kernel_rfl) (by kernel_rfl) (fun _ _ _ h => h) (Or.inl ⟨by rfl, ?hybt31⟩) (by assumption) ?restbt31
              case hybt31 =>
                intro w hSw
                (try dsimp only at hSw)
                go_simp
                all_goals with_reducible rfl
              try simp only [Act.put, List.getElem_toArray, List.getElem_cons_succ, List.getElem_cons_zero, List.setIfInBounds_toArray, List.set_cons_zero, List.set_cons_succ]
              refine wpAnyH_done (by kernel_rfl) ?_ _
              go_wp2_with fail
              go_roundw
              case rel => exact ⟨j + 1 + 1, _, by omega, by go_num, rfl, HX3.out, HNX.out, HKN.out, by first | exact hHeld.2.2.2.2.2 | exact below_any (Nat.le_trans HBQ.out.size hBs.size) hHeld.2.2.2.2.2⟩
              case measure => simp [intOf]; omega
          | false =>
            obtain ⟨NS, hNS⟩ : ∃ NS, NS = numS f.n := ⟨_, rfl⟩
            have hn8 := nb_8 HMN.out
            have hNSz : NS.size ≤ 9 := by rw [hNS]; unfold numS; rw [mk_size, numL_len]; omega
            have HCN := Lib.hid (fun W => rnumber_any f.n W HMN.out)
            rw [← hNS] at HCN
            obtain ⟨TB, hTB⟩ : ∃ TB : ByteArray, TB = ⟨#[tagB f]⟩ := ⟨_, rfl⟩
            have hTBz : TB.size = 1 := by rw [hTB]; rfl
            have hcv := str_one (P := Tryd.prog) 60 9 5 Tryd.underlying60 Tryd.underlying5 Tryd.underlying9 (IntKind.u8.wrap (IntKind.i64.wrap (2 * f.tag))) (tagB f) (by rw [IntKind.wrap_i64, IntKind.wrap_u8, ← tagB_is HMT.out (2 * f.tag) (by rw [hT]; simp)]; omega)
            rw [← hTB] at hcv
            obtain ⟨X1, hX1⟩ : ∃ X1, X1 = S ++ TB := ⟨_, rfl⟩
            have hz1 : X1.size ≤ 64330 := by rw [hX1, app_size]; omega
            obtain ⟨X3, hX3⟩ : ∃ X3, X3 = X1 ++ NS := ⟨_, rfl⟩
            have ha1 : ∀ W, (Op.stringOp .add S TB).run Tryd.prog W = .ok (.string X1) W := fun W => by rw [hX1]; exact run_string_add_sum W _ _ (by omega)
            have ha2 : ∀ W, (Op.stringOp .add X1 NS).run Tryd.prog W = .ok (.string X3) W := fun W => by rw [hX3]; exact run_string_add_sum W _ _ (by omega)
            have HX3 : Hid (X3 = ⟨(flatL (l.take ((j + 1) + 1))).toArray⟩) := by
              show X3 = _
              rw [HFE.out, fieldL_n hT, hX3, hX1, hTB, hNS, HSS.out]
              unfold numS
              rw [show (⟨#[tagB f]⟩ : ByteArray) = ⟨[tagB f].toArray⟩ from rfl, mk_app, mk_app]
              simp
            clear hX1 hX3 hTB hNS
            rw [hT] at z1
            go_wp2_with fail
            refine wp_region_held_drew (S := (fun w' => w'.cell? ⟨wr.heap.size, 0, none⟩ = some (.int .i64 f.tag) ∧ w'.cell? ⟨wr.heap.size, 1, none⟩ = some (.bool f.isT) ∧ w'.cell? ⟨wr.heap.size, 2, none⟩ = some (.int .u64 (f.n : Nat)) ∧ w'.cell? ⟨wr.heap.size, 3, none⟩ = some (.string f.s) ∧ w'.heap[wr.heap.size]? = some (.cells #[.int .i64 f.tag, .bool f.isT, .int .u64 (f.n : Nat), .string f.s] 50 (0, 0)) ∧ Below w.heap.size w w')) (by kernel_rfl) ?hSsbf (fun hHeld => ?restSbf)
            case hSsbf => exact box_SB (w' := wq.drew) HBXQ.out HBQ.out.drew
            refine wpAnyH_take (i := 0) (v := ?vbf0) rfl (by kernel_rfl) (by kernel_rfl) (by kernel_rfl) (fun _ _ _ h => h) (Or.inl ⟨by rfl, ?hybf0⟩) (by assumption) ?restbf0
            case hybf0 =>
              intro w hSw
              (try dsimp only at hSw)
              go_simp
              all_goals with_reducible rfl
            try simp only [Act.put, List.getElem_toArray, List.getElem_cons_succ, List.getElem_cons_zero, List.setIfInBounds_toArray, List.set_cons_zero, List.set_cons_succ]
            refine wpAnyH_take (i := 1) (v := ?vbf1) rfl (by kernel_rfl) (by kernel_rfl) (by kernel_rfl) (fun _ _ _ h => h) (Or.inl ⟨by rfl, ?hybf1⟩) (by assumption) ?restbf1
            case hybf1 =>
              intro w hSw
              (try dsimp only at hSw)
              go_simp
              all_goals with_reducible rfl
            try simp only [Act.put, List.getElem_toArray, List.getElem_cons_succ, List.getElem_cons_zero, List.setIfInBounds_toArray, List.set_cons_zero, List.set_cons_succ]
            refine wpAnyH_take (i := 2) (v := ?vbf2) rfl (by kernel_rfl) (by kernel_rfl) (by kernel_rfl) (fun _ _ _ h => h) (Or.inl ⟨by rfl, ?hybf2⟩) (by assumption) ?restbf2
            case hybf2 =>
              intro w hSw
              (try dsimp only at hSw)
              go_simp
              all_goals with_reducible rfl
            try simp only [Act.put, List.getElem_toArray, List.getElem_cons_succ, List.getElem_cons_zero, List.setIfInBounds_toArray, List.set_cons_zero, List.set_cons_succ]
            refine wpAnyH_take (i := 3) (v := ?vbf3) rfl (by kernel_rfl) (by kernel_rfl) (by kernel_rfl) (fun _ _ _ h => h) (Or.inl ⟨by rfl, ?hybf3⟩) (by assumption) ?restbf3
            case hybf3 =>
              intro w hSw
              (try dsimp only at hSw)
              go_simp
              all_goals with_reducible rfl
            try simp only [Act.put, List.getElem_toArray, List.getElem_cons_succ, List.getElem_cons_zero, List.setIfInBounds_toArray, List.set_cons_zero, List.set_cons_succ]
            refine wpAnyH_take (i := 4) (v := ?vbf4) rfl (by kernel_rfl) (by kernel_rfl) (by kernel_rfl) (fun _ _ _ h => h) (Or.inl ⟨by rfl, ?hybf4⟩) (by assumption) ?restbf4
            case hybf4 =>
              intro w hSw
              (try dsimp only at hSw)
              go_simp
              all_goals with_reducible rfl
            try simp only [Act.put, List.getElem_toArray, List.getElem_cons_succ, List.getElem_cons_zero, List.setIfInBounds_toArray, List.set_cons_zero, List.set_cons_succ]
            refine wpAnyH_take (i := 8) (v := ?vbf5) rfl (by kernel_rfl) (by kernel_rfl) (by kernel_rfl) (fun _ _ _ h => h) (Or.inl ⟨by rfl, ?hybf5⟩) (by assumption) ?restbf5
            case hybf5 =>
              intro w hSw
              (try dsimp only at hSw)
              go_simp
              all_goals with_reducible rfl
            try simp only [Act.put, List.getElem_toArray, List.getElem_cons_succ, List.getElem_cons_zero, List.setIfInBounds_toArray, List.set_cons_zero, List.set_cons_succ]
            refine wpAnyH_take (i := 9) (v := ?vbf6) rfl (by kernel_rfl) (by kernel_rfl) (by kernel_rfl) (fun _ _ _ h => h) (Or.inl ⟨by rfl, ?hybf6⟩) (by assumption) ?restbf6
            case hybf6 =>
              intro w hSw
              (try dsimp only at hSw)
              go_simp
              all_goals with_reducible rfl
            try simp only [Act.put, List.getElem_toArray, List.getElem_cons_succ, List.getElem_cons_zero, List.setIfInBounds_toArray, List.set_cons_zero, List.set_cons_succ]
            refine wpAnyH_ready (rs := [5, 10]) (by kernel_rfl) (by simp) ?_
            refine AllReadyH.cons rfl (fun K hK => ?_) (AllReadyH.cons rfl (fun K hK => ?_) (AllReadyH.nil))
            · try go_simp
              refine hK.out _ _ ?hScbf7 (fun hHeld => ?restcbf7)
              case hScbf7 => first | exact box_SB (kept_box (KeptT.alloc 5 _ _) hHeld.2.2.2.2.1 (by decide)) (below_ad hHeld.2.2.2.2.2) | exact box_SB (kept_box (KeptT.alloc 5 _ _) hHeld.2.2.2.2.1 (by decide)) (hHeld.2.2.2.2.2.alloc hHeld.2.2.2.2.2.size _)
              clear hK K
              try simp only [Act.put, List.getElem_toArray, List.getElem_cons_succ, List.getElem_cons_zero, List.setIfInBounds_toArray, List.set_cons_zero, List.set_cons_succ]
              refine wpAnyH_ready (rs := [6, 10]) (by kernel_rfl) (by simp) ?_
              refine AllReadyH.cons rfl (fun K hK => ?_) (AllReadyH.cons rfl (fun K hK => ?_) (AllReadyH.nil))
              · have hcc0 := cell_new wq (.int .u8 (IntKind.u8.wrap (IntKind.i64.wrap (2 * f.tag)))) 5
                try (have hcc := keepC hBs hcc0)
                try go_simp
                refine hK.out _ _ ?hScbf8 (fun hHeld => ?restcbf8)
                case hScbf8 => exact hHeld
                clear hK K
                try simp only [Act.put, List.getElem_toArray, List.getElem_cons_succ, List.getElem_cons_zero, List.setIfInBounds_toArray, List.set_cons_zero, List.set_cons_succ]
                refine wpAnyH_take (i := 7) (v := ?vbf9) rfl (by kernel_rfl) (by kernel_rfl) (by kernel_rfl) (fun _ _ _ h => h) (Or.inl ⟨by rfl, ?hybf9⟩) (by assumption) ?restbf9
                case hybf9 =>
                  intro w hSw
                  (try dsimp only at hSw)
                  go_simp
                  all_goals with_reducible rfl
                try simp only [Act.put, List.getElem_toArray, List.getElem_cons_succ, List.getElem_cons_zero, List.setIfInBounds_toArray, List.set_cons_zero, List.set_cons_succ]
                refine wpAnyH_ready (rs := [10]) (by kernel_rfl) (by simp) ?_
                refine AllReadyH.cons rfl (fun K hK => ?_) (AllReadyH.nil)
                try go_simp
                go_at_call 23
                refine (HCN.out _).mono ?_
                rintro e w4 ⟨rfl, hBs⟩
                refine hK.out _ _ ?hScbf10 (fun hHeld => ?restcbf10)
                case hScbf10 => exact box_SB (below_box hBs hHeld.2.2.2.2.1) (bstep7 hHeld.2.2.2.2.2 hBs)
                clear hK K
                try simp only [Act.put, List.getElem_toArray, List.getElem_cons_succ, List.getElem_cons_zero, List.setIfInBounds_toArray, List.set_cons_zero, List.set_cons_succ]
                refine wpAnyH_take (i := 11) (v := ?vbf11) rfl (by kernel_rfl) (by kernel_rfl) (by kernel_rfl) (fun _ _ _ h => h) (Or.inl ⟨by rfl, ?hybf11⟩) (by assumption) ?restbf11
                case hybf11 =>
                  intro w hSw
                  (try dsimp only at hSw)
                  go_simp
                  all_goals with_reducible rfl
                try simp only [Act.put, List.getElem_toArray, List.getElem_cons_succ, List.getElem_cons_zero, List.setIfInBounds_toArray, List.set_cons_zero, List.set_cons_succ]
                refine wpAnyH_take (i := 12) (v := ?vbf12) rfl (by kernel_rfl) (by kernel_rfl) (by kernel_rfl) (fun _ _ _ h => h) (Or.inl ⟨by rfl, ?hybf12⟩) (by assumption) ?restbf12
                case hybf12 =>
                  intro w hSw
                  (try dsimp only at hSw)
                  go_simp
                  all_goals with_reducible rfl
                try simp only [Act.put, List.getElem_toArray, List.getElem_cons_succ, List.getElem_cons_zero, List.setIfInBounds_toArray, List.set_cons_zero, List.set_cons_succ]
                refine wpAnyH_done (by kernel_rfl) ?_ _
                go_wp2_with fail
                go_roundw
                case rel => exact ⟨j + 1 + 1, _, by omega, by go_num, rfl, HX3.out, HNX.out, HKN.out, by first | exact hHeld.2.2.2.2.2 | exact below_any (Nat.le_trans HBQ.out.size hBs.size) hHeld.2.2.2.2.2⟩
                case measure => simp [intOf]; omega
              · try go_simp
                go_at_call 23
                refine (HCN.out _).mono ?_
                rintro e w4 ⟨rfl, hBs⟩
                refine hK.out _ _ ?hScbf13 (fun hHeld => ?restcbf13)
                case hScbf13 => exact box_SB (below_box hBs hHeld.2.2.2.2.1) (bstep7 hHeld.2.2.2.2.2 hBs)
                clear hK K
                try simp only [Act.put, List.getElem_toArray, List.getElem_cons_succ, List.getElem_cons_zero, List.setIfInBounds_toArray, List.set_cons_zero, List.set_cons_succ]
                refine wpAnyH_ready (rs := [6]) (by kernel_rfl) (by simp) ?_
                refine AllReadyH.cons rfl (fun K hK => ?_) (AllReadyH.nil)
                have hcc0 := cell_new wq (.int .u8 (IntKind.u8.wrap (IntKind.i64.wrap (2 * f.tag)))) 5
                try (have hcc := keepC hBs hcc0)
                try go_simp
                refine hK.out _ _ ?hScbf14 (fun hHeld => ?restcbf14)
                case hScbf14 => exact hHeld
                clear hK K
                try simp only [Act.put, List.getElem_toArray, List.getElem_cons_succ, List.getElem_cons_zero, List.setIfInBounds_toArray, List.set_cons_zero, List.set_cons_succ]
                refine wpAnyH_take (i := 7) (v := ?vbf15) rfl (by kernel_rfl) (by kernel_rfl) (by kernel_rfl) (fun _ _ _ h => h) (Or.inl ⟨by rfl, ?hybf15⟩) (by assumption) ?restbf15
                case hybf15 =>
                  intro w hSw
                  (try dsimp only at hSw)
                  go_simp
                  all_goals with_reducible rfl
                try simp only [Act.put, List.getElem_toArray, List.getElem_cons_succ, List.getElem_cons_zero, List.setIfInBounds_toArray, List.set_cons_zero, List.set_cons_succ]
                refine wpAnyH_take (i := 11) (v := ?vbf16) rfl (by kernel_rfl) (by kernel_rfl) (by kernel_rfl) (fun _ _ _ h => h) (Or.inl ⟨by rfl, ?hybf16⟩) (by assumption) ?restbf16
                case hybf16 =>
                  intro w hSw
                  (try dsimp only at hSw)
                  go_simp
                  all_goals with_reducible rfl
                try simp only [Act.put, List.getElem_toArray, List.getElem_cons_succ, List.getElem_cons_zero, List.setIfInBounds_toArray, List.set_cons_zero, List.set_cons_succ]
                refine wpAnyH_take (i := 12) (v := ?vbf17) rfl (by kernel_rfl) (by kernel_rfl) (by kernel_rfl) (fun _ _ _ h => h) (Or.inl ⟨by rfl, ?hybf17⟩) (by assumption) ?restbf17
                case hybf17 =>
                  intro w hSw
                  (try dsimp only at hSw)
                  go_simp
                  all_goals with_reducible rfl
                try simp only [Act.put, List.getElem_toArray, List.getElem_cons_succ, List.getElem_cons_zero, List.setIfInBounds_toArray, List.set_cons_zero, List.set_cons_succ]
                refine wpAnyH_done (by kernel_rfl) ?_ _
                go_wp2_with fail
                go_roundw
                case rel => exact ⟨j + 1 + 1, _, by omega, by go_num, rfl, HX3.out, HNX.out, HKN.out, by first | exact hHeld.2.2.2.2.2 | exact below_any (Nat.le_trans HBQ.out.size hBs.size) hHeld.2.2.2.2.2⟩
                case measure => simp [intOf]; omega
            · try go_simp
              go_at_call 23
              refine (HCN.out _).mono ?_
              rintro e w4 ⟨rfl, hBs⟩
              refine hK.out _ _ ?hScbf18 (fun hHeld => ?restcbf18)
              case hScbf18 => exact box_SB (below_box hBs hHeld.2.2.2.2.1) (bstep7 hHeld.2.2.2.2.2 hBs)
              clear hK K
              try simp only [Act.put, List.getElem_toArray, List.getElem_cons_succ, List.getElem_cons_zero, List.setIfInBounds_toArray, List.set_cons_zero, List.set_cons_succ]
              refine wpAnyH_ready (rs := [5]) (by kernel_rfl) (by simp) ?_
              refine AllReadyH.cons rfl (fun K hK => ?_) (AllReadyH.nil)
              try go_simp
              refine hK.out _ _ ?hScbf19 (fun hHeld => ?restcbf19)
              case hScbf19 => first | exact box_SB (kept_box (KeptT.alloc 5 _ _) hHeld.2.2.2.2.1 (by decide)) (below_ad hHeld.2.2.2.2.2) | exact box_SB (kept_box (KeptT.alloc 5 _ _) hHeld.2.2.2.2.1 (by decide)) (hHeld.2.2.2.2.2.alloc hHeld.2.2.2.2.2.size _)
              clear hK K
              try simp only [Act.put, List.getElem_toArray, List.getElem_cons_succ, List.getElem_cons_zero, List.setIfInBounds_toArray, List.set_cons_zero, List.set_cons_succ]
              refine wpAnyH_ready (rs := [6]) (by kernel_rfl) (by simp) ?_
              refine AllReadyH.cons rfl (fun K hK => ?_) (AllReadyH.nil)
              have hcc0 := cell_new wq (.int .u8 (IntKind.u8.wrap (IntKind.i64.wrap (2 * f.tag)))) 5
              try (have hcc := keepC hBs hcc0)
              try go_simp
              refine hK.out _ _ ?hScbf20 (fun hHeld => ?restcbf20)
              case hScbf20 => exact hHeld
              clear hK K
              try simp only [Act.put, List.getElem_toArray, List.getElem_cons_succ, List.getElem_cons_zero, List.setIfInBounds_toArray, List.set_cons_zero, List.set_cons_succ]
              refine wpAnyH_take (i := 7) (v := ?vbf21) rfl (by kernel_rfl) (by kernel_rfl) (by kernel_rfl) (fun _ _ _ h => h) (Or.inl ⟨by rfl, ?hybf21⟩) (by assumption) ?restbf21
              case hybf21 =>
                intro w hSw
                (try dsimp only at hSw)
                go_simp
                all_goals with_reducible rfl
              try simp only [Act.put, List.getElem_toArray, List.getElem_cons_succ, List.getElem_cons_zero, List.setIfInBounds_toArray, List.set_cons_zero, List.set_cons_succ]
              refine wpAnyH_take (i := 11) (v := ?vbf22) rfl (by kernel_rfl) (by kernel_rfl) (by kernel_rfl) (fun _ _ _ h => h) (Or.inl ⟨by rfl, ?hybf22⟩) (by assumption) ?restbf22
              case hybf22 =>
                intro w hSw
                (try dsimp only at hSw)
                go_simp
                all_goals with_reducible rfl
              try simp only [Act.put, List.getElem_toArray, List.getElem_cons_succ, List.getElem_cons_zero, List.setIfInBounds_toArray, List.set_cons_zero, List.set_cons_succ]
              refine wpAnyH_take (i := 12) (v := ?vbf23) rfl (by kernel_rfl) (by kernel_rfl) (by kernel_rfl) (fun _ _ _ h => h) (Or.inl ⟨by rfl, ?hybf23⟩) (by assumption) ?restbf23
              case hybf23 =>
                intro w hSw
                (try dsimp only at hSw)
                go_simp
                all_goals with_reducible rfl
              try simp only [Act.put, List.getElem_toArray, List.getElem_cons_succ, List.getElem_cons_zero, List.setIfInBounds_toArray, List.set_cons_zero, List.set_cons_succ]
              refine wpAnyH_done (by kernel_rfl) ?_ _
              go_wp2_with fail
              go_roundw
              case rel => exact ⟨j + 1 + 1, _, by omega, by go_num, rfl, HX3.out, HNX.out, HKN.out, by first | exact hHeld.2.2.2.2.2 | exact below_any (Nat.le_trans HBQ.out.size hBs.size) hHeld.2.2.2.2.2⟩
              case measure => simp [intOf]; omega
    · obtain rfl : k = l.length := by omega
      have h0 : Hid (putC l = 0) := by show putC l = 0; rw [HP.out]; exact HI.out.all
      go_wp2_with fail
      go_ret2
      refine ⟨?_, HB.out⟩
      rw [h0.out, putL_of h0.out]
      have q := HSS.out
      rw [List.take_length] at q
      rw [← q]
      rfl
end Go.Proofs.YtemngdhbicndlaaDoor
