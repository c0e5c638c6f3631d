/- FixedBack: the walk. Printed by gen/fy2.py -/
import Derived.Test.YtbnnemiiodhjbaaDoorFz8
namespace Go.Proofs.YtbnnemiiodhjbaaDoor
open Go.RowKit
set_option linter.unusedVariables false
set_option linter.unusedSimpArgs false

theorem own_ne {w : World} {base base' : Nat} {e e' : TypeId} {s s' : Nat} {v v' : Value} {n n' : Nat} {xs xs' : List Value} (h : w.ownsRow base e s v n xs) (h' : w.ownsRow base' e' s' v' n' xs') (hne : e ≠ e') : v.ownBlock = none ∨ v.ownBlock ≠ v'.ownBlock := by
  rcases h.2 with ⟨rfl, _⟩ | ⟨g, cap, cur, rfl, _, hg, _⟩
  · exact .inl rfl
  · right
    rcases h'.2 with ⟨rfl, _⟩ | ⟨g', cap', cur', rfl, _, hg', _⟩
    · simp [Value.ownBlock]
    · simp only [Value.ownBlock, ne_eq, Option.some.injEq]
      rintro rfl
      rw [hg] at hg'
      simp at hg'
      exact hne hg'.2
section
variable {P : Program} {ops : Array Oper} {rest : List Oper} {o : Oper} {a : Act} {Q : Exit → Act → World → Prop}
theorem own_append_int {w0 W : World} (base : Nat) (hgd : o.guard = none) (s x : Operand) (t e : TypeId)
    (ho : o.op = .call { callee := .builtin .append, args := #[s, x], argTypes := #[t, t] })
    (ht : P.underlying t = some (.slice e)) (hinfo : (P.info? e).map (fun i => (i.zero, i.size, i.bytes)) = some (some (.int .i64 0), 1, 8))
    (v : Value) (n : Nat) (xs : List Value) (y : Int) (hs : a.eval s = v) (hx : a.eval x = .slice (some ⟨W.heap.size, 0, none⟩) 1 1)
    (HO : W.ownsRow base e 1 v n xs) (HB : Below base w0 W) (hbase : base ≤ W.heap.size) (hn : n + 1 ≤ 1000000)
    (h : ∀ v1 w1, w1.ownsRow base e 1 v1 (n + 1) (xs ++ [.int .i64 y]) → Below base w0 w1 → W.heap.size ≤ w1.heap.size → (W.alloc (.cells #[.int .i64 y] e)).grownBy w1 v.ownBlock → wpList P ops Q rest (a.put o.dst v1) w1) :
    wpList P ops Q (o :: rest) a (W.alloc (.cells #[.int .i64 y] e)) := by
  obtain ⟨i0, hi, hz0, hz1, hz2⟩ := info_parts hinfo
  have hnew := World.news_of_block (cs := #[Value.int .i64 y]) (t := e) (fr := (0, 0)) (heap_alloc_new W _)
  refine wpList_append_own (W.alloc (.cells #[.int .i64 y] e)) hgd s x t ho base e i0 (.int .i64 0) 1 8 ht hi hz0 hz1 hz2 rfl (by decide) v n xs hs (HO.alloc _) ⟨W.heap.size, 0, none⟩ 1 1 [.int .i64 y] hx rfl
    hnew (by simp [Value.oneCell']) (by simp only [maxLen]; omega) (by omega) (by simp; omega) ?_
  intro v1 w1 hown hg _
  exact h v1 w1 hown ((HB.alloc hbase _).grown hg (by simp; omega) (fun k hk => ((HO.lt) k hk).1)) (by have := hg.size; simp at this; omega) hg
end
theorem fin_A' {wr w1 w2 : World} {Q1 Q2 : ByteArray} {T : TypeId} (hra : RdR w1 wr.drew.heap.size Q1 0) (hBa : Below wr.drew.heap.size wr.drew w1) (hrb : RdR w2 w1.heap.size Q2 0) (hBb : Below w1.heap.size w1 w2) :
    TwoR wr (w2.alloc (.cells #[.pointer (some ⟨wr.heap.size, 0, none⟩), .pointer (some ⟨w1.heap.size, 0, none⟩)] T)) (.pointer (some ⟨w2.heap.size, 0, none⟩)) Q1 Q2 := fin_A hra (of_drewN' hBa) hrb hBb
theorem fin_B' {wr w1 w2 : World} {a b : Value} {t : TypeId} {Q1 Q2 : ByteArray} {o : Obj} (HK : w2.heap[w1.heap.size]? = some (.cells #[a, b] t (0, 0))) (hra : RdR w1 wr.drew.heap.size Q1 0) (hBa : Below wr.drew.heap.size wr.drew w1) (hrb : RdR w2 (w1.heap.size + 1) Q2 0) (hBb : Below (w1.alloc o).heap.size (w1.alloc o) w2) :
    TwoR wr ((w2.setCell ⟨w1.heap.size, 0, none⟩ (.pointer (some ⟨wr.heap.size, 0, none⟩))).setCell ⟨w1.heap.size, 1, none⟩ (.pointer (some ⟨w1.heap.size + 1, 0, none⟩))) (.pointer (some ⟨w1.heap.size, 0, none⟩)) Q1 Q2 := fin_B HK hra (of_drewN' hBa) hrb hBb
theorem fin_C' {wr w1 w2 : World} {a b : Value} {t : TypeId} {Q1 Q2 : ByteArray} {o : Obj} (HK : w2.heap[wr.heap.size]? = some (.cells #[a, b] t (0, 0))) (hra : RdR w1 (wr.heap.size + 1) Q1 0) (hBa : Below (wr.drew.alloc o).heap.size (wr.drew.alloc o) w1) (hrb : RdR w2 w1.heap.size Q2 0) (hBb : Below w1.heap.size w1 w2) :
    TwoR wr ((w2.setCell ⟨wr.heap.size, 0, none⟩ (.pointer (some ⟨wr.heap.size + 1, 0, none⟩))).setCell ⟨wr.heap.size, 1, none⟩ (.pointer (some ⟨w1.heap.size, 0, none⟩))) (.pointer (some ⟨wr.heap.size, 0, none⟩)) Q1 Q2 := fin_C HK hra (bel_alloc hBa) hrb hBb
set_option maxRecDepth 100000 in
set_option maxHeartbeats 8000000 in
theorem back_any (l0 : List Th) (v0 : Value) (cut : Int) (w : World) (hE : EtP w) (hv0 : RdTh w v0 l0) (hok0 : ∀ x ∈ l0, x.Ok) (hml : l0.length ≤ maxLen) (hc0 : 0 ≤ cut) (hc1 : cut < 65536) : Calls Tryd.prog 7 #[v0, .int .u16 cut] w fun e w' => e = .returned (.bool true) ∧ Below w.heap.size w w' := by
  have HE := Lib.hid hE
  unfold maxLen at hml
  obtain ⟨n, hn⟩ : ∃ n : Nat, n = min l0.length 30 := ⟨_, rfl⟩
  have hni : (if (30 : Int) < (l0.length : Int) then (30 : Int) else (l0.length : Int)) = (n : Int) := by split <;> omega
  have hni2 : min (l0.length : Int) 30 = (n : Int) := by omega
  obtain ⟨v1, hv1, hrv⟩ := things_to w v0 l0 n hv0 (by omega)
  obtain ⟨l, hl⟩ : ∃ l, l = l0.take n := ⟨_, rfl⟩
  have hll : l.length = n := by rw [hl, List.length_take]; omega
  have hn30 : n ≤ 30 := by omega
  have HOK : Hid (∀ x ∈ l, x.Ok) := fun x hx => hok0 x (by rw [hl] at hx; exact List.mem_of_mem_take hx)
  rw [← hl] at hv1
  have pn : (0 : Int) ≤ (n : Int) := by omega
  have pn2 : (n : Int) ≤ (l0.length : Int) := by omega
  obtain ⟨a0, c0, rfl, hcc0, _⟩ := hv0.opn
  obtain ⟨a1, c1, rfl, hcc1, hcl⟩ := hv1.opn
  have HLL := Lib.hid hll
  have hlb : (l.length : Int) ≤ 30 := by omega
  have HCL := Lib.hid hcl
  clear hcl hv0 hv1 hl hn hll hok0 hE
  go_enter Tryd.func7, Tryd.ntmps7
  go_wp2_with fail
  refine (works_any _ HE.out).mono ?_
  rintro e w0 ⟨rfl, hB0⟩
  have HB0 := Lib.hid hB0
  clear hB0
  go_wp2_with fail
  go_loopw [5, 6, 7] (fun vb vp i wr => ∃ k : Nat, k ≤ l.length ∧ i = .int .i64 k ∧ Hid (wr.ownsRow w.heap.size 5 1 vb (flatT (l.take k)).length (bv (flatT (l.take k)))) ∧ Hid (wr.ownsRow w.heap.size 3 1 vp k (placeC l k)) ∧ Hid (Below w.heap.size w wr)) (fun _ _ i _ => l.length - (intOf i).toNat)
  case atStart => exact ⟨0, Nat.zero_le _, rfl, World.ownsRow_nil _ _ _ _, World.ownsRow_nil _ _ _ _, HB0.out⟩
  case round =>
    clear HB0
    obtain ⟨k, hk, rfl, HO, HP, HB⟩ := hrel
    by_cases hlt : k < l.length
    · obtain ⟨b, o, rfl, z0, z1, z2⟩ := HCL.out k l[k] (List.getElem?_eq_getElem hlt)
      obtain ⟨k0, k1, k2, k3, k4⟩ := HOK.out l[k] (List.getElem_mem hlt)
      have hft := flatT_take hlt
      have htl := thB_len l[k]
      obtain ⟨x, hx⟩ : ∃ x, x = l[k] := ⟨_, rfl⟩
      rw [← hx] at z0 z1 z2 k0 k1 k2 k3 k4 hft htl
      obtain ⟨wd, nn, s⟩ := x
      dsimp only at z0 z1 z2 k0 k1 k2 k3 k4
      have i0 : (0 : Int) ≤ (k : Int) := by omega
      have i1 : (k : Int) < (l.length : Int) := by omega
      obtain ⟨F, hF⟩ : ∃ F, F = flatT (l.take k) := ⟨_, rfl⟩
      have hoff : offT l k = F.length := by rw [hF]; rfl
      rw [← hF] at HO hft
      have hFl : F.length ≤ 256 * 30 := by
        rw [hF]
        have := flatT_len (l.take k)
        rw [List.length_take] at this
        omega
      have HRB := Lib.hid (RdB.own HO.out)
      obtain ⟨A, cb, rfl, _, _, _⟩ := HRB.out
      have HFT := Lib.hid hft
      have HOFF := Lib.hid hoff
      have hz := HB.out.size
      clear hx hF hft hoff
      rcases (show wd % 5 = 0 ∨ wd % 5 = 1 ∨ wd % 5 = 2 ∨ wd % 5 = 3 ∨ wd % 5 = 4 by omega) with hw | hw | hw | hw | hw
      · have hb : thB ⟨wd, nn, s⟩ = beB (2 ^ 0) nn.toNat := by unfold thB; rw [if_neg (by show ¬ wd % 5 = 4; omega), show (wd % 5).toNat = 0 by omega]
        have HFB := Lib.hid hb
        have hwt : wd.tmod 5 = 0 := by rw [Int.tmod_eq_emod_of_nonneg k0]; exact hw
        have hsh : IntKind.i64.wrap 1 = 1 := by decide
        clear hb
        go_wp2_with (at_builtin; refine own_append_int w.heap.size rfl (.tmp 34) (.tmp 37) 64 3 rfl Tryd.underlying64 info_int _ k _ (F.length : Int) rfl rfl HP.out HB.out hz (by omega) ?_; intro v2 w2 hP2 hB2 hs2 hg2; replace z0 := keepC hB2 z0; replace z1 := keepC hB2 z1; replace z2 := keepC hB2 z2)
        have HP2 : Hid (w2.ownsRow w.heap.size 3 1 v2 (k + 1) (placeC l (k + 1))) := by
          show w2.ownsRow _ _ _ _ _ _
          rw [placeC_succ, HOFF.out]
          exact hP2
        have HO2 := Lib.hid ((HO.out.alloc (.cells #[.int .i64 (F.length : Int)] 3)).kept hg2 (own_ne HO.out HP.out (by decide)))
        have HRB2 := Lib.hid (RdB.own HO2.out)
        have HB2 := Lib.hid hB2
        clear hP2 hB2 hg2 HP HO HRB HB
        go_still_tail 13, (by kernel_rfl)
        go_wp2_with fail
        refine (put_any 0 (by decide) _ F nn w2.drew HRB2.out k2 k3 (by omega)).mono ?_
        rintro e w3 ⟨v3, rfl, hO3, hB3⟩
        have hB3 := of_drew' hB3
        have HP3 := Lib.hid (own_kept' HP2.out hB3)
        have HB3 := Lib.hid (trans' HB2.out hB3)
        have HO3 := Lib.hid (own_mono (base := w2.heap.size) hO3 HB2.out.size)
        clear hB3 hO3 HP2 HB2 HO2 HRB2
        go_wp2_with fail
        go_roundw
        case rel => exact ⟨k + 1, by omega, by go_num, by rw [HFT.out, HFB.out]; exact HO3.out, HP3.out, HB3.out⟩
        case measure => simp [intOf]; omega
      · have hb : thB ⟨wd, nn, s⟩ = beB (2 ^ 1) nn.toNat := by unfold thB; rw [if_neg (by show ¬ wd % 5 = 4; omega), show (wd % 5).toNat = 1 by omega]
        have HFB := Lib.hid hb
        have hwt : wd.tmod 5 = 1 := by rw [Int.tmod_eq_emod_of_nonneg k0]; exact hw
        have hsh : IntKind.i64.wrap 2 = 2 := by decide
        clear hb
        go_wp2_with (at_builtin; refine own_append_int w.heap.size rfl (.tmp 34) (.tmp 37) 64 3 rfl Tryd.underlying64 info_int _ k _ (F.length : Int) rfl rfl HP.out HB.out hz (by omega) ?_; intro v2 w2 hP2 hB2 hs2 hg2; replace z0 := keepC hB2 z0; replace z1 := keepC hB2 z1; replace z2 := keepC hB2 z2)
        have HP2 : Hid (w2.ownsRow w.heap.size 3 1 v2 (k + 1) (placeC l (k + 1))) := by
          show w2.ownsRow _ _ _ _ _ _
          rw [placeC_succ, HOFF.out]
          exact hP2
        have HO2 := Lib.hid ((HO.out.alloc (.cells #[.int .i64 (F.length : Int)] 3)).kept hg2 (own_ne HO.out HP.out (by decide)))
        have HRB2 := Lib.hid (RdB.own HO2.out)
        have HB2 := Lib.hid hB2
        clear hP2 hB2 hg2 HP HO HRB HB
        go_still_tail 13, (by kernel_rfl)
        go_wp2_with fail
        refine (put_any 1 (by decide) _ F nn w2.drew HRB2.out k2 k3 (by omega)).mono ?_
        rintro e w3 ⟨v3, rfl, hO3, hB3⟩
        have hB3 := of_drew' hB3
        have HP3 := Lib.hid (own_kept' HP2.out hB3)
        have HB3 := Lib.hid (trans' HB2.out hB3)
        have HO3 := Lib.hid (own_mono (base := w2.heap.size) hO3 HB2.out.size)
        clear hB3 hO3 HP2 HB2 HO2 HRB2
        go_wp2_with fail
        go_roundw
        case rel => exact ⟨k + 1, by omega, by go_num, by rw [HFT.out, HFB.out]; exact HO3.out, HP3.out, HB3.out⟩
        case measure => simp [intOf]; omega
      · have hb : thB ⟨wd, nn, s⟩ = beB (2 ^ 2) nn.toNat := by unfold thB; rw [if_neg (by show ¬ wd % 5 = 4; omega), show (wd % 5).toNat = 2 by omega]
        have HFB := Lib.hid hb
        have hwt : wd.tmod 5 = 2 := by rw [Int.tmod_eq_emod_of_nonneg k0]; exact hw
        have hsh : IntKind.i64.wrap 4 = 4 := by decide
        clear hb
        go_wp2_with (at_builtin; refine own_append_int w.heap.size rfl (.tmp 34) (.tmp 37) 64 3 rfl Tryd.underlying64 info_int _ k _ (F.length : Int) rfl rfl HP.out HB.out hz (by omega) ?_; intro v2 w2 hP2 hB2 hs2 hg2; replace z0 := keepC hB2 z0; replace z1 := keepC hB2 z1; replace z2 := keepC hB2 z2)
        have HP2 : Hid (w2.ownsRow w.heap.size 3 1 v2 (k + 1) (placeC l (k + 1))) := by
          show w2.ownsRow _ _ _ _ _ _
          rw [placeC_succ, HOFF.out]
          exact hP2
        have HO2 := Lib.hid ((HO.out.alloc (.cells #[.int .i64 (F.length : Int)] 3)).kept hg2 (own_ne HO.out HP.out (by decide)))
        have HRB2 := Lib.hid (RdB.own HO2.out)
        have HB2 := Lib.hid hB2
        clear hP2 hB2 hg2 HP HO HRB HB
        go_still_tail 13, (by kernel_rfl)
        go_wp2_with fail
        refine (put_any 2 (by decide) _ F nn w2.drew HRB2.out k2 k3 (by omega)).mono ?_
        rintro e w3 ⟨v3, rfl, hO3, hB3⟩
        have hB3 := of_drew' hB3
        have HP3 := Lib.hid (own_kept' HP2.out hB3)
        have HB3 := Lib.hid (trans' HB2.out hB3)
        have HO3 := Lib.hid (own_mono (base := w2.heap.size) hO3 HB2.out.size)
        clear hB3 hO3 HP2 HB2 HO2 HRB2
        go_wp2_with fail
        go_roundw
        case rel => exact ⟨k + 1, by omega, by go_num, by rw [HFT.out, HFB.out]; exact HO3.out, HP3.out, HB3.out⟩
        case measure => simp [intOf]; omega
      · have hb : thB ⟨wd, nn, s⟩ = beB (2 ^ 3) nn.toNat := by unfold thB; rw [if_neg (by show ¬ wd % 5 = 4; omega), show (wd % 5).toNat = 3 by omega]
        have HFB := Lib.hid hb
        have hwt : wd.tmod 5 = 3 := by rw [Int.tmod_eq_emod_of_nonneg k0]; exact hw
        have hsh : IntKind.i64.wrap 8 = 8 := by decide
        clear hb
        go_wp2_with (at_builtin; refine own_append_int w.heap.size rfl (.tmp 34) (.tmp 37) 64 3 rfl Tryd.underlying64 info_int _ k _ (F.length : Int) rfl rfl HP.out HB.out hz (by omega) ?_; intro v2 w2 hP2 hB2 hs2 hg2; replace z0 := keepC hB2 z0; replace z1 := keepC hB2 z1; replace z2 := keepC hB2 z2)
        have HP2 : Hid (w2.ownsRow w.heap.size 3 1 v2 (k + 1) (placeC l (k + 1))) := by
          show w2.ownsRow _ _ _ _ _ _
          rw [placeC_succ, HOFF.out]
          exact hP2
        have HO2 := Lib.hid ((HO.out.alloc (.cells #[.int .i64 (F.length : Int)] 3)).kept hg2 (own_ne HO.out HP.out (by decide)))
        have HRB2 := Lib.hid (RdB.own HO2.out)
        have HB2 := Lib.hid hB2
        clear hP2 hB2 hg2 HP HO HRB HB
        go_still_tail 13, (by kernel_rfl)
        go_wp2_with fail
        refine (put_any 3 (by decide) _ F nn w2.drew HRB2.out k2 k3 (by omega)).mono ?_
        rintro e w3 ⟨v3, rfl, hO3, hB3⟩
        have hB3 := of_drew' hB3
        have HP3 := Lib.hid (own_kept' HP2.out hB3)
        have HB3 := Lib.hid (trans' HB2.out hB3)
        have HO3 := Lib.hid (own_mono (base := w2.heap.size) hO3 HB2.out.size)
        clear hB3 hO3 HP2 HB2 HO2 HRB2
        go_wp2_with fail
        go_roundw
        case rel => exact ⟨k + 1, by omega, by go_num, by rw [HFT.out, HFB.out]; exact HO3.out, HP3.out, HB3.out⟩
        case measure => simp [intOf]; omega
      · have hb : thB ⟨wd, nn, s⟩ = textB (cutB s).data.toList := by unfold thB; rw [if_pos (by show wd % 5 = 4; omega)]
        have HFB := Lib.hid hb
        have hwt : wd.tmod 5 = 4 := by rw [Int.tmod_eq_emod_of_nonneg k0]; exact hw
        obtain ⟨m, hm1, hm2, hm3, hm4, hm5⟩ := cut_run s
        have hm6 : (0 : Int) ≤ (m : Int) := by omega
        have hm7 : (m : Int) ≤ (s.size : Int) := by omega
        have hcs := cutB_size s
        obtain ⟨S, hS⟩ : ∃ S, S = cutB s := ⟨_, rfl⟩
        rw [← hS] at hm5 HFB hcs
        clear hb hm1 hS
        go_wp2_with (at_builtin; refine own_append_int w.heap.size rfl (.tmp 34) (.tmp 37) 64 3 rfl Tryd.underlying64 info_int _ k _ (F.length : Int) rfl rfl HP.out HB.out hz (by omega) ?_; intro v2 w2 hP2 hB2 hs2 hg2; replace z0 := keepC hB2 z0; replace z1 := keepC hB2 z1; replace z2 := keepC hB2 z2)
        have HP2 : Hid (w2.ownsRow w.heap.size 3 1 v2 (k + 1) (placeC l (k + 1))) := by
          show w2.ownsRow _ _ _ _ _ _
          rw [placeC_succ, HOFF.out]
          exact hP2
        have HO2 := Lib.hid ((HO.out.alloc (.cells #[.int .i64 (F.length : Int)] 3)).kept hg2 (own_ne HO.out HP.out (by decide)))
        have HRB2 := Lib.hid (RdB.own HO2.out)
        have HB2 := Lib.hid hB2
        clear hP2 hB2 hg2 HP HO HRB HB
        go_still_tail 14, (by kernel_rfl)
        go_wp2_with fail
        refine (PText_any _ F S w2.drew HRB2.out (by omega) (by omega)).mono ?_
        rintro e w3 ⟨v3, rfl, hO3, hB3⟩
        have hB3 := of_drew' hB3
        have HP3 := Lib.hid (own_kept' HP2.out hB3)
        have HB3 := Lib.hid (trans' HB2.out hB3)
        have HO3 := Lib.hid (own_mono (base := w2.heap.size) hO3 HB2.out.size)
        clear hB3 hO3 HP2 HB2 HO2 HRB2
        go_wp2_with fail
        go_roundw
        case rel => exact ⟨k + 1, by omega, by go_num, by rw [HFT.out, HFB.out]; exact HO3.out, HP3.out, HB3.out⟩
        case measure => simp [intOf]; omega
    · obtain rfl : k = l.length := by omega
      have HO' := HO.out
      rw [List.take_length] at HO'
      obtain ⟨D, hD⟩ : ∃ D, D = flatT l := ⟨_, rfl⟩
      rw [← hD] at HO'
      have hDl : D.length ≤ 256 * 30 := by
        rw [hD]
        have := flatT_len l
        omega
      have HD := Lib.hid hD
      have HRB := Lib.hid (RdB.own HO')
      obtain ⟨A, cb, rfl, _, _, _⟩ := HRB.out
      have hp : (0 : Int) < (D.length : Int) + 1 := by omega
      obtain ⟨d, hd⟩ : ∃ d : Nat, d = (cut % ((D.length : Int) + 1)).toNat := ⟨_, rfl⟩
      have hd0 := Int.emod_nonneg cut (Int.ne_of_gt hp)
      have hd1 := Int.emod_lt_of_pos cut hp
      have hrem : cut % ((D.length : Int) + 1) = (d : Int) := by omega
      have hdl : d ≤ D.length := by omega
      have hdi : (d : Int) ≤ (D.length : Int) := by omega
      obtain ⟨vd, hvd, hsd⟩ := bytes_to wr _ D d HRB.out hdl
      have HRD := Lib.hid hvd
      clear hd hd0 hd1 hp hvd HO HO' hD
      go_wp2_with fail
      rw [hrem]
      have HDi := Lib.hid hdi
      go_cut [9] (fun s9 W => TwoR wr W s9 ⟨D.toArray⟩ ⟨(D.take d).toArray⟩)
      case first =>
        have c1' := cv_str' (show RdB wr.drew _ _ from HRB.out)
        have c2' := cv_str' (show RdB wr.drew _ _ from HRD.out)
        have e1' := fun o => cv_alloc (show RdB wr.drew _ _ from HRB.out) o
        have e2' := fun o => cv_alloc (show RdB wr.drew _ _ from HRD.out) o
        have d1' := fun o => cv_allocd HRB.out o
        have d2' := fun o => cv_allocd HRD.out o
        go_region_with ((go_at_call 16; first
          | (have _z := hra; have _y := HK; refine (New_any _ w1).mono ?_; rintro e w2 ⟨rfl, hrb, hBb, -⟩; replace HK := blk_below HK hBb; replace z0 := pp0 HK; replace z1 := pp1 HK; replace f0 := blk_frozen HK 0; replace f1 := blk_frozen HK 1)
          | (have _z := hra; refine (New_any _ (w1.alloc _)).mono ?_; rintro e w2 ⟨rfl, hrb, hBb, -⟩; replace hrb := rdr_at (p' := w1.heap.size + 1) hrb (by simp); have HK := blk_below (blk_new w1 _) hBb; have z0 := pp0 HK; have z1 := pp1 HK; have f0 := blk_frozen HK 0; have f1 := blk_frozen HK 1)
          | (have _z := hra; refine (New_any _ w1).mono ?_; rintro e w2 ⟨rfl, hrb, hBb, -⟩)
          | (refine (New_any _ (wr.drew.alloc _)).mono ?_; rintro e w1 ⟨rfl, hra, hBa, -⟩; replace hra := rdr_at (p' := wr.heap.size + 1) hra (by simp); have HK : w1.heap[wr.heap.size]? = some _ := blk_below (blk_new wr.drew _) hBa; have z0 := pp0 HK; have z1 := pp1 HK; have f0 := blk_frozen HK 0; have f1 := blk_frozen HK 1; clear c1' c2' e1' e2'; have c1' := cv_str' (RdB.below HRB.out (bel_alloc hBa)); have c2' := cv_str' (RdB.below HRD.out (bel_alloc hBa)); have e1' := fun o => cv_alloc (RdB.below HRB.out (bel_alloc hBa)) o; have e2' := fun o => cv_alloc (RdB.below HRD.out (bel_alloc hBa)) o)
          | (refine (New_any _ wr.drew).mono ?_; rintro e w1 ⟨rfl, hra, hBa, -⟩; clear c1' c2' e1' e2'; have c1' := cv_str' (RdB.below HRB.out (of_drewN' hBa)); have c2' := cv_str' (RdB.below HRD.out (of_drewN' hBa)); have e1' := fun o => cv_alloc (RdB.below HRB.out (of_drewN' hBa)) o; have e2' := fun o => cv_alloc (RdB.below HRD.out (of_drewN' hBa)) o)))
        all_goals
          go_wp2_with fail
          go_meet
          case rel => first | with_reducible exact fin_A' hra hBa hrb hBb | with_reducible exact fin_B' HK hra hBa hrb hBb | with_reducible exact fin_C' HK hra hBa hrb hBb | (trace_state; sorry)
      case rest =>
        obtain ⟨g, p0, p1, rfl, z0, z1, n01, ng0, ng1, m0, m1, hr0, hr1, hBc⟩ := hcut
        have HP2 := own_kept' HP.out hBc
        have hBw := trans' HB.out hBc
        have hwl := HB.out.size
        have HEV : Hid (EnvF w l a1 D D.length ⟨D.toArray⟩) := ⟨HCL.out, HOK.out, HE.out, by omega, HD.out, (show D = (flatT l).take D.length by rw [← HD.out, List.take_of_length_le (Nat.le_refl _)]), Nat.le_refl _⟩
        have HRO : Hid (RelO w l _ g p0 p1 D d 0 wc) := ⟨z0, z1, HP2, fun _ => hr0, fun _ => hr1, hBw⟩
        have HNG := Lib.hid (And.intro ng0 ng1)
        have HNP := Lib.hid (And.intro (Nat.le_trans hwl m0) (Nat.le_trans hwl m1))
        have HNN := Lib.hid n01
        have HDL := Lib.hid hdl
        clear z0 z1 n01 ng0 ng1 m0 m1 hr0 hr1 hBc HP HP2 hBw hwl HRB HRD hsd hrem HB hdl HDi hdi
        go_wp2_with fail
        refine out_loop w l a1 c1 A cb _ g p0 p1 d D _ _ HEV HDL.out HNG.out HNP.out HNN.out ?hre ?hex _ wc (by rfl) ⟨rfl, rfl, rfl, rfl, rfl, rfl⟩ HRO.out
        case hre =>
          rintro a' W ⟨h4, hd4, hB⟩
          have h4' : a'.tmps[4]?.getD undef = .bool true := by simpa using h4
          show bodyPost Tryd.prog Tryd.f7 (fun e w' => e = Ending.returned (.bool true) ∧ Below w.heap.size w w') Exit.ret a' W
          exact bodyPost_ret (v := .bool true) (by simp [results, Tryd.results7, go_sem, h4, h4']) hd4 ⟨rfl, hB⟩
        case hex =>
          rintro a' W ⟨u', rfl, hB⟩
          have HBW := Lib.hid hB
          rw [frame_lit]
          simp only [Exit.inBlock, if_true, Exit.then]
          clear HEV HRO hB
          go_wp2_with fail
          go_ret
          exact ⟨rfl, HBW.out⟩
end Go.Proofs.YtbnnemiiodhjbaaDoor
