/- LiftKnown: the walk. -/
import Derived.Test.YtinnkaokplmcbaaDoorLs4
import Derived.Test.YtinnkaokplmcbaaDoorLi
namespace Go.Proofs.YtinnkaokplmcbaaDoor
open Go.RowKit
set_option linter.unusedVariables false
set_option linter.unusedSimpArgs false

def mkR (s : Int) : Rec := ⟨false, 1, ⟨#[74]⟩, 0, s, -1, 0⟩
def sd : List Int := [3, -1, -1, 7, 3]
theorem fst_known : Fst [3, -1, -1, 7, 3] 0 4 := by
  refine ⟨by decide, by decide, ⟨rfl, by decide⟩, fun x hx => by omega, ?_⟩
  intro y hy x hx
  rintro ⟨h1, h2⟩
  match y, hy with
  | 0, _ => omega
  | 1, _ => exact h2 rfl
  | 2, _ => exact h2 rfl
  | 3, _ =>
    match x, hx with
    | 0, _ => simp at h1
    | 1, _ => simp at h1
    | 2, _ => simp at h1
theorem noc_known : NoC [3, -1, -1, 7] 4 := by
  intro y hy x hx
  rintro ⟨h1, h2⟩
  match y, hy with
  | 0, _ => omega
  | 1, _ => exact h2 rfl
  | 2, _ => exact h2 rfl
  | 3, _ =>
    match x, hx with
    | 0, _ => simp at h1
    | 1, _ => simp at h1
    | 2, _ => simp at h1

theorem sd_at (k : Nat) (hl : k < 5) : ∃ s, sd[k]? = some s ∧ (#[.int .i64 3, .int .i64 (-1), .int .i64 (-1), .int .i64 7, .int .i64 3] : Array Value)[k]? = some (.int .i64 s) := by
  match k, hl with
  | 0, _ => exact ⟨3, rfl, rfl⟩
  | 1, _ => exact ⟨-1, rfl, rfl⟩
  | 2, _ => exact ⟨-1, rfl, rfl⟩
  | 3, _ => exact ⟨7, rfl, rfl⟩
  | 4, _ => exact ⟨3, rfl, rfl⟩
theorem own_ne_blk {w : World} {base : Nat} {e : TypeId} {s : Nat} {v : Value} {n : Nat} {xs : List Value} {b : Nat} {cs : Array Value} {u : TypeId} {fr : Nat × Nat} (h : w.ownsRow base e s v n xs) (hb : w.heap[b]? = some (.cells cs u fr)) (hne : u ≠ e) : some b ≠ v.ownBlock := by
  rcases h.2 with ⟨rfl, _⟩ | ⟨g, cap, cur, rfl, _, hg, _⟩
  · simp [Value.ownBlock]
  · simp only [Value.ownBlock, ne_eq, Option.some.injEq]
    rintro rfl
    rw [hb] at hg
    simp at hg
    exact hne hg.2.1
theorem slice_to7 {P : Program} (t e : TypeId) (ht : P.underlying t = some (.slice e)) {z : Value} {size bytes : Nat} (hinfo : (P.info? e).map (fun i => (i.zero, i.size, i.bytes)) = some (some z, size, bytes)) (b o len n c : Nat) (hn : n ≤ c) (W : World) :
    (Instr.slice t (.slice (some ⟨b, o, none⟩) len c) none (some (.int .i64 (n : Int))) none).run P W = .ok (.slice (some ⟨b, o, none⟩) n c) W := by
  obtain ⟨i0, hi, hz0, hz1, hz2⟩ := info_parts hinfo
  have ht' : P.underlying t = some (.slice (P.elem t)) := by simp [Program.elem, ht]
  have he : P.elem t = e := by simp [Program.elem, ht]
  rw [run_slice_h W t (some ⟨b, o, none⟩) len c ht' .i64 (n : Int) (by omega) (by omega), he]
  have hz : (Go.sizeOf e).run P W = .ok size W := by simp [Go.sizeOf, typeInfo, hi, hz1]
  rw [hz]
  simp only [Result.andThen, sliced]
  congr 2
  · split
    · rfl
    · simp [Addr.add]

theorem RdL.blk {W : World} {b : Nat} {cs : Array Value} {t : TypeId} {fr : Nat × Nat} (l : List Rec) (n : Nat) (h : W.heap[b]? = some (.cells cs t fr)) (hc : cs.toList = l.flatMap recC) (hn : l.length = n) : RdL W (.slice (some ⟨b, 0, none⟩) n n) l := by
  subst hn
  refine ⟨some (b, 0), l.length, rfl, Nat.le_refl _, (fun h => by cases h), fun p hp k r hr j u hu => ?_⟩
  obtain rfl : (b, 0) = p := by simpa using hp
  have hj : j < 7 := (List.getElem?_eq_some_iff.1 hu).1
  show W.cell? ⟨b, 0 + k * 7 + j, none⟩ = some u
  rw [Nat.zero_add, cell_of_row _ _ _ _ _ _ h, ← Array.getElem?_toList, hc, flat_at recC 7 (fun _ => rfl) j hj l k r hr]
  exact hu
theorem RdM.blk1 {W : World} {b : Nat} {x y : Int} {t : TypeId} {fr : Nat × Nat} (h : W.heap[b]? = some (.cells #[.int .i64 x, .int .i64 y] t fr)) : RdM W (.slice (some ⟨b, 0, none⟩) 1 1) [(x, y)] := by
  refine ⟨some (b, 0), 1, rfl, Nat.le_refl _, (fun h => by cases h), fun p hp k r hr => ?_⟩
  obtain rfl : (b, 0) = p := by simpa using hp
  have hk : k < 1 := (List.getElem?_eq_some_iff.1 hr).1
  obtain rfl : k = 0 := by omega
  obtain rfl : (x, y) = r := by simpa using hr
  exact ⟨by rw [cell_of_row _ _ _ _ _ _ h]; rfl, by rw [cell_of_row _ _ _ _ _ _ h]; rfl⟩
theorem heap_at2 (W : World) (cs : Array Value) (t : TypeId) (o : Obj) (n : Nat) (hn : n = W.heap.size) : ((W.alloc (.cells cs t)).alloc o).heap[n]? = some (.cells cs t (0, 0)) := by
  subst hn
  exact (Below.heap_alloc _ _ _ (by simp)).trans (heap_alloc_new _ _)
theorem RdN.opn' {w : World} {v : Value} {l : List Int} (h : RdN w v l) : ∃ (a : Option Addr) (c : Nat), v = .slice a l.length c ∧ l.length ≤ c ∧ ∀ (k : Nat) (n : Int), l[k]? = some n → ∃ b o, a = some ⟨b, o, none⟩ ∧ w.cell? ⟨b, o + k, none⟩ = some (.int .u32 n) := by
  obtain ⟨A, c, rfl, h1, h2, h3⟩ := h
  refine ⟨_, c, rfl, h1, fun k x hx => ?_⟩
  cases A with
  | none =>
    have := (List.getElem?_eq_some_iff.1 hx).1
    have := h2 rfl
    omega
  | some p => exact ⟨p.1, p.2, rfl, h3 p rfl k x hx⟩
theorem heap_old (W : World) (o : Obj) {n : Nat} {r : Obj} (h : W.heap[n]? = some r) : (W.alloc o).heap[n]? = some r :=
  (Below.heap_alloc _ _ _ (Array.getElem?_eq_some_iff.1 h).1).trans h
theorem heap_at1 (W : World) (cs : Array Value) (t : TypeId) (n : Nat) (hn : n = W.heap.size) : (W.alloc (.cells cs t)).heap[n]? = some (.cells cs t (0, 0)) := by
  subst hn
  exact heap_alloc_new _ _
def knL : List Rec := [⟨true, 1, ⟨#[74]⟩, 0, 63, 0, 9⟩, ⟨false, 1, ⟨#[74]⟩, 0, (-1), (-1), 0⟩, ⟨false, 1, ⟨#[74]⟩, 0, 64, (-1), 0⟩, ⟨false, 1, ⟨#[74]⟩, 0, (-2), (-1), 0⟩, ⟨false, 1, ⟨#[74]⟩, 0, 1, 64, 0⟩, ⟨false, 1, ⟨#[74]⟩, 0, 1, (-2), 0⟩, ⟨false, 0, ⟨#[74]⟩, 0, 1, 1, 0⟩, ⟨false, 1, ⟨#[]⟩, 0, 1, 1, 0⟩, ⟨false, 1, ⟨#[74]⟩, 3, 1, 1, 0⟩, ⟨false, 1, ⟨#[74]⟩, 0, 1, 1, 1⟩]
def knC : Array Value := #[.bool true, .int .u32 1, .string ⟨#[74]⟩, .int .i64 0, .int .i64 63, .int .i64 0, .int .u64 9, .bool false, .int .u32 1, .string ⟨#[74]⟩, .int .i64 0, .int .i64 (-1), .int .i64 (-1), .int .u64 0, .bool false, .int .u32 1, .string ⟨#[74]⟩, .int .i64 0, .int .i64 64, .int .i64 (-1), .int .u64 0, .bool false, .int .u32 1, .string ⟨#[74]⟩, .int .i64 0, .int .i64 (-2), .int .i64 (-1), .int .u64 0, .bool false, .int .u32 1, .string ⟨#[74]⟩, .int .i64 0, .int .i64 1, .int .i64 64, .int .u64 0, .bool false, .int .u32 1, .string ⟨#[74]⟩, .int .i64 0, .int .i64 1, .int .i64 (-2), .int .u64 0, .bool false, .int .u32 0, .string ⟨#[74]⟩, .int .i64 0, .int .i64 1, .int .i64 1, .int .u64 0, .bool false, .int .u32 1, .string ⟨#[]⟩, .int .i64 0, .int .i64 1, .int .i64 1, .int .u64 0, .bool false, .int .u32 1, .string ⟨#[74]⟩, .int .i64 3, .int .i64 1, .int .i64 1, .int .u64 0, .bool false, .int .u32 1, .string ⟨#[74]⟩, .int .i64 0, .int .i64 1, .int .i64 1, .int .u64 1]
theorem knC_is : knC.toList = knL.flatMap recC := rfl
theorem knOk : ∀ r ∈ knL, r.Ok := by
  intro r hr
  simp only [knL, List.mem_cons, List.not_mem_nil, or_false] at hr
  rcases hr with rfl | rfl | rfl | rfl | rfl | rfl | rfl | rfl | rfl | rfl <;> exact ⟨by decide, by decide, by decide, by decide, by decide⟩
theorem knMay : knL.map may2 = [true, true, false, false, false, false, false, false, false, false] := by kernel_rfl
theorem kn_at (k : Nat) (hk : k < 10) : ∃ r : Rec, r.Ok ∧ may2 r = decide (k < 2) ∧ ∀ (j : Nat) (u : Value), (recC r)[j]? = some u → knC[k * 7 + j]? = some u := by
  have hl : k < knL.length := hk
  refine ⟨knL[k], knOk _ (List.getElem_mem hl), ?_, fun j u hu => ?_⟩
  · have h := congrArg (fun l => l[k]?) knMay
    simp only [List.getElem?_map, List.getElem?_eq_getElem hl, Option.map_some] at h
    have hd : ∀ i : Nat, i < 10 → ([true, true, false, false, false, false, false, false, false, false] : List Bool)[i]? = some (decide (i < 2)) := by decide
    exact Option.some.inj (h.trans (hd k hk))
  · have hj : j < 7 := (List.getElem?_eq_some_iff.1 hu).1
    rw [← Array.getElem?_toList, knC_is, flat_at recC 7 (fun _ => rfl) j hj knL k _ (List.getElem?_eq_getElem hl)]
    exact hu
def fghL : List Rec := [⟨false, 4, ⟨#[74]⟩, 0, 1, (-1), 0⟩, ⟨false, 5, ⟨#[74]⟩, 0, 2, (-1), 0⟩, ⟨true, 6, ⟨#[74]⟩, 0, 3, (-1), 1⟩]
theorem fghOk : ∀ r ∈ fghL, r.Ok := by
  intro r hr
  simp only [fghL, List.mem_cons, List.not_mem_nil, or_false] at hr
  rcases hr with rfl | rfl | rfl <;> exact ⟨by decide, by decide, by decide, by decide, by decide⟩
def foL : List Rec := [⟨false, 4, ⟨#[74]⟩, 0, 1, (-1), 0⟩, ⟨true, 1, ⟨#[74]⟩, 0, 63, 0, 9⟩]
theorem foOk : ∀ r ∈ foL, r.Ok := by
  intro r hr
  simp only [foL, List.mem_cons, List.not_mem_nil, or_false] at hr
  rcases hr with rfl | rfl <;> exact ⟨by decide, by decide, by decide, by decide, by decide⟩
theorem fghO : allO fghL [(1, 1)] = [⟨false, 4, ⟨#[74]⟩, 0, 1, 1, 0⟩, ⟨false, 5, ⟨#[74]⟩, 0, -1, 2, 0⟩, ⟨true, 6, ⟨#[74]⟩, 0, -1, 3, 1⟩] := by kernel_rfl
theorem fghE : allE fghL = 0 := by kernel_rfl
theorem fghLo : allL fghL [(1, 1)] = [5] := by kernel_rfl
theorem foE : allE foL = 2 := by kernel_rfl
theorem nilE : allE [] = 0 := rfl
theorem okUpR : upR ⟨true, 1, ⟨#[74]⟩, 0, 63, 0, 9⟩ [] = zeroR := by kernel_rfl
theorem okOk : Rec.Ok ⟨true, 1, ⟨#[74]⟩, 0, 63, 0, 9⟩ := ⟨by decide, by decide, by decide, by decide, by decide⟩
theorem okUp : upE ⟨true, 1, ⟨#[74]⟩, 0, 63, 0, 9⟩ = 2 := by kernel_rfl

set_option maxRecDepth 100000 in
set_option maxHeartbeats 16000000 in
theorem known_any (w : World) (hG : GP w) : Calls Tryd.prog 7 #[] w fun e w' => e = .returned (.bool true) ∧ Below w.heap.size w w' := by
  have HB := Below.refl w.heap.size w
  go_enter Tryd.func7, Tryd.ntmps7
  go_wp2_with (first | (go_at_call 16; refine (works_any _ (hG.below HB)).mono ?_; rintro e w1 ⟨rfl, hB⟩; replace HB := bstep HB hB; clear hB))
  have hb0 := heap_alloc_new w1 (.cells #[.int .i64 3, .int .i64 (-1), .int .i64 (-1), .int .i64 7, .int .i64 3] 3)
  have HA := (Below.refl w1.heap.size w1).alloc (Nat.le_refl _) (.cells #[.int .i64 3, .int .i64 (-1), .int .i64 (-1), .int .i64 7, .int .i64 3] 3)
  go_loopw [1, 3, 35] (fun oo _ i wr => ∃ k : Nat, k ≤ 5 ∧ i = .int .i64 k ∧ wr.ownsRow w.heap.size 25 7 oo k ((sd.take k).flatMap (fun s => recC (mkR s))) ∧ Below w.heap.size w wr ∧ wr.heap[w1.heap.size]? = some (.cells #[.int .i64 3, .int .i64 (-1), .int .i64 (-1), .int .i64 7, .int .i64 3] 3 (0, 0))) (fun _ _ i _ => 5 - (intOf i).toNat)
  case atStart => exact ⟨0, by omega, rfl, (World.ownsRow_nil _ w.heap.size 25 7), bstep HB HA, hb0⟩
  case round =>
    obtain ⟨k, hk, rfl, HO, HB2, HI⟩ := hrel
    rcases Nat.lt_or_ge k 5 with hl | hl
    · obtain ⟨s, hs, hc⟩ : ∃ s, sd[k]? = some s ∧ wr.cell? ⟨w1.heap.size, k, none⟩ = some (.int .i64 s) := by
        rw [cell_of_row _ _ k _ _ _ HI]
        exact sd_at k hl
      have HT : Hid ((sd.take (k + 1)).flatMap (fun s => recC (mkR s)) = (sd.take k).flatMap (fun s => recC (mkR s)) ++ recC (mkR s)) := by
        show _ = _
        rw [List.take_add_one, hs, List.flatMap_append]
        simp
      have hwl := (Array.getElem?_eq_some_iff.1 HI).1
      have hne := own_ne_blk HO HI (by decide)
      clear hs
      go_wp2_with (at_builtin; go_loud (refine own_append_box2 w.heap.size rfl (.tmp 39) (.tmp 42) 46 25 rfl Tryd.underlying46 info_rec rfl (by decide) _ k _ #[.bool false, .int .u32 1, .string ⟨#[74]⟩, .int .i64 0, .int .i64 s, .int .i64 (-1), .int .u64 0] rfl (by simp [Value.oneCell']) rfl rfl HO HB2 HB2.size (by omega) (by omega) ?_); intro v1 w3 hown hB3 hsz3 hg3)
      go_roundw
      case rel =>
        refine ⟨k + 1, by omega, by go_num, by rw [HT.out]; exact hown, hB3, (hg3.block w1.heap.size (by simp; omega) hne).trans ((Below.heap_alloc _ _ _ hwl).trans HI)⟩
      case measure => simp [intOf]; omega
    · obtain rfl : k = 5 := by omega
      have HO5 : wr.ownsRow w.heap.size 25 7 u1 5 ((sd.map mkR).flatMap recC) := own_len HO rfl rfl
      obtain ⟨g, c, hv, hc5, _, hcl⟩ := (own_cells HO5).resolve_left (by rintro ⟨_, h⟩; cases h)
      have hL : RdL wr u1 (sd.map mkR) := RdL.own HO5
      have h4 : RdL wr (.slice (some ⟨g, 0, none⟩) 4 c) ((sd.take 4).map mkR) := by
        rw [hv] at hL
        obtain ⟨a, c', ha, _, hr⟩ := hL.opn
        simp only [Value.slice.injEq] at ha
        refine ⟨some (g, 0), c, rfl, by show 4 ≤ c; omega, (fun h => by cases h), fun p hp j r hr' q u hu => ?_⟩
        obtain rfl : (g, 0) = p := by simpa using hp
        have hj : (sd.map mkR)[j]? = some r := by
          have h1 := (List.getElem?_eq_some_iff.1 hr').1
          have h2 : j < 4 := h1
          rw [← hr', List.getElem?_map, List.getElem?_map, List.getElem?_take_of_lt h2]
        obtain ⟨b, o, hb, hc⟩ := hr j r hj
        have hb2 := ha.1.trans hb
        simp only [Option.some.injEq, Addr.mk.injEq] at hb2
        obtain ⟨rfl, rfl, _⟩ := hb2
        exact hc q u hu
      have hsl := slice_to7 (P := Tryd.prog) 46 25 Tryd.underlying46 info_rec g 0 5 4 c (by omega)
      clear HO HO5 hcl HI hk hl
      subst hv
      go_wp2_with fail
      refine (Clash_any (sd.map mkR) _ _ hL (by decide)).mono ?_
      rintro e w2 ⟨he, hB⟩
      rw [show seats (sd.map mkR) = [3, -1, -1, 7, 3] from rfl, clV_some fst_known] at he
      subst he
      replace HB2 := bstep HB2 hB
      replace h4 := h4.below hB
      clear hB hL
      go_wp2_with fail
      refine (Clash_any ((sd.take 4).map mkR) _ _ h4 (by decide)).mono ?_
      rintro e w3 ⟨he, hB⟩
      rw [show seats ((sd.take 4).map mkR) = [3, -1, -1, 7] from rfl, clV_none noc_known] at he
      subst he
      replace HB2 := bstep HB2 hB
      clear hB h4 hsl
      go_wp2_with fail
      have hI : Hid (∀ (j : Nat) (u : Value), knC[j]? = some u → ((w3.alloc (.cells #[.bool true, .int .u32 1, .string ⟨#[74]⟩, .int .i64 0, .int .i64 63, .int .i64 0, .int .u64 9] 25)).alloc (.cells #[.bool true, .int .u32 1, .string ⟨#[74]⟩, .int .i64 0, .int .i64 63, .int .i64 0, .int .u64 9, .bool false, .int .u32 1, .string ⟨#[74]⟩, .int .i64 0, .int .i64 (-1), .int .i64 (-1), .int .u64 0, .bool false, .int .u32 1, .string ⟨#[74]⟩, .int .i64 0, .int .i64 64, .int .i64 (-1), .int .u64 0, .bool false, .int .u32 1, .string ⟨#[74]⟩, .int .i64 0, .int .i64 (-2), .int .i64 (-1), .int .u64 0, .bool false, .int .u32 1, .string ⟨#[74]⟩, .int .i64 0, .int .i64 1, .int .i64 64, .int .u64 0, .bool false, .int .u32 1, .string ⟨#[74]⟩, .int .i64 0, .int .i64 1, .int .i64 (-2), .int .u64 0, .bool false, .int .u32 0, .string ⟨#[74]⟩, .int .i64 0, .int .i64 1, .int .i64 1, .int .u64 0, .bool false, .int .u32 1, .string ⟨#[]⟩, .int .i64 0, .int .i64 1, .int .i64 1, .int .u64 0, .bool false, .int .u32 1, .string ⟨#[74]⟩, .int .i64 3, .int .i64 1, .int .i64 1, .int .u64 0, .bool false, .int .u32 1, .string ⟨#[74]⟩, .int .i64 0, .int .i64 1, .int .i64 1, .int .u64 1] 25)).cell? ⟨w3.heap.size + 1, j, none⟩ = some u) := fun j u hu => by
        rw [cell_of_row _ _ j _ _ _ (heap_at1 _ _ _ _ (by simp))]
        exact hu
      have hO : Hid (∀ (j : Nat) (u : Value), (#[.bool true, .int .u32 1, .string ⟨#[74]⟩, .int .i64 0, .int .i64 63, .int .i64 0, .int .u64 9] : Array Value)[j]? = some u → ((w3.alloc (.cells #[.bool true, .int .u32 1, .string ⟨#[74]⟩, .int .i64 0, .int .i64 63, .int .i64 0, .int .u64 9] 25)).alloc (.cells #[.bool true, .int .u32 1, .string ⟨#[74]⟩, .int .i64 0, .int .i64 63, .int .i64 0, .int .u64 9, .bool false, .int .u32 1, .string ⟨#[74]⟩, .int .i64 0, .int .i64 (-1), .int .i64 (-1), .int .u64 0, .bool false, .int .u32 1, .string ⟨#[74]⟩, .int .i64 0, .int .i64 64, .int .i64 (-1), .int .u64 0, .bool false, .int .u32 1, .string ⟨#[74]⟩, .int .i64 0, .int .i64 (-2), .int .i64 (-1), .int .u64 0, .bool false, .int .u32 1, .string ⟨#[74]⟩, .int .i64 0, .int .i64 1, .int .i64 64, .int .u64 0, .bool false, .int .u32 1, .string ⟨#[74]⟩, .int .i64 0, .int .i64 1, .int .i64 (-2), .int .u64 0, .bool false, .int .u32 0, .string ⟨#[74]⟩, .int .i64 0, .int .i64 1, .int .i64 1, .int .u64 0, .bool false, .int .u32 1, .string ⟨#[]⟩, .int .i64 0, .int .i64 1, .int .i64 1, .int .u64 0, .bool false, .int .u32 1, .string ⟨#[74]⟩, .int .i64 3, .int .i64 1, .int .i64 1, .int .u64 0, .bool false, .int .u32 1, .string ⟨#[74]⟩, .int .i64 0, .int .i64 1, .int .i64 1, .int .u64 1] 25)).cell? ⟨w3.heap.size, j, none⟩ = some u) := fun j u hu => by
        rw [cell_of_row _ _ j _ _ _ (heap_at2 _ _ _ _ _ rfl)]
        exact hu
      have HB3 := (HB2.alloc HB2.size (.cells #[.bool true, .int .u32 1, .string ⟨#[74]⟩, .int .i64 0, .int .i64 63, .int .i64 0, .int .u64 9] 25)).alloc (by have := HB2.size; simp; omega) (.cells #[.bool true, .int .u32 1, .string ⟨#[74]⟩, .int .i64 0, .int .i64 63, .int .i64 0, .int .u64 9, .bool false, .int .u32 1, .string ⟨#[74]⟩, .int .i64 0, .int .i64 (-1), .int .i64 (-1), .int .u64 0, .bool false, .int .u32 1, .string ⟨#[74]⟩, .int .i64 0, .int .i64 64, .int .i64 (-1), .int .u64 0, .bool false, .int .u32 1, .string ⟨#[74]⟩, .int .i64 0, .int .i64 (-2), .int .i64 (-1), .int .u64 0, .bool false, .int .u32 1, .string ⟨#[74]⟩, .int .i64 0, .int .i64 1, .int .i64 64, .int .u64 0, .bool false, .int .u32 1, .string ⟨#[74]⟩, .int .i64 0, .int .i64 1, .int .i64 (-2), .int .u64 0, .bool false, .int .u32 0, .string ⟨#[74]⟩, .int .i64 0, .int .i64 1, .int .i64 1, .int .u64 0, .bool false, .int .u32 1, .string ⟨#[]⟩, .int .i64 0, .int .i64 1, .int .i64 1, .int .u64 0, .bool false, .int .u32 1, .string ⟨#[74]⟩, .int .i64 3, .int .i64 1, .int .i64 1, .int .u64 0, .bool false, .int .u32 1, .string ⟨#[74]⟩, .int .i64 0, .int .i64 1, .int .i64 1, .int .u64 1] 25)
      go_loopw [11, 12, 13, 14, 71] (fun _ _ _ _ i wz => ∃ k : Nat, k ≤ 10 ∧ i = .int .i64 k ∧ Below w.heap.size w wz ∧ Hid (∀ (j : Nat) (u : Value), knC[j]? = some u → wz.cell? ⟨w3.heap.size + 1, j, none⟩ = some u) ∧ Hid (∀ (j : Nat) (u : Value), (#[.bool true, .int .u32 1, .string ⟨#[74]⟩, .int .i64 0, .int .i64 63, .int .i64 0, .int .u64 9] : Array Value)[j]? = some u → wz.cell? ⟨w3.heap.size, j, none⟩ = some u)) (fun _ _ _ _ i _ => 10 - (intOf i).toNat)
      case atStart => exact ⟨0, by omega, rfl, HB3, hI, hO⟩
      case round =>
        obtain ⟨k, hk, rfl, HBr, HI, HO⟩ := hrel
        rcases Nat.lt_or_ge k 10 with hl | hl
        · obtain ⟨r, hro, hm2, hcs⟩ := kn_at k hl
          have c0 : wr.cell? ⟨w3.heap.size + 1, k * 7, none⟩ = some (.bool r.hold) := HI.out _ _ (hcs 0 _ rfl)
          have c1 := HI.out _ _ (hcs 1 _ rfl)
          have c2 := HI.out _ _ (hcs 2 _ rfl)
          have c3 := HI.out _ _ (hcs 3 _ rfl)
          have c4 := HI.out _ _ (hcs 4 _ rfl)
          have c5 := HI.out _ _ (hcs 5 _ rfl)
          have c6 := HI.out _ _ (hcs 6 _ rfl)
          have hB0 := (Below.refl wr.heap.size wr).alloc (Nat.le_refl _) (.cells #[.bool r.hold, .int .u32 r.id, .string r.person, .int .i64 r.cls, .int .i64 r.seat, .int .i64 r.was, .int .u64 r.til] 25)
          clear hcs
          have hE : 2 ≤ k → downE r = 2 := fun h => by
            have : may2 r = false := by rw [hm2]; simp; omega
            simp [downE, this]
          go_wp2_with fail
          refine (Down_any r _ hro (hG.below (bstep HBr hB0))).mono ?_
          rintro e w4 ⟨rfl, hB⟩
          obtain ⟨x, hx⟩ : ∃ x, downR r = x := ⟨_, rfl⟩
          rw [hx]
          dsimp only [Rec.val]
          have hB1 := bstep hB0 hB
          have hs4 := hB.size
          rw [World.size_alloc] at hs4
          obtain ⟨⟨k0, k1, k2, k3, k4, k5, k6⟩, f0, f1, f2, f3, f4, f5, f6⟩ := row7 (heap_old w4 (.cells #[.bool x.hold, .int .u32 x.id, .string x.person, .int .i64 x.cls, .int .i64 x.seat, .int .i64 x.was, .int .u64 x.til] 25) (keep_row hB (heap_alloc_new wr _)))
          have hB2 := bstep hB1 ((Below.refl w4.heap.size w4).alloc (Nat.le_refl _) (.cells #[.bool x.hold, .int .u32 x.id, .string x.person, .int .i64 x.cls, .int .i64 x.seat, .int .i64 x.was, .int .u64 x.til] 25))
          clear hx hB hB0 hB1
          rcases Nat.lt_or_ge k 2 with h2 | h2
          · have hm3 : may2 r = true := by rw [hm2]; simp; omega
            clear hm2 hE
            go_wp2_with fail
            refine (May_any r _ hro (hG.below (bstep HBr hB2))).mono ?_
            rw [hm3]
            rintro e w5 ⟨rfl, hB⟩
            have hB5 := bstep hB2 hB
            go_wp2_with fail
            go_roundw
            case rel => exact ⟨k + 1, by omega, by go_num, bstep HBr hB5, fun j u hu => keep_cell hB5 (HI.out j u hu), fun j u hu => keep_cell hB5 (HO.out j u hu)⟩
            case measure => simp [intOf]; omega
          · have hm3 : may2 r = false := by rw [hm2]; simp; omega
            have hE2 := hE h2
            clear hm2 hE
            rw [hE2]
            go_wp2_with fail
            refine (May_any r _ hro (hG.below (bstep HBr hB2))).mono ?_
            rw [hm3]
            rintro e w5 ⟨rfl, hB⟩
            have hB5 := bstep hB2 hB
            go_wp2_with fail
            go_roundw
            case rel => exact ⟨k + 1, by omega, by go_num, bstep HBr hB5, fun j u hu => keep_cell hB5 (HI.out j u hu), fun j u hu => keep_cell hB5 (HO.out j u hu)⟩
            case measure => simp [intOf]; omega
        · obtain rfl : k = 10 := by omega
          clear hI hO HB3 HI hl hk
          have hsz := HBr.size
          go_wp2_with fail
          refine (All_any fghL [(1, 1)] _ _ _ (RdL.blk fghL 3 (heap_at2 _ _ _ _ _ (by simp)) rfl rfl) (by decide) fghOk (RdM.blk1 (heap_at1 _ _ _ _ (by simp))) (by decide) (hG.below (by go_grown))).mono ?_
          rintro e w5 ⟨v1, v2, rfl, h1, h2, hB⟩
          rw [fghE]
          rw [fghO] at h1
          rw [fghLo] at h2
          have HB5 : Below w.heap.size w w5 := bstep (by go_grown) hB
          have hsz5 := HB5.size
          have hBz : Below wr.heap.size wr w5 := bstep (by go_grown) hB
          obtain ⟨⟨k0, k1, k2, k3, k4, k5, k6⟩, f0, f1, f2, f3, f4, f5, f6⟩ := row7 (keep_row hB (heap_old _ _ (heap_old _ _ (heap_old _ _ (heap_old _ _ (heap_alloc_new wr _))))))
          obtain ⟨a, cc, rfl, hcc, hr1⟩ := h1.opn
          obtain ⟨b1, o1, rfl, hcs1⟩ := hr1 0 _ rfl
          obtain ⟨b2, o2, he2, hcs2⟩ := hr1 2 _ rfl
          simp only [Option.some.injEq, Addr.mk.injEq] at he2
          obtain ⟨rfl, rfl, _⟩ := he2
          obtain ⟨a3, c3, rfl, hc3, hr3⟩ := RdN.opn' h2
          obtain ⟨b3, o3, rfl, hcs3⟩ := hr3 0 _ rfl
          have p1 := hcs1 4 _ rfl
          have p2 := hcs2 4 _ rfl
          clear hr1 hr3 hcs1 hcs2 h1 h2 hB
          have q0 := keep_cell hBz (HO.out 0 _ rfl)
          have q1 := keep_cell hBz (HO.out 1 _ rfl)
          have q2 := keep_cell hBz (HO.out 2 _ rfl)
          have q3 := keep_cell hBz (HO.out 3 _ rfl)
          have q4 := keep_cell hBz (HO.out 4 _ rfl)
          have q5 := keep_cell hBz (HO.out 5 _ rfl)
          have q6 := keep_cell hBz (HO.out 6 _ rfl)
          go_wp2_with fail
          refine (All_any foL [] _ _ _ (RdL.blk foL 2 (heap_at1 _ _ _ _ (by simp)) rfl rfl) (by decide) foOk (RdM.nil _) (by decide) (hG.below (by go_grown))).mono ?_
          rintro e w6 ⟨v1, v2, rfl, _, _, hB⟩
          rw [foE]
          have hB6 : Below w5.heap.size w5 w6 := bstep (by go_grown) hB
          have HB6 := bstep HB5 hB6
          clear hB
          go_wp2_with fail
          refine (All_any [] [] _ _ _ (RdL.nil _) (by decide) (fun _ h => by cases h) (RdM.nil _) (by decide) (hG.below HB6)).mono ?_
          rintro e w7 ⟨v3, v4, rfl, h3, h4, hB⟩
          rw [nilE]
          rw [show allO [] [] = [] from rfl] at h3
          rw [show allL [] [] = [] from rfl] at h4
          obtain ⟨a4, c4, rfl, _, _⟩ := h3.opn
          obtain ⟨a5, c5, rfl, _, _⟩ := RdN.opn' h4
          have hB7 := bstep hB6 hB
          have HB7 := bstep HB6 hB
          clear h3 h4 hB
          have r0 := keep_cell hB7 q0
          have r1 := keep_cell hB7 q1
          have r2 := keep_cell hB7 q2
          have r3 := keep_cell hB7 q3
          have r4 := keep_cell hB7 q4
          have r5 := keep_cell hB7 q5
          have r6 := keep_cell hB7 q6
          clear q0 q1 q2 q3 q4 q5 q6
          go_wp2_with fail
          refine (Up_any ⟨true, 1, ⟨#[74]⟩, 0, 63, 0, 9⟩ [] _ _ okOk (hG.below HB7) (RdM.nil _) (by decide)).mono ?_
          rintro e w8 ⟨rfl, hB⟩
          rw [okUp, okUpR]
          dsimp only [Rec.val, zeroR]
          have hB9 := bstep (bstep hB7 hB) ((Below.refl w8.heap.size w8).alloc (Nat.le_refl _) (.cells #[.bool false, .int .u32 0, .string ⟨#[]⟩, .int .i64 0, .int .i64 0, .int .i64 0, .int .u64 0] 25))
          have p3 := keep_cell hB9 p1
          have p4 := keep_cell hB9 p2
          have p5 := keep_cell hB9 hcs3
          simp only [Nat.zero_mul, Nat.add_zero, Nat.reduceMul, Nat.add_assoc, Nat.reduceAdd] at p3 p4 p5
          have HB9 := bstep HB5 hB9
          go_wp2_with fail
          go_returns
          exact ⟨rfl, HB9⟩
end Go.Proofs.YtinnkaokplmcbaaDoor
