/- foyerref02.field: one field is read. -/
import Derived.Test.YtemngdhbicndlaaDoorVc4
import Derived.Lib.Strings
import Derived.IntWalk
namespace Go.Proofs.YtemngdhbicndlaaDoor
open Go.RowKit
set_option linter.unusedVariables false
set_option linter.unusedSimpArgs false

theorem idx_str {P : Program} (t : TypeId) (ht : P.underlying t = some .string) (s : ByteArray) (i : Nat) (b : UInt8) (h : s.data.toList[i]? = some b) (W : World) : (Instr.index t (.string s) (.int .i64 (i : Int))).run P W = .ok (.int .u8 ((b.toNat : Nat) : Int)) W := by
  have hi : i < s.size := by
    have := (List.getElem?_eq_some_iff.1 h).1
    rwa [size_list] at this
  rw [run_index_string (P := P) W t s .i64 i ht, dif_pos (by omega)]
  have e : s[(i : Int).toNat]'(by simpa using hi) = b := by
    have h2 := (List.getElem?_eq_some_iff.1 h).2
    rw [← h2]
    simp
    rfl
  rw [e]
theorem setF_heap {W : World} {F j R : Nat} {v : Value} (hne : R ≠ F) : (W.setCell ⟨F, j, none⟩ v).heap[R]? = W.heap[R]? := Below.heap_setCell _ _ _ R (by show R ≠ F; exact hne)
/-- What reading one field of a text gives. -/
def RFieldP (L : List UInt8) (last : Int) (h : UInt8) (l : List UInt8) (w : World) (e : Ending) (w' : World) : Prop :=
  (∃ c a, rdF last h l = .inl c ∧ e = .returned (.tuple #[zeroF.val, .int .i64 a, .int .i64 c]) ∧ Below w.heap.size w w') ∨
  (∃ f m, rdF last h l = .inr (f, L.drop m) ∧ m ≤ L.length ∧ e = .returned (.tuple #[f.val, .int .i64 (m : Nat), .int .i64 0]) ∧ Below w.heap.size w w')
set_option maxRecDepth 100000 in
set_option maxHeartbeats 2000000 in
theorem rfield_any (s : ByteArray) (L : List UInt8) (a : Nat) (last : Int) (w : World) (hL : s.data.toList = L) (ha : a < L.length) (hsz : s.size ≤ 140737488351232) :
    Calls Tryd.prog 26 #[.string s, .int .i64 (a : Int), .int .i64 last] w (RFieldP L last L[a] (L.drop (a + 1)) w) := by
  have hls : s.size = L.length := by rw [← hL, size_list]
  have hi0 := fun W => idx_str (P := Tryd.prog) 9 Tryd.underlying9 s a L[a] (by rw [hL]; exact List.getElem?_eq_getElem ha) W
  obtain ⟨h, hh⟩ : ∃ h, h = L[a] := ⟨_, rfl⟩
  rw [← hh] at hi0 ⊢
  clear hh
  have hb := h.toNat_lt
  obtain ⟨T, hT⟩ : ∃ T : Int, T = ((h.toNat / 2 : Nat) : Int) := ⟨_, rfl⟩
  have hw1 : IntKind.i64.wrap ((h.toNat : Nat) : Int) = ((h.toNat : Nat) : Int) := by rw [IntKind.wrap_i64]; omega
  have hTw : IntKind.i64.wrap ((h.toNat : Int).tdiv 2) = T := by rw [IntKind.wrap_i64, hT, Int.tdiv_eq_ediv_of_nonneg (by omega)]; omega
  obtain ⟨isT, hI⟩ : ∃ isT : Bool, ((h.toNat : Int) % 2 == 1) = isT := ⟨_, rfl⟩
  have hIw : ((h.toNat : Int).tmod 2 == 1) = isT := by rw [Int.tmod_eq_emod_of_nonneg (by omega), ← hI]
  have hTw2 : IntKind.i64.wrap ((h.toNat : Int) / 2) = T := by rw [IntKind.wrap_i64, hT]; omega
  have HT : Hid (∀ _ : Unit, T = ((h.toNat / 2 : Nat) : Int)) := fun _ => hT
  have HI : Hid (∀ _ : Unit, ((h.toNat : Int) % 2 == 1) = isT) := fun _ => hI
  have HX0 : Hid ((w.alloc (.cells #[.int .i64 0, .bool false, .int .u64 0, .string ⟨#[]⟩] 50)).heap[w.heap.size]? = some (.cells #[.int .i64 0, .bool false, .int .u64 0, .string ⟨#[]⟩] 50 (0, 0))) := heap_alloc_new _ _
  have HB0 : Hid (Below w.heap.size w (w.alloc (.cells #[.int .i64 0, .bool false, .int .u64 0, .string ⟨#[]⟩] 50))) := (Below.refl _ _).alloc (Nat.le_refl _) _
  go_enter Tryd.func26, Tryd.ntmps26
  by_cases hb1 : h.toNat < 2 ∨ 127 < h.toNat
  · have HE : Hid (∀ _ : Unit, rdF last h (L.drop (a + 1)) = .inl 2) := by intro _; rw [rdF_eq, if_pos hb1]
    rcases hb1 with hb1 | hb1
    · have hb2 : ((h.toNat : Nat) : Int) < 2 := by omega
      clear hT hI hTw hIw
      go_wp2_with fail
      obtain ⟨q0, q1, q2, q3, _⟩ := box_S HX0.out
      refine bodyPost_ret (v := .tuple #[zeroF.val, .int .i64 (a : Int), .int .i64 2]) (by simp [results, Tryd.results26, go_sem, q0, q1, q2, q3, Fd.val, zeroF]; try rfl) rfl ?_
      exact .inl ⟨_, _, HE.out (), rfl, HB0.out⟩
    · have hb2 : ¬ ((h.toNat : Nat) : Int) < 2 := by omega
      have hb3 : (127 : Int) < ((h.toNat : Nat) : Int) := by omega
      clear hT hI hTw hIw
      go_wp2_with fail
      obtain ⟨q0, q1, q2, q3, _⟩ := box_S HX0.out
      refine bodyPost_ret (v := .tuple #[zeroF.val, .int .i64 (a : Int), .int .i64 2]) (by simp [results, Tryd.results26, go_sem, q0, q1, q2, q3, Fd.val, zeroF]; try rfl) rfl ?_
      exact .inl ⟨_, _, HE.out (), rfl, HB0.out⟩
  have hb2 : ¬ ((h.toNat : Nat) : Int) < 2 := by omega
  have hb3 : ¬ (127 : Int) < ((h.toNat : Nat) : Int) := by omega
  have HH : Hid (¬ (h.toNat < 2 ∨ 127 < h.toNat)) := hb1
  clear hT hI hb1
  go_wp2_with fail
  refine wp_region_held_drew (S := (fun _ => True)) (by kernel_rfl) ?hSsrf (fun hHeld => ?restSrf)
  case hSsrf => exact trivial
  refine wpAnyH_take (i := 0) (v := ?vrf0) rfl (by kernel_rfl) (by kernel_rfl) (by kernel_rfl) (fun _ _ _ h => h) (Or.inl ⟨by rfl, ?hyrf0⟩) (by assumption) ?restrf0
  case hyrf0 =>
    intro w hSw
    (try dsimp only at hSw)
    go_simp
    all_goals with_reducible rfl
  try simp only [Act.put, List.getElem_toArray, List.getElem_cons_succ, List.getElem_cons_zero, List.setIfInBounds_toArray, List.set_cons_zero, List.set_cons_succ]
  refine wpAnyH_take (i := 1) (v := ?vrf1) rfl (by kernel_rfl) (by kernel_rfl) (by kernel_rfl) (fun _ _ _ h => h) (Or.inl ⟨by rfl, ?hyrf1⟩) (by assumption) ?restrf1
  case hyrf1 =>
    intro w hSw
    (try dsimp only at hSw)
    go_simp
    all_goals with_reducible rfl
  try simp only [Act.put, List.getElem_toArray, List.getElem_cons_succ, List.getElem_cons_zero, List.setIfInBounds_toArray, List.set_cons_zero, List.set_cons_succ]
  refine wpAnyH_take (i := 2) (v := ?vrf2) rfl (by kernel_rfl) (by kernel_rfl) (by kernel_rfl) (fun _ _ _ h => h) (Or.inl ⟨by rfl, ?hyrf2⟩) (by assumption) ?restrf2
  case hyrf2 =>
    intro w hSw
    (try dsimp only at hSw)
    go_simp
    all_goals with_reducible rfl
  try simp only [Act.put, List.getElem_toArray, List.getElem_cons_succ, List.getElem_cons_zero, List.setIfInBounds_toArray, List.set_cons_zero, List.set_cons_succ]
  refine wpAnyH_take (i := 3) (v := ?vrf3) rfl (by kernel_rfl) (by kernel_rfl) (by kernel_rfl) (fun _ _ _ h => h) (Or.inl ⟨by rfl, ?hyrf3⟩) (by assumption) ?restrf3
  case hyrf3 =>
    intro w hSw
    (try dsimp only at hSw)
    go_simp
    all_goals with_reducible rfl
  try simp only [Act.put, List.getElem_toArray, List.getElem_cons_succ, List.getElem_cons_zero, List.setIfInBounds_toArray, List.set_cons_zero, List.set_cons_succ]
  refine wpAnyH_take (i := 4) (v := ?vrf4) rfl (by kernel_rfl) (by kernel_rfl) (by kernel_rfl) (fun _ _ _ h => h) (Or.inl ⟨by rfl, ?hyrf4⟩) (by assumption) ?restrf4
  case hyrf4 =>
    intro w hSw
    (try dsimp only at hSw)
    go_simp
    all_goals with_reducible rfl
  try simp only [Act.put, List.getElem_toArray, List.getElem_cons_succ, List.getElem_cons_zero, List.setIfInBounds_toArray, List.set_cons_zero, List.set_cons_succ]
  refine wpAnyH_take (i := 5) (v := ?vrf5) rfl (by kernel_rfl) (by kernel_rfl) (by kernel_rfl) (fun _ _ _ h => h) (Or.inl ⟨by rfl, ?hyrf5⟩) (by assumption) ?restrf5
  case hyrf5 =>
    intro w hSw
    (try dsimp only at hSw)
    go_simp
    all_goals with_reducible rfl
  try simp only [Act.put, List.getElem_toArray, List.getElem_cons_succ, List.getElem_cons_zero, List.setIfInBounds_toArray, List.set_cons_zero, List.set_cons_succ]
  refine wpAnyH_take (i := 6) (v := ?vrf6) rfl (by kernel_rfl) (by kernel_rfl) (by kernel_rfl) (fun _ _ _ h => h) (Or.inl ⟨by rfl, ?hyrf6⟩) (by assumption) ?restrf6
  case hyrf6 =>
    intro w hSw
    (try dsimp only at hSw)
    go_simp
    all_goals with_reducible rfl
  try simp only [Act.put, List.getElem_toArray, List.getElem_cons_succ, List.getElem_cons_zero, List.setIfInBounds_toArray, List.set_cons_zero, List.set_cons_succ]
  refine wpAnyH_take (i := 7) (v := ?vrf7) rfl (by kernel_rfl) (by kernel_rfl) (by kernel_rfl) (fun _ _ _ h => h) (Or.inl ⟨by rfl, ?hyrf7⟩) (by assumption) ?restrf7
  case hyrf7 =>
    intro w hSw
    (try dsimp only at hSw)
    go_simp
    all_goals with_reducible rfl
  try simp only [Act.put, List.getElem_toArray, List.getElem_cons_succ, List.getElem_cons_zero, List.setIfInBounds_toArray, List.set_cons_zero, List.set_cons_succ]
  refine wpAnyH_take (i := 8) (v := ?vrf8) rfl (by kernel_rfl) (by kernel_rfl) (by kernel_rfl) (fun _ _ _ h => h) (Or.inl ⟨by rfl, ?hyrf8⟩) (by assumption) ?restrf8
  case hyrf8 =>
    intro w hSw
    (try dsimp only at hSw)
    go_simp
    all_goals with_reducible rfl
  try simp only [Act.put, List.getElem_toArray, List.getElem_cons_succ, List.getElem_cons_zero, List.setIfInBounds_toArray, List.set_cons_zero, List.set_cons_succ]
  refine wpAnyH_take (i := 9) (v := ?vrf9) rfl (by kernel_rfl) (by kernel_rfl) (by kernel_rfl) (fun _ _ _ h => h) (Or.inl ⟨by rfl, ?hyrf9⟩) (by assumption) ?restrf9
  case hyrf9 =>
    intro w hSw
    (try dsimp only at hSw)
    go_simp
    all_goals with_reducible rfl
  try simp only [Act.put, List.getElem_toArray, List.getElem_cons_succ, List.getElem_cons_zero, List.setIfInBounds_toArray, List.set_cons_zero, List.set_cons_succ]
  refine wpAnyH_take (i := 10) (v := ?vrf10) rfl (by kernel_rfl) (by kernel_rfl) (by kernel_rfl) (fun _ _ _ h => h) (Or.inl ⟨by rfl, ?hyrf10⟩) (by assumption) ?restrf10
  case hyrf10 =>
    intro w hSw
    (try dsimp only at hSw)
    go_simp
    all_goals with_reducible rfl
  try simp only [Act.put, List.getElem_toArray, List.getElem_cons_succ, List.getElem_cons_zero, List.setIfInBounds_toArray, List.set_cons_zero, List.set_cons_succ]
  refine wpAnyH_ready (rs := [11]) (by kernel_rfl) (by simp) ?_
  refine AllReadyH.cons rfl (fun K hK => ?_) (AllReadyH.nil)
  try go_simp
  refine hK.out _ _ ?hScrf11 (fun hHeld => ?restcrf11)
  case hScrf11 => trivial
  clear hK K
  try simp only [Act.put, List.getElem_toArray, List.getElem_cons_succ, List.getElem_cons_zero, List.setIfInBounds_toArray, List.set_cons_zero, List.set_cons_succ]
  refine wpAnyH_ready (rs := [12]) (by kernel_rfl) (by simp) ?_
  refine AllReadyH.cons rfl (fun K hK => ?_) (AllReadyH.nil)
  try go_simp
  refine hK.out _ _ ?hScrf12 (fun hHeld => ?restcrf12)
  case hScrf12 => trivial
  clear hK K
  try simp only [Act.put, List.getElem_toArray, List.getElem_cons_succ, List.getElem_cons_zero, List.setIfInBounds_toArray, List.set_cons_zero, List.set_cons_succ]
  refine wpAnyH_done (by kernel_rfl) ?_ _
  have HXR : Hid (((w.alloc (.cells #[.int .i64 0, .bool false, .int .u64 0, .string ⟨#[]⟩] 50)).alloc (.cells #[.int .i64 T, .bool isT, .int .u64 0, .string ⟨#[]⟩] 50)).drew.heap[w.heap.size]? = some (.cells #[.int .i64 0, .bool false, .int .u64 0, .string ⟨#[]⟩] 50 (0, 0))) := below_box (((Below.refl _ _).alloc (Nat.le_refl _) _).drew) HX0.out
  have HXF : Hid (((w.alloc (.cells #[.int .i64 0, .bool false, .int .u64 0, .string ⟨#[]⟩] 50)).alloc (.cells #[.int .i64 T, .bool isT, .int .u64 0, .string ⟨#[]⟩] 50)).drew.heap[w.heap.size + 1]? = some (.cells #[.int .i64 T, .bool isT, .int .u64 0, .string ⟨#[]⟩] 50 (0, 0))) := by
    have q := heap_alloc_new (w.alloc (.cells #[.int .i64 0, .bool false, .int .u64 0, .string ⟨#[]⟩] 50)) (.cells #[.int .i64 T, .bool isT, .int .u64 0, .string ⟨#[]⟩] 50)
    rw [World.size_alloc] at q
    exact q
  have HBW : Hid (Below w.heap.size w ((w.alloc (.cells #[.int .i64 0, .bool false, .int .u64 0, .string ⟨#[]⟩] 50)).alloc (.cells #[.int .i64 T, .bool isT, .int .u64 0, .string ⟨#[]⟩] 50)).drew) := (HB0.out.alloc HB0.out.size _).drew
  have hFne : w.heap.size + 1 ≠ w.heap.size := by omega
  have hFle : w.heap.size ≤ w.heap.size + 1 := by omega
  clear hTw hTw2 hIw hHeld HX0 HB0 hw1
  generalize ((w.alloc (.cells #[.int .i64 0, .bool false, .int .u64 0, .string ⟨#[]⟩] 50)).alloc (.cells #[.int .i64 T, .bool isT, .int .u64 0, .string ⟨#[]⟩] 50)).drew = W at HXR HXF HBW ⊢
  generalize w.heap.size + 1 = F at HXF hFne hFle ⊢
  obtain ⟨z0, z1, z2, z3, _⟩ := box_S HXF.out
  obtain ⟨x0, x1, x2, x3, _⟩ := box_S HXR.out
  have y0 := box_fr HXR.out 0
  have y1 := box_fr HXR.out 1
  have y2 := box_fr HXR.out 2
  have y3 := box_fr HXR.out 3
  have ha2 : (a : Int) + 2 ≤ 140737488351234 := by omega
  by_cases hl : T ≤ last
  · have HE : Hid (∀ _ : Unit, rdF last h (L.drop (a + 1)) = .inl 7) := by intro _; rw [rdF_eq, if_neg HH.out, if_pos (by rw [← HT.out ()]; exact hl)]
    go_wp2_with fail
    have HS4 := set4_heap HXR.out (.int .i64 0) (.bool false) (.int .u64 0) (.string ⟨#[]⟩)
    have HBS := below_set (j := 3) (v := .string ⟨#[]⟩) (below_set (j := 2) (v := .int .u64 0) (below_set (j := 1) (v := .bool false) (below_set (j := 0) (v := .int .i64 0) HBW.out (Nat.le_refl _)) (Nat.le_refl _)) (Nat.le_refl _)) (Nat.le_refl _)
    obtain ⟨q0, q1, q2, q3, _⟩ := box_S HS4
    refine bodyPost_ret (v := .tuple #[zeroF.val, .int .i64 (a : Int), .int .i64 7]) (by simp [results, Tryd.results26, go_sem, q0, q1, q2, q3, Fd.val, zeroF]; try rfl) rfl ?_
    exact .inl ⟨_, _, HE.out (), rfl, HBS⟩
  have HF : Hid (∀ _ : Unit, rdF last h (L.drop (a + 1)) = match rdN (L.drop (a + 1)) with
    | .inl c => .inl c
    | .inr (n, r) => if h.toNat % 2 = 0 then .inr (⟨(h.toNat / 2 : Nat), false, n, ⟨#[]⟩⟩, r) else if 2000 < n then .inl 4 else if r.length < n then .inl 3 else .inr (⟨(h.toNat / 2 : Nat), true, 0, ⟨(r.take n).toArray⟩⟩, r.drop n)) := by
    intro _
    rw [rdF_eq, if_neg HH.out, if_neg (by rw [← HT.out ()]; exact hl)]
    rfl
  by_cases hend : a + 1 = L.length
  · have hd : L.drop (a + 1) = [] := List.drop_eq_nil_of_le (by omega)
    have HE : Hid (∀ _ : Unit, rdF last h (L.drop (a + 1)) = .inl 3) := by intro _; rw [HF.out (), hd]; rfl
    have he1 : (((a : Int) + 1) == (s.size : Int)) = true := by rw [beq_iff_eq]; omega
    clear hend hd hls ha
    go_wp2_with fail
    have HS4 := set4_heap HXR.out (.int .i64 0) (.bool false) (.int .u64 0) (.string ⟨#[]⟩)
    have HBS := below_set (j := 3) (v := .string ⟨#[]⟩) (below_set (j := 2) (v := .int .u64 0) (below_set (j := 1) (v := .bool false) (below_set (j := 0) (v := .int .i64 0) HBW.out (Nat.le_refl _)) (Nat.le_refl _)) (Nat.le_refl _)) (Nat.le_refl _)
    obtain ⟨q0, q1, q2, q3, _⟩ := box_S HS4
    refine bodyPost_ret (v := .tuple #[zeroF.val, .int .i64 ((a : Int) + 1), .int .i64 3]) (by simp [results, Tryd.results26, go_sem, q0, q1, q2, q3, Fd.val, zeroF]; try rfl) rfl ?_
    exact .inl ⟨_, _, HE.out (), rfl, HBS⟩
  have he1 : (((a : Int) + 1) == (s.size : Int)) = false := by rw [beq_eq_false_iff_ne]; omega
  have hlt1 : a + 1 < L.length := by omega
  obtain ⟨k, hk⟩ : ∃ k, k = L[a + 1] := ⟨_, rfl⟩
  obtain ⟨κ, hκ⟩ : ∃ κ : Nat, κ = k.toNat := ⟨_, rfl⟩
  obtain ⟨l2, hl2⟩ : ∃ l2, l2 = L.drop (a + 2) := ⟨_, rfl⟩
  have hd : L.drop (a + 1) = k :: l2 := by rw [hk, hl2]; exact List.drop_eq_getElem_cons hlt1
  have hi1 : ∀ W, (Instr.index 9 (.string s) (.int .i64 ((a : Int) + 1))).run Tryd.prog W = .ok (.int .u8 (κ : Int)) W := fun W => by
    have q := idx_str (P := Tryd.prog) 9 Tryd.underlying9 s (a + 1) k (by rw [hL, hk]; exact List.getElem?_eq_getElem hlt1) W
    rw [Int.natCast_add, ← hκ] at q
    exact q
  have hll : l2.length = L.length - (a + 2) := by rw [hl2, List.length_drop]
  have hkb : κ < 256 := by rw [hκ]; exact k.toNat_lt
  have HK := Lib.hid hκ
  have hF2 := HF.out ()
  conv at hF2 => rhs; rw [hd]
  have HL2 := Lib.hid hl2
  have HD := Lib.hid hd
  have HLS := Lib.hid hls
  have HLT1 := Lib.hid hlt1
  have hls2 : (s.size : Int) - ((a : Int) + 1 + 1) = (l2.length : Int) := by omega
  clear HF hk hκ hl2 hd hend hls hll ha hlt1
  have HF : Hid (∀ _ : Unit, rdF last h (L.drop (a + 1)) = _) := fun _ => hF2
  clear hF2
  by_cases h8 : 8 < κ
  · have HE : Hid (∀ _ : Unit, rdF last h (L.drop (a + 1)) = .inl 5) := by intro _; rw [HF.out (), rdN, ← HK.out, if_pos h8]
    have h8i : (8 : Int) < (κ : Int) := by omega
    go_wp2_with fail
    have HS4 := set4_heap HXR.out (.int .i64 0) (.bool false) (.int .u64 0) (.string ⟨#[]⟩)
    have HBS := below_set (j := 3) (v := .string ⟨#[]⟩) (below_set (j := 2) (v := .int .u64 0) (below_set (j := 1) (v := .bool false) (below_set (j := 0) (v := .int .i64 0) HBW.out (Nat.le_refl _)) (Nat.le_refl _)) (Nat.le_refl _)) (Nat.le_refl _)
    obtain ⟨q0, q1, q2, q3, _⟩ := box_S HS4
    refine bodyPost_ret (v := .tuple #[zeroF.val, .int .i64 ((a : Int) + 1 + 1), .int .i64 5]) (by simp [results, Tryd.results26, go_sem, q0, q1, q2, q3, Fd.val, zeroF]; try rfl) rfl ?_
    exact .inl ⟨_, _, HE.out (), rfl, HBS⟩
  have h8i : ¬ (8 : Int) < (κ : Int) := by omega
  by_cases hlk : l2.length < κ
  · have HE : Hid (∀ _ : Unit, rdF last h (L.drop (a + 1)) = .inl 3) := by intro _; rw [HF.out (), rdN, ← HK.out, if_neg h8, if_pos hlk]
    have hlki : (l2.length : Int) < (κ : Int) := by omega
    go_wp2_with fail
    have HS4 := set4_heap HXR.out (.int .i64 0) (.bool false) (.int .u64 0) (.string ⟨#[]⟩)
    have HBS := below_set (j := 3) (v := .string ⟨#[]⟩) (below_set (j := 2) (v := .int .u64 0) (below_set (j := 1) (v := .bool false) (below_set (j := 0) (v := .int .i64 0) HBW.out (Nat.le_refl _)) (Nat.le_refl _)) (Nat.le_refl _)) (Nat.le_refl _)
    obtain ⟨q0, q1, q2, q3, _⟩ := box_S HS4
    refine bodyPost_ret (v := .tuple #[zeroF.val, .int .i64 ((a : Int) + 1 + 1), .int .i64 3]) (by simp [results, Tryd.results26, go_sem, q0, q1, q2, q3, Fd.val, zeroF]; try rfl) rfl ?_
    exact .inl ⟨_, _, HE.out (), rfl, HBS⟩
  have hlki : ¬ (l2.length : Int) < (κ : Int) := by omega
  obtain ⟨q, hq⟩ : ∃ q, q = l2.take κ := ⟨_, rfl⟩
  have hql : q.length = κ := by rw [hq, List.length_take]; omega
  have HQ := Lib.hid hq
  have hF3 := HF.out ()
  rw [rdN, ← HK.out, if_neg h8, if_neg hlk, ← hq] at hF3
  have HF : Hid (∀ _ : Unit, rdF last h (L.drop (a + 1)) = _) := fun _ => hF3
  clear hF3 h8 hlk hq
  have HQL := Lib.hid hql
  clear hql
  have hk8 : κ ≤ 8 := by omega
  have hab0 : a + 2 ≤ s.size := by
    have h1 := HLS.out
    have h2 := HLT1.out
    omega
  clear ha2
  rcases Nat.eq_zero_or_pos κ with hk0 | hk0
  · subst hk0
    obtain ⟨M, hM⟩ : ∃ M, M = foldB q := ⟨_, rfl⟩
    have hM0 : M = 0 := by
      rw [hM, List.eq_nil_of_length_eq_zero HQL.out]
      rfl
    have HM : Hid (∀ _ : Unit, foldB q = M) := fun _ => hM.symm
    have hF4 := HF.out ()
    rw [if_neg (by omega), ← hM] at hF4
    subst hM0
    have HF4 : Hid (∀ _ : Unit, rdF last h (L.drop (a + 1)) = _) := fun _ => hF4
    clear HF hF4 hM h8i hlki hk8
    go_wp2_with fail
    refine wp_loop_rounds 1 ?_
    rw [rounds_succ]
    obtain ⟨r, hr⟩ : ∃ r, r = L.drop (a + 1 + 1) := ⟨_, rfl⟩
    have hrl : (s.size : Int) - ((a : Int) + 1 + 1) = (r.length : Int) := by
      have h0 := HLS.out
      have h1 := HLT1.out
      rw [hr, List.length_drop]
      have := congrArg List.length HL2.out
      rw [List.length_drop] at this
      omega
    have hr2 : l2.drop 0 = r := by rw [hr, HL2.out, List.drop_drop]
    have hmm : a + 1 + 1 ≤ L.length := by
      have h1 := HLT1.out
      have := congrArg List.length HL2.out
      rw [List.length_drop] at this
      omega
    have hF5 := HF4.out ()
    rw [hr2] at hF5
    try dsimp only at hF5
    have HF : Hid (∀ _ : Unit, rdF last h (L.drop (a + 1)) = _) := fun _ => hF5
    have HR := Lib.hid hr
    have HMM := Lib.hid hmm
    have hab9 : a + 2 ≤ s.size := by
      have h1 := HLS.out
      omega
    clear hF5 HF4 hr2 hr hmm
    cases isT with
    | false =>
      have h2 : h.toNat % 2 = 0 := by have := HI.out (); rw [beq_eq_false_iff_ne] at this; omega
      have HE : Hid (∀ _ : Unit, rdF last h (L.drop (a + 1)) = .inr (⟨T, false, 0, ⟨#[]⟩⟩, L.drop (a + 1 + 1))) := by intro _; rw [HF.out (), if_pos h2, ← HT.out (), HR.out]
      clear h2
      have f2 := box_fr HXF.out 2
      clear hrl hls2
      go_wp2_with fail
      have HXR2 := (setF_heap (j := 2) (v := .int .u64 0) hFne.symm).trans HXR.out
      have HS4 := set4_heap HXR2 (.int .i64 T) (.bool false) (.int .u64 0) (.string ⟨#[]⟩)
      have HBS := below_set (j := 3) (v := .string ⟨#[]⟩) (below_set (j := 2) (v := .int .u64 0) (below_set (j := 1) (v := .bool false) (below_set (j := 0) (v := .int .i64 T) (below_set (j := 2) (v := .int .u64 0) HBW.out hFle) (Nat.le_refl _)) (Nat.le_refl _)) (Nat.le_refl _)) (Nat.le_refl _)
      obtain ⟨q0, q1, q2, q3, _⟩ := box_S HS4
      refine bodyPost_ret (v := .tuple #[(⟨T, false, 0, ⟨#[]⟩⟩ : Fd).val, .int .i64 ((a : Int) + 1 + 1), .int .i64 0]) (by simp [results, Tryd.results26, go_sem, q0, q1, q2, q3, Fd.val]; try rfl) rfl ?_
      exact .inr ⟨_, _, HE.out (), HMM.out, by simp only [Int.natCast_add]; rfl, HBS⟩
    | true =>
      have h2 : ¬ h.toNat % 2 = 0 := by have := HI.out (); rw [beq_iff_eq] at this; omega
      have hF6 := HF.out ()
      rw [if_neg h2, ← HT.out ()] at hF6
      have HF : Hid (∀ _ : Unit, rdF last h (L.drop (a + 1)) = _) := fun _ => hF6
      clear h2 hF6
      have hn : ¬ 2000 < 0 := by decide
      have hni : ¬ (2000 : Int) < (0 : Int) := by omega
      have hrn : ¬ r.length < 0 := by omega
      have hrni : ¬ (r.length : Int) < (0 : Int) := by omega
      obtain ⟨Q, hQ⟩ : ∃ Q : ByteArray, Q = ⟨(r.take 0).toArray⟩ := ⟨_, rfl⟩
      have HE : Hid (∀ _ : Unit, rdF last h (L.drop (a + 1)) = .inr (⟨T, true, 0, Q⟩, L.drop (a + 1 + 1))) := by intro _; rw [HF.out (), if_neg hn, if_neg hrn, hQ, HR.out, List.drop_drop]
      have hsl : ∀ W, (Instr.slice 9 (.string s) (some (.int .i64 ((a : Int) + 1 + 1))) (some (.int .i64 ((a : Int) + 1 + 1))) none).run Tryd.prog W = .ok (.string Q) W := fun W => by
        rw [run_slice_string W 9 s .i64 .i64 _ _ Tryd.underlying9 (by omega) (by omega) (by omega)]
        congr 2
        apply ByteArray.ext
        rw [← Array.toList_inj, Lib.extract_data, hL, hQ, HR.out]
        have e1 : ((a : Int) + 1 + 1).toNat = a + 1 + 1 := by omega
        have e2 : ((a : Int) + 1 + 1).toNat - ((a : Int) + 1 + 1).toNat = 0 := by omega
        rw [e2, e1]
      have hmm2 : a + 1 + 1 + 0 ≤ L.length := by
        have h1 := congrArg List.length HR.out
        have h2 := HMM.out
        rw [List.length_drop] at h1
        omega
      have HM2 := Lib.hid hmm2
      clear hQ hmm2
      have f3 := box_fr HXF.out 3
      go_wp2_with fail
      have HXR2 := (setF_heap (j := 3) (v := .string Q) hFne.symm).trans HXR.out
      have HS4 := set4_heap HXR2 (.int .i64 T) (.bool true) (.int .u64 0) (.string Q)
      have HBS := below_set (j := 3) (v := .string Q) (below_set (j := 2) (v := .int .u64 0) (below_set (j := 1) (v := .bool true) (below_set (j := 0) (v := .int .i64 T) (below_set (j := 3) (v := .string Q) HBW.out hFle) (Nat.le_refl _)) (Nat.le_refl _)) (Nat.le_refl _)) (Nat.le_refl _)
      obtain ⟨q0, q1, q2, q3, _⟩ := box_S HS4
      refine bodyPost_ret (v := .tuple #[(⟨T, true, 0, Q⟩ : Fd).val, .int .i64 ((a : Int) + 1 + 1), .int .i64 0]) (by simp [results, Tryd.results26, go_sem, q0, q1, q2, q3, Fd.val]; try rfl) rfl ?_
      exact .inr ⟨_, _, HE.out (), HM2.out, by simp only [Int.natCast_add]; rfl, HBS⟩
  go_wp2_with fail
  go_loopw [11, 12] (fun nv iv wr => ∃ i : Nat, i ≤ κ ∧ iv = .int .i64 i ∧ nv = .int .u64 ((foldB (q.take i) : Nat) : Int) ∧ wr = W) (fun _ iv _ => κ - (intOf iv).toNat)
  case atStart => exact ⟨0, Nat.zero_le _, rfl, rfl, rfl⟩
  case round =>
    obtain ⟨i, hi, rfl, rfl, rfl⟩ := hrel
    by_cases hik : i < κ
    · obtain ⟨x, hx⟩ : ∃ x, q[i]? = some x := ⟨q[i]'(by rw [HQL.out]; exact hik), List.getElem?_eq_getElem _⟩
      have hxi : ∀ W, (Instr.index 9 (.string s) (.int .i64 ((a : Int) + 1 + 1 + (i : Int)))).run Tryd.prog W = .ok (.int .u8 ((x.toNat : Nat) : Int)) W := fun W => by
        have q7 := idx_str (P := Tryd.prog) 9 Tryd.underlying9 s (a + 1 + 1 + i) x (by
          rw [hL]
          rw [HQ.out, HL2.out, List.getElem?_take, if_pos hik, List.getElem?_drop] at hx
          exact hx) W
        rwa [Int.natCast_add, Int.natCast_add, Int.natCast_add] at q7
      have hz := foldB_small (l := q) (i := i) (by omega)
      have HFN := Lib.hid (foldB_next hx)
      generalize foldB (q.take i) = z at hz HFN ⊢
      have hx8 := x.toNat_lt
      have hw64 : IntKind.u64.wrap (IntKind.u64.wrap ((z : Int) * 256) + (x.toNat : Int)) = ((z * 256 + x.toNat : Nat) : Int) := by rw [IntKind.wrap_u64, IntKind.wrap_u64]; omega
      clear hx
      go_wp2_with fail
      go_roundw
      case rel => exact ⟨i + 1, by omega, by go_num, by rw [HFN.out]; first | rfl | (simp only [Int.natCast_add, Int.natCast_mul]; rfl), by first | rfl | trivial⟩
      case measure => simp [intOf]; omega
    · obtain rfl : κ = i := by omega
      obtain ⟨M, hM⟩ : ∃ M, M = foldB q := ⟨_, rfl⟩
      have hM2 : foldB (q.take κ) = M := by rw [← HQL.out, List.take_length, hM]
      rw [hM2]
      have HM : Hid (∀ _ : Unit, foldB q = M) := fun _ => hM.symm
      have hF4 := HF.out ()
      rw [← hM] at hF4
      clear HF hM hM2 hi hik
      have HF : Hid (∀ _ : Unit, rdF last h (L.drop (a + 1)) = _) := fun _ => hF4
      clear hF4
      obtain ⟨b0, l3, hl3⟩ : ∃ b0 l3, l2 = b0 :: l3 := by
        cases hl : l2 with
        | nil => rw [hl] at hlki; simp at hlki; omega
        | cons b0 l3 => exact ⟨b0, l3, rfl⟩
      have hki : (0 : Int) < (κ : Int) := by omega
      have hbi : ∀ W, (Instr.index 9 (.string s) (.int .i64 ((a : Int) + 1 + 1))).run Tryd.prog W = .ok (.int .u8 ((b0.toNat : Nat) : Int)) W := fun W => by
        have q7 := idx_str (P := Tryd.prog) 9 Tryd.underlying9 s (a + 1 + 1) b0 (by
          rw [hL]
          have e := congrArg (fun t : List UInt8 => t[0]?) HL2.out
          simp only [List.getElem?_drop] at e
          rw [hl3] at e
          exact e.symm) W
        rwa [Int.natCast_add, Int.natCast_add] at q7
      have hb8 := b0.toNat_lt
      by_cases hb0 : b0 = 0
      · have HE : Hid (∀ _ : Unit, rdF last h (L.drop (a + 1)) = .inl 5) := by intro _; rw [HF.out (), if_pos ⟨by omega, by rw [hl3, hb0]; rfl⟩]
        have hbz : ((b0.toNat : Int) == 0) = true := by rw [hb0]; rfl
        clear hb0 hl3 hk0
        go_wp2_with fail
        have HS4 := set4_heap HXR.out (.int .i64 0) (.bool false) (.int .u64 0) (.string ⟨#[]⟩)
        have HBS := below_set (j := 3) (v := .string ⟨#[]⟩) (below_set (j := 2) (v := .int .u64 0) (below_set (j := 1) (v := .bool false) (below_set (j := 0) (v := .int .i64 0) HBW.out (Nat.le_refl _)) (Nat.le_refl _)) (Nat.le_refl _)) (Nat.le_refl _)
        obtain ⟨q0, q1, q2, q3, _⟩ := box_S HS4
        refine bodyPost_ret (v := .tuple #[zeroF.val, .int .i64 ((a : Int) + 1 + 1), .int .i64 5]) (by simp [results, Tryd.results26, go_sem, q0, q1, q2, q3, Fd.val, zeroF]; try rfl) rfl ?_
        exact .inl ⟨_, _, HE.out (), rfl, HBS⟩
      · have hbz : ((b0.toNat : Int) == 0) = false := by
          rw [beq_eq_false_iff_ne]
          intro e
          exact hb0 (by apply UInt8.toNat_inj.1; simp; omega)
        have hF4 := HF.out ()
        rw [if_neg (by rw [hl3]; rintro ⟨_, e⟩; simp at e; exact hb0 e)] at hF4
        have HF4 : Hid (∀ _ : Unit, rdF last h (L.drop (a + 1)) = _) := fun _ => hF4
        clear HF hF4 hb0 hl3 hk0
        obtain ⟨r, hr⟩ : ∃ r, r = L.drop (a + 1 + 1 + κ) := ⟨_, rfl⟩
        have hrl : (s.size : Int) - ((a : Int) + 1 + 1 + (κ : Int)) = (r.length : Int) := by
          have h0 := HLS.out
          have h1 := HLT1.out
          rw [hr, List.length_drop]
          have := congrArg List.length HL2.out
          rw [List.length_drop] at this
          omega
        have hr2 : l2.drop κ = r := by rw [hr, HL2.out, List.drop_drop]
        have hmm : a + 1 + 1 + κ ≤ L.length := by
          have h1 := HLT1.out
          have := congrArg List.length HL2.out
          rw [List.length_drop] at this
          omega
        have hF5 := HF4.out ()
        rw [hr2] at hF5
        try dsimp only at hF5
        have HF : Hid (∀ _ : Unit, rdF last h (L.drop (a + 1)) = _) := fun _ => hF5
        have HR := Lib.hid hr
        have HMM := Lib.hid hmm
        have hab : a + (2 + κ) ≤ s.size := by
          have h1 := HLS.out
          omega
        clear hF5 HF4 hr2 hr hmm
        cases isT with
        | false =>
          have h2 : h.toNat % 2 = 0 := by have := HI.out (); rw [beq_eq_false_iff_ne] at this; omega
          have HE : Hid (∀ _ : Unit, rdF last h (L.drop (a + 1)) = .inr (⟨T, false, M, ⟨#[]⟩⟩, L.drop (a + 1 + 1 + κ))) := by intro _; rw [HF.out (), if_pos h2, ← HT.out (), HR.out]
          clear h2
          have f2 := box_fr HXF.out 2
          clear hrl hls2 hlki
          go_wp2_with fail
          have HXR2 := (setF_heap (j := 2) (v := .int .u64 (M : Nat)) hFne.symm).trans HXR.out
          have HS4 := set4_heap HXR2 (.int .i64 T) (.bool false) (.int .u64 (M : Nat)) (.string ⟨#[]⟩)
          have HBS := below_set (j := 3) (v := .string ⟨#[]⟩) (below_set (j := 2) (v := .int .u64 (M : Nat)) (below_set (j := 1) (v := .bool false) (below_set (j := 0) (v := .int .i64 T) (below_set (j := 2) (v := .int .u64 (M : Nat)) HBW.out hFle) (Nat.le_refl _)) (Nat.le_refl _)) (Nat.le_refl _)) (Nat.le_refl _)
          obtain ⟨q0, q1, q2, q3, _⟩ := box_S HS4
          refine bodyPost_ret (v := .tuple #[(⟨T, false, M, ⟨#[]⟩⟩ : Fd).val, .int .i64 ((a : Int) + 1 + 1 + (κ : Int)), .int .i64 0]) (by simp [results, Tryd.results26, go_sem, q0, q1, q2, q3, Fd.val]; try rfl) rfl ?_
          exact .inr ⟨_, _, HE.out (), HMM.out, by simp only [Int.natCast_add]; rfl, HBS⟩
        | true =>
          have h2 : ¬ h.toNat % 2 = 0 := by have := HI.out (); rw [beq_iff_eq] at this; omega
          have hF6 := HF.out ()
          rw [if_neg h2, ← HT.out ()] at hF6
          have HF : Hid (∀ _ : Unit, rdF last h (L.drop (a + 1)) = _) := fun _ => hF6
          clear h2 hF6
          by_cases hn : 2000 < M
          · have HE : Hid (∀ _ : Unit, rdF last h (L.drop (a + 1)) = .inl 4) := by intro _; rw [HF.out (), if_pos hn]
            have hni : (2000 : Int) < (M : Int) := by omega
            go_wp2_with fail
            have HS4 := set4_heap HXR.out (.int .i64 0) (.bool false) (.int .u64 0) (.string ⟨#[]⟩)
            have HBS := below_set (j := 3) (v := .string ⟨#[]⟩) (below_set (j := 2) (v := .int .u64 0) (below_set (j := 1) (v := .bool false) (below_set (j := 0) (v := .int .i64 0) HBW.out (Nat.le_refl _)) (Nat.le_refl _)) (Nat.le_refl _)) (Nat.le_refl _)
            obtain ⟨q0, q1, q2, q3, _⟩ := box_S HS4
            refine bodyPost_ret (v := .tuple #[zeroF.val, .int .i64 ((a : Int) + 1 + 1 + (κ : Int)), .int .i64 4]) (by simp [results, Tryd.results26, go_sem, q0, q1, q2, q3, Fd.val, zeroF]; try rfl) rfl ?_
            exact .inl ⟨_, _, HE.out (), rfl, HBS⟩
          have hni : ¬ (2000 : Int) < (M : Int) := by omega
          by_cases hrn : r.length < M
          · have HE : Hid (∀ _ : Unit, rdF last h (L.drop (a + 1)) = .inl 3) := by intro _; rw [HF.out (), if_neg hn, if_pos hrn]
            have hrni : (r.length : Int) < (M : Int) := by omega
            go_wp2_with fail
            have HS4 := set4_heap HXR.out (.int .i64 0) (.bool false) (.int .u64 0) (.string ⟨#[]⟩)
            have HBS := below_set (j := 3) (v := .string ⟨#[]⟩) (below_set (j := 2) (v := .int .u64 0) (below_set (j := 1) (v := .bool false) (below_set (j := 0) (v := .int .i64 0) HBW.out (Nat.le_refl _)) (Nat.le_refl _)) (Nat.le_refl _)) (Nat.le_refl _)
            obtain ⟨q0, q1, q2, q3, _⟩ := box_S HS4
            refine bodyPost_ret (v := .tuple #[zeroF.val, .int .i64 ((a : Int) + 1 + 1 + (κ : Int)), .int .i64 3]) (by simp [results, Tryd.results26, go_sem, q0, q1, q2, q3, Fd.val, zeroF]; try rfl) rfl ?_
            exact .inl ⟨_, _, HE.out (), rfl, HBS⟩
          have hrni : ¬ (r.length : Int) < (M : Int) := by omega
          obtain ⟨Q, hQ⟩ : ∃ Q : ByteArray, Q = ⟨(r.take M).toArray⟩ := ⟨_, rfl⟩
          have HE : Hid (∀ _ : Unit, rdF last h (L.drop (a + 1)) = .inr (⟨T, true, 0, Q⟩, L.drop (a + 1 + 1 + κ + M))) := by intro _; rw [HF.out (), if_neg hn, if_neg hrn, hQ, HR.out, List.drop_drop]
          have hsl : ∀ W, (Instr.slice 9 (.string s) (some (.int .i64 ((a : Int) + 1 + 1 + (κ : Int)))) (some (.int .i64 ((a : Int) + 1 + 1 + (κ : Int) + (M : Int)))) none).run Tryd.prog W = .ok (.string Q) W := fun W => by
            rw [run_slice_string W 9 s .i64 .i64 _ _ Tryd.underlying9 (by omega) (by omega) (by omega)]
            congr 2
            apply ByteArray.ext
            rw [← Array.toList_inj, Lib.extract_data, hL, hQ, HR.out]
            have e1 : ((a : Int) + 1 + 1 + (κ : Int)).toNat = a + 1 + 1 + κ := by omega
            have e2 : ((a : Int) + 1 + 1 + (κ : Int) + (M : Int)).toNat - ((a : Int) + 1 + 1 + (κ : Int)).toNat = M := by omega
            rw [e2, e1]
          have hmm2 : a + 1 + 1 + κ + M ≤ L.length := by
            have h1 := congrArg List.length HR.out
            have h2 := HMM.out
            rw [List.length_drop] at h1
            omega
          have HM2 := Lib.hid hmm2
          clear hQ hmm2
          have f3 := box_fr HXF.out 3
          go_wp2_with fail
          have HXR2 := (setF_heap (j := 3) (v := .string Q) hFne.symm).trans HXR.out
          have HS4 := set4_heap HXR2 (.int .i64 T) (.bool true) (.int .u64 0) (.string Q)
          have HBS := below_set (j := 3) (v := .string Q) (below_set (j := 2) (v := .int .u64 0) (below_set (j := 1) (v := .bool true) (below_set (j := 0) (v := .int .i64 T) (below_set (j := 3) (v := .string Q) HBW.out hFle) (Nat.le_refl _)) (Nat.le_refl _)) (Nat.le_refl _)) (Nat.le_refl _)
          obtain ⟨q0, q1, q2, q3, _⟩ := box_S HS4
          refine bodyPost_ret (v := .tuple #[(⟨T, true, 0, Q⟩ : Fd).val, .int .i64 ((a : Int) + 1 + 1 + (κ : Int) + (M : Int)), .int .i64 0]) (by simp [results, Tryd.results26, go_sem, q0, q1, q2, q3, Fd.val]; try rfl) rfl ?_
          exact .inr ⟨_, _, HE.out (), HM2.out, by simp only [Int.natCast_add]; rfl, HBS⟩
end Go.Proofs.YtemngdhbicndlaaDoor
