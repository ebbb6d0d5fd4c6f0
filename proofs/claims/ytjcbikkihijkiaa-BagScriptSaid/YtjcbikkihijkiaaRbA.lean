/- The reference's bag: what reads it. -/
import Derived.Test.YtjcbikkihijkiaaBgW
namespace Go.Proofs.Ytjcbikkihijkiaa
open Go.RowKit
def RfB (w : World) (G : Nat → Prop) (r : Nat) (L : List (Int × Nat)) (o : Nat) : Prop :=
  G r ∧ ∃ v, w.heap[r]? = some (.cells #[v, .int .i64 (o : Int)] 48 (0, 0)) ∧ w.ownsRow 0 34 2 v L.length (oftF L) ∧ ∀ k, v.ownBlock = some k → G k ∧ k ≠ r
theorem own_keep {w w' : World} {base : Nat} {e : TypeId} {size : Nat} {v : Value} {n : Nat} {xs : List Value} (h : w.ownsRow base e size v n xs) (hb : ∀ g, v.ownBlock = some g → w'.heap[g]? = w.heap[g]?) : w'.ownsRow base e size v n xs := by
  refine ⟨h.1, h.2.imp id ?_⟩
  rintro ⟨g, cap, cur, rfl, h2, h3, h4⟩
  exact ⟨g, cap, cur, rfl, h2, (hb g rfl).trans h3, h4⟩
theorem own_bel {w w' : World} {base : Nat} {e : TypeId} {size : Nat} {v : Value} {n : Nat} {xs : List Value} (h : w.ownsRow base e size v n xs) (hb : Below w.heap.size w w') : w'.ownsRow base e size v n xs :=
  own_keep h (fun g hg => hb.block g (h.lt g hg).2)
theorem own_base {w : World} {base base' : Nat} {e : TypeId} {size : Nat} {v : Value} {n : Nat} {xs : List Value} (h : w.ownsRow base e size v n xs) (hb : base' ≤ base) : w.ownsRow base' e size v n xs :=
  ⟨h.1, h.2.imp id (by rintro ⟨g, cap, cur, h1, h2, h3⟩; exact ⟨g, cap, cur, h1, Nat.le_trans hb h2, h3⟩)⟩
section
variable {w w' : World} {G S : Nat → Prop} {r o : Nat} {L : List (Int × Nat)}
theorem RfB.keep (h : RfB w G r L o) (ho : Only S w w') (hn : ∀ k, G k → k < w.heap.size → ¬ S k) : RfB w' G r L o := by
  obtain ⟨h1, v, h2, h3, h4⟩ := h
  exact ⟨h1, v, ho.get h2 (hn r h1 (only_lt h2)), own_keep h3 (fun g hg => ho.block g (h3.lt g hg).2 (hn g (h4 g hg).1 (h3.lt g hg).2)), h4⟩
theorem RfB.below (h : RfB w G r L o) (hb : Below w.heap.size w w') : RfB w' G r L o := h.keep (S := fun _ => False) (Only.of_below hb) (fun _ _ _ h => h)
theorem RfB.open (h : RfB w G r L o) : ∃ A cap, w.heap[r]? = some (.cells #[.slice A L.length cap, .int .i64 (o : Int)] 48 (0, 0)) ∧ w.ownsRow 0 34 2 (.slice A L.length cap) L.length (oftF L) := by
  obtain ⟨h1, v, h2, h3, h4⟩ := h
  obtain ⟨A, cap, rfl⟩ := ownsRow_form h3
  exact ⟨A, cap, h2, h3⟩
end
/-! ### The place of a number -/
def atL (n : Int) : List (Int × Nat) → Nat
  | [] => 0
  | p :: L => if p.1 < n then atL n L + 1 else 0
def isL (n : Int) (L : List (Int × Nat)) : Bool := decide ((L[atL n L]?).map (·.1) = some n)
theorem atL_le (n : Int) : ∀ L, atL n L ≤ L.length
  | [] => Nat.le_refl _
  | p :: L => by have := atL_le n L; simp only [atL, List.length_cons]; split <;> omega
theorem atL_drop {n : Int} {L : List (Int × Nat)} {k : Nat} (hk : k < L.length) (h : atL n (L.drop k) + k = atL n L) : if L[k].1 < n then atL n (L.drop (k + 1)) + (k + 1) = atL n L else atL n L = k := by
  rw [List.drop_eq_getElem_cons hk] at h
  simp only [atL] at h
  split
  · rename_i h1; rw [if_pos h1] at h; omega
  · rename_i h1; rw [if_neg h1] at h; omega
theorem low_rest {n : Int} {L : List (Int × Nat)} (h : Asc L) {k : Nat} (hk : k < L.length) (hn : ¬ L[k].1 < n) : lowL n (L.drop k) = 0 := by
  refine lowL_none fun p hp => ?_
  have ha : Asc (L.drop k) := List.Pairwise.sublist (List.drop_sublist k L) h
  rw [List.drop_eq_getElem_cons hk] at hp ha
  rcases List.mem_cons.1 hp with rfl | hp
  · omega
  · have := (List.pairwise_cons.1 ha).1 p hp; omega
theorem isL_cons_lt {n : Int} {p : Int × Nat} {L : List (Int × Nat)} (h : p.1 < n) : atL n (p :: L) = atL n L + 1 ∧ isL n (p :: L) = isL n L := by
  have h1 : atL n (p :: L) = atL n L + 1 := by simp only [atL]; rw [if_pos h]
  exact ⟨h1, by unfold isL; rw [h1]; simp⟩
theorem isL_cons_ge {n : Int} {p : Int × Nat} {L : List (Int × Nat)} (h : ¬ p.1 < n) : atL n (p :: L) = 0 ∧ isL n (p :: L) = decide (p.1 = n) := by
  have h1 : atL n (p :: L) = 0 := by simp only [atL]; rw [if_neg h]
  exact ⟨h1, by unfold isL; rw [h1]; simp⟩
theorem at_lt {n : Int} {L : List (Int × Nat)} (h : isL n L = true) : atL n L < L.length := by
  rcases Nat.lt_or_ge (atL n L) L.length with h1 | h1
  · exact h1
  · unfold isL at h; rw [List.getElem?_eq_none h1] at h; simp at h
theorem at_eq {n : Int} {L : List (Int × Nat)} (h : isL n L = true) (hk : atL n L < L.length) : L[atL n L].1 = n := by
  unfold isL at h; rw [List.getElem?_eq_getElem hk] at h; simpa using h
theorem at_none {n : Int} : ∀ {L : List (Int × Nat)}, Asc L → isL n L = false → cntL n L = 0 ∧ insL n 1 L = L.take (atL n L) ++ (n, 1) :: L.drop (atL n L)
  | [], _, _ => ⟨rfl, rfl⟩
  | (m, j) :: L, h, hi => by
    have hp := List.pairwise_cons.1 (show List.Pairwise _ ((m, j) :: L) from h)
    by_cases hl : m < n
    · obtain ⟨h1, h2⟩ := isL_cons_lt (p := (m, j)) (L := L) hl
      rw [h2] at hi
      obtain ⟨a, b⟩ := at_none hp.2 hi
      refine ⟨by simp only [cntL, a]; rw [if_neg (by omega)], ?_⟩
      rw [h1]; simp only [insL]; rw [if_neg (by omega), if_pos hl, b]; simp
    · obtain ⟨h1, h2⟩ := isL_cons_ge (p := (m, j)) (L := L) hl
      rw [h2] at hi
      have hne : m ≠ n := by simpa using hi
      refine ⟨cntL_none fun q hq => ?_, ?_⟩
      · rcases List.mem_cons.1 hq with rfl | hq
        · exact hne
        · have := hp.1 q hq; simp only at this; omega
      · rw [h1]; simp only [insL]; rw [if_pos (by omega)]; simp
theorem at_some {n : Int} : ∀ {L : List (Int × Nat)} (_ : Asc L) (_ : isL n L = true) (hk : atL n L < L.length), cntL n L = L[atL n L].2 ∧ insL n 1 L = L.set (atL n L) (n, L[atL n L].2 + 1) ∧
    delL n L = if 1 < L[atL n L].2 then L.set (atL n L) (n, L[atL n L].2 - 1) else L.take (atL n L) ++ L.drop (atL n L + 1)
  | [], _, _, hk => by simp at hk
  | (m, j) :: L, h, hi, hk => by
    have hp := List.pairwise_cons.1 (show List.Pairwise _ ((m, j) :: L) from h)
    by_cases hl : m < n
    · obtain ⟨h1, h2⟩ := isL_cons_lt (p := (m, j)) (L := L) hl
      rw [h2] at hi
      obtain ⟨a, b, c⟩ := at_some hp.2 hi (at_lt hi)
      simp only [h1, List.getElem_cons_succ]
      refine ⟨by simp only [cntL, a]; rw [if_neg (by omega)]; omega, ?_, ?_⟩
      · simp only [insL]; rw [if_neg (by omega), if_pos hl, b]; simp
      · simp only [delL]; rw [if_neg (by omega), c]; split <;> simp
    · obtain ⟨h1, h2⟩ := isL_cons_ge (p := (m, j)) (L := L) hl
      rw [h2] at hi
      obtain rfl : m = n := by simpa using hi
      have h0 : cntL m L = 0 := cntL_none fun q hq => by have := hp.1 q hq; simp only at this; omega
      simp only [h1, List.getElem_cons_zero]
      refine ⟨by simp [cntL, h0], ?_, ?_⟩
      · simp only [insL]; rw [if_neg (by omega), if_neg (by omega)]; simp
      · simp only [delL]; simp
theorem rnew_any (w : World) : Calls Try.prog 17 #[] w fun e w' => e = .returned (.pointer (some ⟨w.heap.size, 0, none⟩)) ∧ RfB w' (fun i => i = w.heap.size) w.heap.size [] 0 ∧ Below w.heap.size w w' ∧ w'.heap.size = w.heap.size + 1 := by
  have HB := Lib.hid (below_alloc (Below.refl w.heap.size w) (.cells #[.slice none 0 0, .int .i64 0] 48))
  have HN := Lib.hid (newB w (.cells #[.slice none 0 0, .int .i64 0] 48))
  have HS : Hid ((w.alloc (.cells #[.slice none 0 0, .int .i64 0] 48)).heap.size = w.heap.size + 1) := Lib.hid (alloc_size _ _)
  go_enter Try.func17, Try.ntmps17
  go_wp2_with fail
  go_ret
  exact ⟨rfl, ⟨rfl, _, HN.out, World.ownsRow_nil _ _ _ _, fun _ h => by cases h⟩, HB.out, HS.out⟩
theorem rcheck_ok (n : Int) (o : Bool) (h : o = false ∨ n = 0) (w : World) :
    Calls Try.prog 37 #[.agg #[.int .i64 n, .bool o]] w fun e w' => e = .returned (.int .i64 0) ∧ Below w.heap.size w w' := by
  rcases h with rfl | rfl
  · go_enter Try.func37, Try.ntmps37
    go_wp2
    go_ret
    exact ⟨rfl, (Below.refl _ _).alloc (Nat.le_refl _) _⟩
  · cases o
    · go_enter Try.func37, Try.ntmps37
      go_wp2
      go_ret
      exact ⟨rfl, (Below.refl _ _).alloc (Nat.le_refl _) _⟩
    · go_enter Try.func37, Try.ntmps37
      go_wp2
      go_ret
      exact ⟨rfl, (Below.refl _ _).alloc (Nat.le_refl _) _⟩
theorem rcheck_bad (n : Int) (h : n ≠ 0) (w : World) :
    Calls Try.prog 37 #[.agg #[.int .i64 n, .bool true]] w fun e w' => e = .returned (.int .i64 2) ∧ Below w.heap.size w w' := by
  have h' : (n != 0) = true := by simpa using h
  go_enter Try.func37, Try.ntmps37
  go_wp2
  go_ret
  exact ⟨rfl, (Below.refl _ _).alloc (Nat.le_refl _) _⟩
theorem rof_any (n : Int) (w : World) : Calls Try.prog 69 #[.int .i64 n] w fun e w' => e = .returned (.agg #[.int .i64 n, .bool false]) ∧ Below w.heap.size w w' := by
  go_enter Try.func69, Try.ntmps69
  go_wp2
  exact bodyPost_ret (v := .agg #[.int .i64 n, .bool false]) (by simp [results, Try.results69, go_sem]) rfl ⟨rfl, (Below.refl _ _).alloc (Nat.le_refl _) _⟩
section
variable {w : World} {G : Nat → Prop} {r o : Nat} {L : List (Int × Nat)}
set_option maxHeartbeats 4000000 in
set_option maxRecDepth 100000 in
theorem rat_any (n : Int) (h : RfB w G r L o) (hb : L.length ≤ 1000000) :
    Calls Try.prog 39 #[.pointer (some ⟨r, 0, none⟩), .int .i64 n] w fun e w' => e = .returned (.tuple #[.int .i64 (atL n L : Int), .bool (isL n L)]) ∧ Below w.heap.size w w' := by
  obtain ⟨A, cap, g1, g2⟩ := h.open
  have H1 := Lib.hid g1
  have HR := Lib.hid g2
  obtain ⟨N, hN⟩ : ∃ N, L.length = N := ⟨_, rfl⟩
  have HN := Lib.hid hN
  have HFm : Hid (∀ W, Below w.heap.size w W → W.cell? ⟨r, 0, none⟩ = some (.slice A N cap) ∧ W.cell? ⟨r, 1, none⟩ = some (.int .i64 (o : Int))) := Lib.hid (fun W hb => by rw [← hN]; exact ⟨cellAt (o := 0) (keepB g1 hb) rfl, cellAt (o := 1) (keepB g1 hb) rfl⟩)
  clear g1 g2
  rw [hN] at hb
  obtain ⟨q0, _⟩ := HFm.out w (Below.refl _ _)
  obtain ⟨ra, hra⟩ : ∃ x, atL n L = x := ⟨_, rfl⟩
  obtain ⟨rb, hrb⟩ : ∃ x, isL n L = x := ⟨_, rfl⟩
  have HRA := Lib.hid hra
  have HRB := Lib.hid hrb
  rw [hra, hrb]
  clear h hN hra hrb
  go_enter Try.func39, Try.ntmps39
  go_wp2_with fail
  go_loopw [6] (fun v6 wr => ∃ k : Nat, v6 = .int .i64 (k : Int) ∧ k ≤ N ∧ Hid (atL n (L.drop k) + k = atL n L) ∧ wr = w) (fun v6 _ => N - (intOf v6).toNat)
  case atStart => exact ⟨0, rfl, Nat.zero_le _, Lib.hid (by simp), rfl⟩
  case round =>
    obtain ⟨k, rfl, hk, HA, rfl⟩ := hrel
    by_cases h0 : k < N
    · have hkL : k < L.length := by rw [HN.out]; exact h0
      obtain ⟨g, rfl⟩ := ownsRow_at HR.out (by omega)
      obtain ⟨z0, _⟩ := oft_cell HR.out hkL
      have hd := atL_drop hkL HA.out
      obtain ⟨⟨pn, pk⟩, hp⟩ : ∃ p, L[k] = p := ⟨_, rfl⟩
      have HP := Lib.hid hp
      rw [hp] at z0 hd
      simp only at z0 hd
      clear hp
      by_cases hlt : pn < n
      · rw [if_pos hlt] at hd
        have HD := Lib.hid hd
        have hw : IntKind.i64.wrap ((k : Int) + 1) = ((k + 1 : Nat) : Int) := by rw [IntKind.wrap_i64]; omega
        clear hd
        go_wp2_with fail
        go_roundw
        case rel => exact ⟨k + 1, rfl, by omega, HD, by first | rfl | trivial⟩
        case measure => simp [intOf]; omega
      · rw [if_neg hlt] at hd
        have HD := Lib.hid hd
        have HE : Hid (isL n L = (pn == n)) := Lib.hid (by unfold isL; rw [hd, List.getElem?_eq_getElem hkL, HP.out]; by_cases e : pn = n <;> simp [e])
        have hlt2 : decide (pn < n) = false := by simpa using hlt
        have HCz := Lib.hid (fun W (hb : Below wr.heap.size wr W) => by have := (oft_cell (own_bel HR.out hb) hkL).1; rw [HP.out] at this; exact this)
        obtain rfl : ra = k := HRA.out.symm.trans HD.out
        obtain rfl : rb = (pn == n) := HRB.out.symm.trans HE.out
        clear hd
        go_wp2_with fail
        refine wp_region_here 22 [(0, false), (1, false), (2, false), (3, false), (4, false), (5, false), (6, false), (7, false), (8, false), (9, false), (10, false), (11, false), (12, false), (13, false), (14, false), (15, false), (16, false), (17, false), (18, false), (19, false), (20, false), (21, false)] (fun _ => .cells #[] 0) (by kernel_rfl) (by kernel_rfl) ?_
        repeat (first | (refine wpP_q rfl rfl rfl ?_; apply Exists.intro; refine ⟨fun w' hw' => ?_, fun K hK => ?_⟩; (focus ((obtain ⟨q1, _⟩ := HFm.out _ hw'; have z1 := HCz.out _ hw'); go_simp; first | exact quiet_value | fail)); simp only [Act.put, List.setIfInBounds_toArray, List.set_cons_zero, List.set_cons_succ]; refine hK.out _ ?_; clear hK K) | (refine wpP_skip rfl rfl rfl (fun K hK => ?_); simp only [Act.put, List.setIfInBounds_toArray, List.set_cons_zero, List.set_cons_succ]; refine hK.out _ ?_; clear hK K) | (refine wpP_skipu rfl rfl rfl (fun K hK => ?_); simp only [Act.put, List.setIfInBounds_toArray, List.set_cons_zero, List.set_cons_succ]; refine hK.out _ ?_; clear hK K))
        refine wpP_nil ?_
        intro w2 hb2
        have HB2 := Lib.hid hb2
        clear hb2
        try simp only [List.drop_succ_cons, List.drop_nil]
        go_wp2_with fail
        exact bodyPost_ret (v := .tuple #[.int .i64 (ra : Int), .bool (pn == n)]) (by simp only [results, Try.results39]; go_simp) rfl ⟨rfl, HB2.out⟩
    · obtain rfl : k = N := by omega
      have HD : Hid (atL n L = k) := Lib.hid (by have := HA.out; rw [List.drop_of_length_le (by rw [HN.out]; exact Nat.le_refl _)] at this; simp only [atL] at this; omega)
      have HE : Hid (isL n L = false) := Lib.hid (by unfold isL; rw [HD.out, List.getElem?_eq_none (by rw [HN.out]; exact Nat.le_refl _)]; simp)
      obtain rfl : ra = k := HRA.out.symm.trans HD.out
      obtain rfl : rb = false := HRB.out.symm.trans HE.out
      go_wp2_with fail
      refine wp_region_here 22 [(0, false), (1, false), (2, false), (3, false), (4, false), (5, false), (6, false), (7, false), (8, false), (9, false), (10, false), (11, false), (12, false), (13, false), (14, false), (15, false), (16, false), (17, false), (18, false), (19, false), (20, false), (21, false)] (fun _ => .cells #[] 0) (by kernel_rfl) (by kernel_rfl) ?_
      repeat (first | (refine wpP_q rfl rfl rfl ?_; apply Exists.intro; refine ⟨fun w' hw' => ?_, fun K hK => ?_⟩; (focus ((obtain ⟨q1, _⟩ := HFm.out _ hw'); go_simp; first | exact quiet_value | fail)); simp only [Act.put, List.setIfInBounds_toArray, List.set_cons_zero, List.set_cons_succ]; refine hK.out _ ?_; clear hK K) | (refine wpP_skip rfl rfl rfl (fun K hK => ?_); simp only [Act.put, List.setIfInBounds_toArray, List.set_cons_zero, List.set_cons_succ]; refine hK.out _ ?_; clear hK K) | (refine wpP_skipu rfl rfl rfl (fun K hK => ?_); simp only [Act.put, List.setIfInBounds_toArray, List.set_cons_zero, List.set_cons_succ]; refine hK.out _ ?_; clear hK K))
      refine wpP_nil ?_
      intro w2 hb2
      have HB2 := Lib.hid hb2
      clear hb2
      try simp only [List.drop_succ_cons, List.drop_nil]
      go_wp2_with fail
      exact bodyPost_ret (v := .tuple #[.int .i64 (ra : Int), .bool false]) (by simp only [results, Try.results39]; go_simp) rfl ⟨rfl, HB2.out⟩
set_option maxHeartbeats 4000000 in
set_option maxRecDepth 100000 in
theorem rplace_any (n : Int) (h : RfB w G r L o) (hok : OkL L) (hb : sumL L ≤ 1000000) :
    Calls Try.prog 43 #[.pointer (some ⟨r, 0, none⟩), .int .i64 n] w fun e w' => e = .returned (.int .i64 (lowL n L : Int)) ∧ Below w.heap.size w w' := by
  have hlen := len_sumL hok.one
  obtain ⟨A, cap, g1, g2⟩ := h.open
  have H1 := Lib.hid g1
  have HR := Lib.hid g2
  obtain ⟨N, hN⟩ : ∃ N, L.length = N := ⟨_, rfl⟩
  have HN := Lib.hid hN
  have HFm : Hid (∀ W, Below w.heap.size w W → W.cell? ⟨r, 0, none⟩ = some (.slice A N cap) ∧ W.cell? ⟨r, 1, none⟩ = some (.int .i64 (o : Int))) := Lib.hid (fun W hb => by rw [← hN]; exact ⟨cellAt (o := 0) (keepB g1 hb) rfl, cellAt (o := 1) (keepB g1 hb) rfl⟩)
  clear g1 g2
  rw [hN] at hlen
  have HK := Lib.hid hok
  obtain ⟨q0, _⟩ := HFm.out w (Below.refl _ _)
  obtain ⟨ra, hra⟩ : ∃ x, lowL n L = x := ⟨_, rfl⟩
  have HRA := Lib.hid hra
  have HLE := Lib.hid (lowL_le n L)
  rw [hra] at HLE ⊢
  clear h hN hra hok
  go_enter Try.func43, Try.ntmps43
  go_wp2_with fail
  go_loopw [5, 6] (fun v5 v6 wr => ∃ k s : Nat, v6 = .int .i64 (k : Int) ∧ v5 = .int .i64 (s : Int) ∧ k ≤ N ∧ Hid (s + lowL n (L.drop k) = ra) ∧ wr = w) (fun _ v6 _ => N - (intOf v6).toNat)
  case atStart => exact ⟨0, 0, rfl, rfl, Nat.zero_le _, Lib.hid (by rw [List.drop_zero, HRA.out]; omega), rfl⟩
  case round =>
    obtain ⟨k, s, rfl, rfl, hk, HA, rfl⟩ := hrel
    by_cases h0 : k < N
    · have hkL : k < L.length := by rw [HN.out]; exact h0
      obtain ⟨g, rfl⟩ := ownsRow_at HR.out (by omega)
      obtain ⟨z0, z1⟩ := oft_cell HR.out hkL
      have ha := HA.out
      by_cases hlt : L[k].1 < n
      · rw [List.drop_eq_getElem_cons hkL] at ha
        simp only [lowL] at ha
        rw [if_pos hlt] at ha
        obtain ⟨⟨pn, pk⟩, hp⟩ : ∃ p, L[k] = p := ⟨_, rfl⟩
        rw [hp] at z0 z1 hlt ha
        simp only at z0 z1 hlt ha
        have HD : Hid ((s + pk) + lowL n (L.drop (k + 1)) = ra) := Lib.hid (by omega)
        have hw : IntKind.i64.wrap ((k : Int) + 1) = ((k + 1 : Nat) : Int) := by rw [IntKind.wrap_i64]; omega
        have hw2 : IntKind.i64.wrap ((s : Int) + (pk : Int)) = ((s + pk : Nat) : Int) := by have := HD.out; have := HLE.out; rw [IntKind.wrap_i64]; omega
        clear ha hp
        go_wp2_with fail
        go_roundw
        case rel => exact ⟨k + 1, s + pk, rfl, rfl, by omega, HD, by first | rfl | trivial⟩
        case measure => simp [intOf]; omega
      · have HD : Hid (lowL n (L.drop k) = 0) := Lib.hid (low_rest HK.out.asc hkL hlt)
        obtain ⟨⟨pn, pk⟩, hp⟩ : ∃ p, L[k] = p := ⟨_, rfl⟩
        rw [hp] at z0 z1 hlt
        simp only at z0 z1 hlt
        obtain rfl : s = ra := by have := HD.out; omega
        have hlt2 : decide (pn < n) = false := by simpa using hlt
        clear ha hp
        go_wp2_with fail
        go_ret
        exact ⟨rfl, Below.refl _ _⟩
    · obtain rfl : k = N := by omega
      obtain rfl : s = ra := by have := HA.out; rw [List.drop_of_length_le (by rw [HN.out]; exact Nat.le_refl _)] at this; simp only [lowL] at this; omega
      go_wp2_with fail
      go_ret
      exact ⟨rfl, Below.refl _ _⟩
set_option maxHeartbeats 4000000 in
set_option maxRecDepth 100000 in
theorem rlen_any (h : RfB w G r L o) (hok : OkL L) (hb : o + sumL L ≤ 1000000) :
    Calls Try.prog 42 #[.pointer (some ⟨r, 0, none⟩)] w fun e w' => e = .returned (.int .i64 ((o + sumL L : Nat) : Int)) ∧ Below w.heap.size w w' := by
  have hlen := len_sumL hok.one
  obtain ⟨A, cap, g1, g2⟩ := h.open
  have H1 := Lib.hid g1
  have HR := Lib.hid g2
  obtain ⟨N, hN⟩ : ∃ N, L.length = N := ⟨_, rfl⟩
  have HN := Lib.hid hN
  have HFm : Hid (∀ W, Below w.heap.size w W → W.cell? ⟨r, 0, none⟩ = some (.slice A N cap) ∧ W.cell? ⟨r, 1, none⟩ = some (.int .i64 (o : Int))) := Lib.hid (fun W hb => by rw [← hN]; exact ⟨cellAt (o := 0) (keepB g1 hb) rfl, cellAt (o := 1) (keepB g1 hb) rfl⟩)
  clear g1 g2
  rw [hN] at hlen
  have hNb : N ≤ 1000000 := by omega
  obtain ⟨q0, q1⟩ := HFm.out w (Below.refl _ _)
  obtain ⟨ra, hra⟩ : ∃ x, o + sumL L = x := ⟨_, rfl⟩
  have HRA := Lib.hid hra
  have HLE := Lib.hid hb
  rw [hra] at HLE ⊢
  clear h hN hra hok hb
  go_enter Try.func42, Try.ntmps42
  go_wp2_with fail
  go_loopw [3, 4] (fun v5 v6 wr => ∃ k s : Nat, v6 = .int .i64 (k : Int) ∧ v5 = .int .i64 (s : Int) ∧ k ≤ N ∧ Hid (s + sumL (L.drop k) = ra) ∧ wr = w) (fun _ v6 _ => N - (intOf v6).toNat)
  case atStart => exact ⟨0, o, rfl, rfl, Nat.zero_le _, Lib.hid (by rw [List.drop_zero, HRA.out]), rfl⟩
  case round =>
    obtain ⟨k, s, rfl, rfl, hk, HA, rfl⟩ := hrel
    by_cases h0 : k < N
    · have hkL : k < L.length := by rw [HN.out]; exact h0
      obtain ⟨g, rfl⟩ := ownsRow_at HR.out (by omega)
      obtain ⟨z0, z1⟩ := oft_cell HR.out hkL
      have ha := HA.out
      rw [List.drop_eq_getElem_cons hkL] at ha
      simp only [sumL] at ha
      obtain ⟨⟨pn, pk⟩, hp⟩ : ∃ p, L[k] = p := ⟨_, rfl⟩
      rw [hp] at z0 z1 ha
      simp only at z0 z1 ha
      have HD : Hid ((s + pk) + sumL (L.drop (k + 1)) = ra) := Lib.hid (by omega)
      have hw : IntKind.i64.wrap ((k : Int) + 1) = ((k + 1 : Nat) : Int) := by rw [IntKind.wrap_i64]; omega
      have hw2 : IntKind.i64.wrap ((s : Int) + (pk : Int)) = ((s + pk : Nat) : Int) := by have := HD.out; have := HLE.out; rw [IntKind.wrap_i64]; omega
      clear ha hp
      go_wp2_with fail
      go_roundw
      case rel => exact ⟨k + 1, s + pk, rfl, rfl, by omega, HD, by first | rfl | trivial⟩
      case measure => simp [intOf]; omega
    · obtain rfl : k = N := by omega
      obtain rfl : s = ra := by have := HA.out; rw [List.drop_of_length_le (by rw [HN.out]; exact Nat.le_refl _)] at this; simp only [sumL] at this; omega
      go_wp2_with fail
      go_ret
      exact ⟨rfl, Below.refl _ _⟩
def rendLs (L : List (Int × Nat)) (o : Nat) (last : Bool) : Bool × Int × Bool := endLs L o (if last then hiL L else loL L)
set_option maxHeartbeats 4000000 in
set_option maxRecDepth 100000 in
theorem rend_any (last : Bool) (h : RfB w G r L o) (hb : L.length ≤ 1000000) :
    Calls Try.prog 58 #[.pointer (some ⟨r, 0, none⟩), .bool last] w fun e w' => e = .returned (endP (rendLs L o last).1 (rendLs L o last).2.1 (rendLs L o last).2.2) ∧ Below w.heap.size w w' := by
  have HX := Lib.hid (newB w (Obj.cells #[.int .i64 (0), .bool false] 29))
  have HBx := Lib.hid (below_alloc (Below.refl w.heap.size w) (Obj.cells #[.int .i64 (0), .bool false] 29))
  obtain ⟨A, cap, g1, g2⟩ := h.open
  have H1 := Lib.hid g1
  have HR := Lib.hid g2
  obtain ⟨N, hN⟩ : ∃ N, L.length = N := ⟨_, rfl⟩
  have HN := Lib.hid hN
  have HFm : Hid (∀ W, Below w.heap.size w W → W.cell? ⟨r, 0, none⟩ = some (.slice A N cap) ∧ W.cell? ⟨r, 1, none⟩ = some (.int .i64 (o : Int))) := Lib.hid (fun W hb => by rw [← hN]; exact ⟨cellAt (o := 0) (keepB g1 hb) rfl, cellAt (o := 1) (keepB g1 hb) rfl⟩)
  clear g1 g2
  rw [hN] at hb
  obtain ⟨q0, q1⟩ := HFm.out _ HBx.out
  have f0 := freeAt 0 HX.out
  have f1 := freeAt 1 HX.out
  have m0 := cellAt (o := 0) HX.out rfl
  have m1 := cellAt (o := 1) HX.out rfl
  by_cases ho : 0 < o
  · rw [show rendLs L o last = (true, 0, true) by unfold rendLs endLs; rw [if_pos ho]]
    have hi0 : 0 < (o : Int) := by omega
    unfold endP
    clear h hN
    go_enter Try.func58, Try.ntmps58
    go_wp2_with fail
    exact bodyPost_ret (v := .tuple #[.agg #[.int .i64 0, .bool true], .bool true]) (by simp only [results, Try.results58]; go_simp) rfl ⟨rfl, below_alloc (Below.refl _ _) _⟩
  · obtain rfl : o = 0 := by omega
    by_cases hz : N = 0
    · have hL : L = [] := List.eq_nil_of_length_eq_zero (by omega)
      subst hz
      rw [show rendLs L 0 last = (false, 0, false) by unfold rendLs endLs; rw [if_neg (by omega), if_pos hL]]
      unfold endP
      clear h hN hL
      go_enter Try.func58, Try.ntmps58
      go_wp2_with fail
      exact bodyPost_ret (v := .tuple #[.agg #[.int .i64 0, .bool false], .bool false]) (by simp only [results, Try.results58]; go_simp) rfl ⟨rfl, below_alloc (Below.refl _ _) _⟩
    · have hL : L ≠ [] := fun e => hz (by rw [← hN, e]; rfl)
      obtain ⟨k, rfl⟩ : ∃ k, N = k + 1 := ⟨N - 1, by omega⟩
      obtain ⟨g, rfl⟩ := ownsRow_at HR.out (by omega)
      have hz1 : ¬ (k : Int) + 1 = 0 := by omega
      have hz2 : decide ((k : Int) + 1 = 0) = false := by simpa using hz1
      have hk1 : IntKind.i64.wrap (k : Int) = (k : Int) := by rw [IntKind.wrap_i64]; omega
      have hk3 : 0 < k + 1 := by omega
      have hk5 : (k : Int) < (k : Int) + 1 := by omega
      cases last
      · have hlo := loL_at (L := L) (by omega)
        have HC := Lib.hid (fun (W : World) (hb : Below w.heap.size w W) => (oft_cell (own_bel HR.out hb) (i := 0) (by omega)).1)
        rw [show rendLs L 0 false = (false, L[0].1, true) by unfold rendLs endLs; rw [if_neg (by omega), if_neg hL]; simp [hlo]]
        obtain ⟨x, hx⟩ : ∃ x, L[0].1 = x := ⟨_, rfl⟩
        rw [hx] at HC ⊢
        have z0 := HC.out _ HBx.out
        unfold endP
        clear h hN hx hlo hL
        go_enter Try.func58, Try.ntmps58
        go_wp2_with fail
        refine (rof_any x _).mono ?_
        rintro e w2 ⟨rfl, hb2⟩
        have HB2 := Lib.hid (HBx.out.trans (hb2.mono HBx.out.size))
        have k9 := keepB HX.out hb2
        clear f0 f1 m0 m1
        have f0 := freeAt 0 k9
        have f1 := freeAt 1 k9
        have m0 := cellAt (o := 0) k9 rfl
        have m1 := cellAt (o := 1) k9 rfl
        clear hb2 k9
        go_wp2_with fail
        exact bodyPost_ret (v := .tuple #[.agg #[.int .i64 x, .bool false], .bool true]) (by simp only [results, Try.results58]; go_simp) rfl ⟨rfl, (HB2.out.setCell (by dsimp only; omega) _).setCell (by dsimp only; omega) _⟩
      · have hhi : hiL L = (L[k]'(by omega)).1 := by
          rw [hiL_at hL, List.getLast_eq_getElem]
          congr 2
          omega
        have HC := Lib.hid (fun (W : World) (hb : Below w.heap.size w W) => (oft_cell (own_bel HR.out hb) (i := k) (by omega)).1)
        rw [show rendLs L 0 true = (false, (L[k]'(by omega)).1, true) by unfold rendLs endLs; rw [if_neg (by omega), if_neg hL]; simp [hhi]]
        obtain ⟨x, hx⟩ : ∃ x, (L[k]'(by omega)).1 = x := ⟨_, rfl⟩
        rw [hx] at HC ⊢
        unfold endP
        clear h hN hx hhi hL
        go_enter Try.func58, Try.ntmps58
        go_wp2_with fail
        clear q0 q1 f0 f1 m0 m1
        have HFm2 := Lib.hid (fun W (hb : Below (w.alloc (Obj.cells #[.int .i64 (0), .bool false] 29)).heap.size (w.alloc (Obj.cells #[.int .i64 (0), .bool false] 29)) W) => HFm.out W (HBx.out.trans (hb.mono HBx.out.size)))
        have HC2 := Lib.hid (fun W (hb : Below (w.alloc (Obj.cells #[.int .i64 (0), .bool false] 29)).heap.size (w.alloc (Obj.cells #[.int .i64 (0), .bool false] 29)) W) => HC.out W (HBx.out.trans (hb.mono HBx.out.size)))
        obtain ⟨wa, hwa⟩ : ∃ wa, w.alloc (Obj.cells #[.int .i64 (0), .bool false] 29) = wa := ⟨_, rfl⟩
        rw [hwa] at HX HBx HFm2 HC2 ⊢
        clear hwa HFm HC
        refine wp_region_here 14 [(0, false), (1, false), (2, false), (3, false), (4, false), (5, false), (6, false), (7, false), (8, false), (9, false), (10, false), (11, false), (12, false), (13, false)] (fun _ => .cells #[] 0) (by kernel_rfl) (by kernel_rfl) ?_
        repeat (first | (refine wpP_q rfl rfl rfl ?_; apply Exists.intro; refine ⟨fun w' hw' => ?_, fun K hK => ?_⟩; (focus ((obtain ⟨q0, q1⟩ := HFm2.out _ hw'; have z1 := HC2.out _ hw'); go_simp; first | exact quiet_value | with_reducible exact quiet_enter (rof_any _ _))); simp only [Act.put, List.setIfInBounds_toArray, List.set_cons_zero, List.set_cons_succ]; refine hK.out _ ?_; clear hK K) | (refine wpP_skip rfl rfl rfl (fun K hK => ?_); simp only [Act.put, List.setIfInBounds_toArray, List.set_cons_zero, List.set_cons_succ]; refine hK.out _ ?_; clear hK K) | (refine wpP_skipu rfl rfl rfl (fun K hK => ?_); simp only [Act.put, List.setIfInBounds_toArray, List.set_cons_zero, List.set_cons_succ]; refine hK.out _ ?_; clear hK K))
        refine wpP_nil ?_
        intro w2 hb2
        have HB2 := Lib.hid (HBx.out.trans (hb2.mono HBx.out.size))
        have k9 := keepB HX.out hb2
        have f0 := freeAt 0 k9
        have f1 := freeAt 1 k9
        have m0 := cellAt (o := 0) k9 rfl
        have m1 := cellAt (o := 1) k9 rfl
        clear hb2 k9
        try simp only [List.drop_succ_cons, List.drop_zero]
        go_wp2_with fail
        exact bodyPost_ret (v := .tuple #[.agg #[.int .i64 x, .bool false], .bool true]) (by simp only [results, Try.results58]; go_simp) rfl ⟨rfl, (HB2.out.setCell (by dsimp only; omega) _).setCell (by dsimp only; omega) _⟩
set_option maxHeartbeats 4000000 in
set_option maxRecDepth 100000 in
theorem rleast_any (h : RfB w G r L o) (hb : L.length ≤ 1000000) :
    Calls Try.prog 40 #[.pointer (some ⟨r, 0, none⟩)] w fun e w' => e = .returned (endP (rendLs L o false).1 (rendLs L o false).2.1 (rendLs L o false).2.2) ∧ Below w.heap.size w w' := by
  have HB := Lib.hid (below_alloc (Below.refl w.heap.size w) (Obj.cells #[.int .i64 (0), .bool false] 29))
  have HN := Lib.hid (newB w (Obj.cells #[.int .i64 (0), .bool false] 29))
  have CE := Lib.hid (rend_any false (h.below HB.out) hb)
  obtain ⟨⟨ov, n, is⟩, he⟩ : ∃ q, rendLs L o false = q := ⟨_, rfl⟩
  rw [he] at CE ⊢
  simp only at CE ⊢
  unfold endP at CE ⊢
  clear he h
  go_enter Try.func40, Try.ntmps40
  go_wp2_with fail
  refine CE.out.mono ?_
  rintro e w1 ⟨rfl, hb1⟩
  have HB1 := Lib.hid (HB.out.trans (hb1.mono HB.out.size))
  have k9 := keepB HN.out hb1
  have f0 := freeAt 0 k9
  have f1 := freeAt 1 k9
  have m0 := cellAt (o := 0) k9 rfl
  have m1 := cellAt (o := 1) k9 rfl
  clear hb1 k9
  go_wp2_with fail
  exact bodyPost_ret (v := .tuple #[.agg #[.int .i64 n, .bool ov], .bool is]) (by simp only [results, Try.results40]; go_simp) rfl ⟨rfl, (HB1.out.setCell (by dsimp only; omega) _).setCell (by dsimp only; omega) _⟩
set_option maxHeartbeats 4000000 in
set_option maxRecDepth 100000 in
theorem rmost_any (h : RfB w G r L o) (hb : L.length ≤ 1000000) :
    Calls Try.prog 41 #[.pointer (some ⟨r, 0, none⟩)] w fun e w' => e = .returned (endP (rendLs L o true).1 (rendLs L o true).2.1 (rendLs L o true).2.2) ∧ Below w.heap.size w w' := by
  have HB := Lib.hid (below_alloc (Below.refl w.heap.size w) (Obj.cells #[.int .i64 (0), .bool false] 29))
  have HN := Lib.hid (newB w (Obj.cells #[.int .i64 (0), .bool false] 29))
  have CE := Lib.hid (rend_any true (h.below HB.out) hb)
  obtain ⟨⟨ov, n, is⟩, he⟩ : ∃ q, rendLs L o true = q := ⟨_, rfl⟩
  rw [he] at CE ⊢
  simp only at CE ⊢
  unfold endP at CE ⊢
  clear he h
  go_enter Try.func41, Try.ntmps41
  go_wp2_with fail
  refine CE.out.mono ?_
  rintro e w1 ⟨rfl, hb1⟩
  have HB1 := Lib.hid (HB.out.trans (hb1.mono HB.out.size))
  have k9 := keepB HN.out hb1
  have f0 := freeAt 0 k9
  have f1 := freeAt 1 k9
  have m0 := cellAt (o := 0) k9 rfl
  have m1 := cellAt (o := 1) k9 rfl
  clear hb1 k9
  go_wp2_with fail
  exact bodyPost_ret (v := .tuple #[.agg #[.int .i64 n, .bool ov], .bool is]) (by simp only [results, Try.results41]; go_simp) rfl ⟨rfl, (HB1.out.setCell (by dsimp only; omega) _).setCell (by dsimp only; omega) _⟩
set_option maxHeartbeats 4000000 in
set_option maxRecDepth 100000 in
theorem rcount_bad (n : Int) (hn : n ≠ 0) (h : RfB w G r L o) : Calls Try.prog 38 #[.pointer (some ⟨r, 0, none⟩), .agg #[.int .i64 n, .bool true]] w fun e w' => e = .returned (.int .i64 0) ∧ Below w.heap.size w w' := by
  have HB := Lib.hid (below_alloc (Below.refl w.heap.size w) (Obj.cells #[.int .i64 (n), .bool true] 29))
  have HX := Lib.hid (newB w (Obj.cells #[.int .i64 (n), .bool true] 29))
  have H := Lib.hid (h.below HB.out)
  have c0 := cellAt (o := 0) HX.out rfl
  have c1 := cellAt (o := 1) HX.out rfl
  clear h
  go_enter Try.func38, Try.ntmps38
  go_wp2_with fail
  refine (rcheck_bad n hn _).mono ?_
  rintro e w1 ⟨rfl, hb1⟩
  have HB1 := Lib.hid (HB.out.trans (hb1.mono HB.out.size))
  have HX1 := Lib.hid (keepB HX.out hb1)
  have H1 := Lib.hid (H.out.below hb1)
  clear hb1 c0 c1
  have c0 := cellAt (o := 0) HX1.out rfl
  have c1 := cellAt (o := 1) HX1.out rfl
  go_wp2_with fail
  go_ret
  exact ⟨rfl, HB1.out⟩
set_option maxHeartbeats 4000000 in
set_option maxRecDepth 100000 in
theorem rcount_over (h : RfB w G r L o) : Calls Try.prog 38 #[.pointer (some ⟨r, 0, none⟩), .agg #[.int .i64 0, .bool true]] w fun e w' => e = .returned (.int .i64 (o : Int)) ∧ Below w.heap.size w w' := by
  have HB := Lib.hid (below_alloc (Below.refl w.heap.size w) (Obj.cells #[.int .i64 (0), .bool true] 29))
  have HX := Lib.hid (newB w (Obj.cells #[.int .i64 (0), .bool true] 29))
  have H := Lib.hid (h.below HB.out)
  have c0 := cellAt (o := 0) HX.out rfl
  have c1 := cellAt (o := 1) HX.out rfl
  clear h
  go_enter Try.func38, Try.ntmps38
  go_wp2_with fail
  refine (rcheck_ok 0 true (.inr rfl) _).mono ?_
  rintro e w1 ⟨rfl, hb1⟩
  have HB1 := Lib.hid (HB.out.trans (hb1.mono HB.out.size))
  have HX1 := Lib.hid (keepB HX.out hb1)
  have H1 := Lib.hid (H.out.below hb1)
  clear hb1 c0 c1
  have c0 := cellAt (o := 0) HX1.out rfl
  have c1 := cellAt (o := 1) HX1.out rfl
  obtain ⟨A, cap, g1, g2⟩ := H1.out.open
  have q1 := cellAt (o := 1) g1 rfl
  clear g1 g2
  go_wp2_with fail
  go_ret
  exact ⟨rfl, HB1.out⟩
set_option maxHeartbeats 4000000 in
set_option maxRecDepth 100000 in
theorem rcount_num (n : Int) (h : RfB w G r L o) (hok : OkL L) (hb : L.length ≤ 1000000) : Calls Try.prog 38 #[.pointer (some ⟨r, 0, none⟩), .agg #[.int .i64 n, .bool false]] w fun e w' => e = .returned (.int .i64 (cntL n L : Int)) ∧ Below w.heap.size w w' := by
  obtain ⟨cn, hcn⟩ : ∃ c, cntL n L = c := ⟨_, rfl⟩
  have HCN := Lib.hid hcn
  rw [hcn]
  clear hcn
  have HB := Lib.hid (below_alloc (Below.refl w.heap.size w) (Obj.cells #[.int .i64 (n), .bool false] 29))
  have HX := Lib.hid (newB w (Obj.cells #[.int .i64 (n), .bool false] 29))
  have H := Lib.hid (h.below HB.out)
  have c0 := cellAt (o := 0) HX.out rfl
  have c1 := cellAt (o := 1) HX.out rfl
  clear h
  go_enter Try.func38, Try.ntmps38
  go_wp2_with fail
  refine (rcheck_ok n false (.inl rfl) _).mono ?_
  rintro e w1 ⟨rfl, hb1⟩
  have HB1 := Lib.hid (HB.out.trans (hb1.mono HB.out.size))
  have HX1 := Lib.hid (keepB HX.out hb1)
  have H1 := Lib.hid (H.out.below hb1)
  clear hb1 c0 c1
  have c0 := cellAt (o := 0) HX1.out rfl
  have c1 := cellAt (o := 1) HX1.out rfl
  have CA := Lib.hid (rat_any n H1.out hb)
  cases hi : isL n L with
  | false =>
    have h0 := (at_none hok.asc hi).1
    rw [hi] at CA
    obtain ⟨k, hk⟩ : ∃ k, atL n L = k := ⟨_, rfl⟩
    rw [hk] at CA
    obtain rfl : cn = 0 := HCN.out.symm.trans h0
    clear hi hk h0
    go_wp2_with fail
    refine CA.out.mono ?_
    rintro e w2 ⟨rfl, hb2⟩
    have HB2 := Lib.hid (HB1.out.trans (hb2.mono HB1.out.size))
    clear hb2
    go_wp2_with fail
    go_ret
    exact ⟨rfl, HB2.out⟩
  | true =>
    have hk := at_lt hi
    have h0 := (at_some hok.asc hi hk).1
    rw [hi] at CA
    obtain ⟨A, cap, g1, g2⟩ := H1.out.open
    obtain ⟨g, rfl⟩ := ownsRow_at g2 (by omega)
    have HC := Lib.hid (fun (W : World) (hb : Below w1.heap.size w1 W) => (oft_cell (own_bel g2 hb) hk).2)
    obtain ⟨k, hkk⟩ : ∃ k, atL n L = k := ⟨_, rfl⟩
    obtain ⟨x, hx⟩ : ∃ x, L[atL n L].2 = x := ⟨_, rfl⟩
    obtain ⟨N, hN⟩ : ∃ N, L.length = N := ⟨_, rfl⟩
    rw [hx] at HC h0
    obtain rfl : cn = x := HCN.out.symm.trans h0
    rw [hN] at hk g1
    rw [hkk] at CA HC hk
    have HG1 := Lib.hid g1
    clear hi hkk h0 hx hN g1 g2
    go_wp2_with fail
    refine CA.out.mono ?_
    rintro e w2 ⟨rfl, hb2⟩
    have HB2 := Lib.hid (HB1.out.trans (hb2.mono HB1.out.size))
    have q0 := cellAt (o := 0) (keepB HG1.out hb2) rfl
    have z0 := HC.out _ hb2
    clear hb2
    go_wp2_with fail
    go_ret
    exact ⟨rfl, HB2.out⟩
theorem rcount_any (n : Int) (ov : Bool) (h : RfB w G r L o) (hok : OkL L) (hb : L.length ≤ 1000000) :
    Calls Try.prog 38 #[.pointer (some ⟨r, 0, none⟩), .agg #[.int .i64 n, .bool ov]] w fun e w' => e = .returned (.int .i64 (cntLs n ov L o : Int)) ∧ Below w.heap.size w w' := by
  unfold cntLs chk
  cases ov
  · simpa using rcount_num n h hok hb
  · by_cases hn : n = 0
    · subst hn; simpa using rcount_over h
    · simpa [hn] using rcount_bad n hn h
end
end Go.Proofs.Ytjcbikkihijkiaa
