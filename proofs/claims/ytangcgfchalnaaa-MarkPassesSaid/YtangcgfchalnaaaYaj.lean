/- Parts of the proof: BfV. -/
import Derived.Test.YtangcgfchalnaaaYai
/- A buffer in memory: Put where a block is full. -/
namespace Go.Proofs.Ytangcgfchalnaaa
open Go.RowKit
/-- x.l[l:] -/
theorem arr_l (p l : Nat) (hl : l < 64) (W : World) : (Instr.sliceAt 105 (.pointer (some ⟨p, 1, none⟩)) (some (.int .i64 (l : Int))) none none).run Try.prog W = .ok (.slice (some ⟨p, 1 + l * 3, none⟩) (64 - l) (64 - l)) W := by
  rw [run_sliceAt_array_l W _ ⟨p, 1, none⟩ pArr' .i64 (l : Int) (by omega) (by rw [pLen]; omega), pElem, pSize, pLen]
  simp only [Result.andThen_ok, slicedAt, Int.toNat_natCast, add_mk]
  rw [if_neg (by omega)]
section
variable {w w' : World} {F : Nat → Prop} {b n : Nat} {Z : List Blk} {v : Value} {fl : Int} {P : List Pt}
theorem put_plain {w w' : World} {j xj : Nat} {Xj : List Pt} {t m : Int} {Z' : List Blk} (hG : Good (Z'.map (·.2))) (hP : (Z'.map (·.2)).flatten = P) (hT : hasT t P = false) (hn : P.length = n) (hj : j < Z'.length) (hZ : Z'[j] = (xj, Xj))
    (l1 : ∀ p ∈ ((Z'.map (·.2)).take j).flatten, p.1 < t) (l2 : ∀ p ∈ ((Z'.map (·.2)).drop (j + 1)).flatten, t < p.1) (hB : BufC w' (NewF w F) b (Z'.set j (xj, Xj.take (cntLt t (tms Xj)) ++ (t, m) :: Xj.drop (cntLt t (tms Xj)))) v fl (n + 1)) (hO : Only F w w') : PutW w F b (insP (t, m) P) fl w' := by
  subst hP
  have hk : j < (Z'.map (·.2)).length := by simpa using hj
  have hBk : (Z'.map (·.2))[j] = Xj := by rw [List.getElem_map]; exact congrArg Prod.snd hZ
  have hTX : hasT t Xj = false := by
    have := hT
    rw [flat_at _ hk, hasT_mid l1 l2, hBk] at this
    exact this
  have hXr : Rise Xj := hG.split.1 _ (hBk ▸ List.getElem_mem hk)
  have hins := ins_cut (q := (t, m)) hXr hTX
  have hset : (Z'.set j (xj, Xj.take (cntLt t (tms Xj)) ++ (t, m) :: Xj.drop (cntLt t (tms Xj)))).map (·.2) = (Z'.map (·.2)).set j (insP (t, m) (Z'.map (·.2))[j]) := by
    rw [List.map_set, hBk, hins]
  have hlen : (insP (t, m) (Z'.map (·.2)).flatten).length = n + 1 := by rw [ins_len hG.rise hT, hn]
  exact ⟨_, _, hlen ▸ hB, hset ▸ good_set hG hk l1 l2, hset ▸ ins_set hk l1 l2, hO⟩
theorem part_map {i x Y : Nat} {X : List Pt} {k : Nat} : (Z.take i ++ (x, X.take k) :: (Y, X.drop k) :: Z.drop (i + 1)).map (fun (z : Blk) => z.2) = (Z.map (·.2)).take i ++ X.take k :: X.drop k :: (Z.map (·.2)).drop (i + 1) := by
  rw [List.map_append, List.map_cons, List.map_cons, List.map_take, List.map_drop]
structure PartP (Z Z' : List Blk) (t : Int) (j xj : Nat) (Xj : List Pt) : Prop where
  good : Good (Z'.map (·.2))
  flat : (Z'.map (·.2)).flatten = (Z.map (·.2)).flatten
  lt : j < Z'.length
  at_ : ∀ h : j < Z'.length, Z'[j] = (xj, Xj)
  ahead : ∀ p ∈ ((Z'.map (·.2)).take j).flatten, p.1 < t
  behind : ∀ p ∈ ((Z'.map (·.2)).drop (j + 1)).flatten, t < p.1
  rise : Rise Xj
theorem part_p {i x Y : Nat} {X : List Pt} {t : Int} {q : Pt} {Q : List Pt} (hG : Good (Z.map (·.2))) (hi : i < Z.length) (hZ : Z[i] = (x, X)) (hX : X.length = 64) (hat : atK t (tms (heads (Z.map (·.2)))) = i) (hT : hasT t (Z.map (·.2)).flatten = false) (hq : X.drop 32 = q :: Q) :
    (q.1 < t → PartP Z (Z.take i ++ (x, X.take 32) :: (Y, X.drop 32) :: Z.drop (i + 1)) t (i + 1) Y (X.drop 32)) ∧ (¬ q.1 < t → PartP Z (Z.take i ++ (x, X.take 32) :: (Y, X.drop 32) :: Z.drop (i + 1)) t i x (X.take 32)) := by
  have hzne : Z ≠ [] := fun e => by rw [e] at hi; simp at hi
  subst hat
  obtain ⟨hk, l1, l2, _⟩ := locate t hG (by simpa using hzne)
  obtain ⟨i, hie⟩ : ∃ i, atK t (tms (heads (Z.map (·.2)))) = i := ⟨_, rfl⟩
  simp only [hie] at hk l1 l2 hi hZ ⊢
  have hBk : (Z.map (·.2))[i] = X := by rw [List.getElem_map]; exact congrArg Prod.snd hZ
  have hs : Z.map (·.2) = (Z.map (·.2)).take i ++ X :: (Z.map (·.2)).drop (i + 1) := by rw [← hBk, List.getElem_cons_drop, List.take_append_drop]
  have hXr : Rise X := hG.split.1 _ (hBk ▸ List.getElem_mem hk)
  obtain ⟨g1, g2⟩ := good_part (hs ▸ hG) (k := 32) (by omega) (by omega)
  have hln : (Z.take i).length = i := by rw [List.length_take]; omega
  have hlm : ((Z.map (·.2)).take i).length = i := by rw [List.length_take, List.length_map]; omega
  have hsp : ∀ a ∈ X.take 32, ∀ c ∈ X.drop 32, a.1 < c.1 := by
    have h := hXr
    unfold Rise at h
    rw [← List.take_append_drop 32 X, List.pairwise_append] at h
    exact h.2.2
  have hqX : q ∈ X := List.mem_of_mem_drop (hq ▸ List.mem_cons_self)
  have hd : Rise (X.drop 32) := hXr.sublist (List.drop_sublist _ _)
  refine ⟨fun hlt => ⟨by rw [part_map]; exact g1, by rw [part_map, g2, ← hs], by simp; omega, fun h => ?_, fun p hp => ?_, fun p hp => ?_, hd⟩, fun hlt => ⟨by rw [part_map]; exact g1, by rw [part_map, g2, ← hs], by simp; omega, fun h => ?_, fun p hp => ?_, fun p hp => ?_, hXr.sublist (List.take_sublist _ _)⟩⟩
  · rw [List.getElem_append_right (by omega)]
    simp [hln]
  · rw [part_map, List.take_append, hlm, List.take_of_length_le (by omega), show i + 1 - i = 1 by omega, List.flatten_append, List.mem_append] at hp
    rcases hp with hp | hp
    · exact l1 p hp
    · have hp : p ∈ X.take 32 := by simpa using hp
      have := hsp p hp q (hq ▸ List.mem_cons_self); omega
  · rw [part_map, List.drop_append, hlm, List.drop_eq_nil_of_le (by omega), show i + 1 + 1 - i = 2 by omega, List.nil_append] at hp
    exact l2 p (by simpa using hp)
  · rw [List.getElem_append_right (by omega)]
    simp [hln]
  · rw [part_map, List.take_append, hlm, Nat.sub_self, List.take_zero, List.append_nil, List.take_of_length_le (by omega)] at hp
    exact l1 p hp
  · have hqt : q.1 ≠ t := by
      have h := hT
      rw [hs, List.flatten_append, List.flatten_cons] at h
      exact hasT_not.1 h q (by simp [hqX])
    rw [part_map, List.drop_append, hlm, List.drop_eq_nil_of_le (by omega), show i + 1 - i = 1 by omega, List.nil_append, List.drop_succ_cons, List.drop_zero, List.flatten_cons, List.mem_append] at hp
    rcases hp with hp | hp
    · have := head_le hd hp
      rw [hq] at this
      simp at this
      omega
    · exact l2 p hp
abbrev w7of (w5 : World) (x Y : Nat) : World := (w5.setCell ⟨x, 0, none⟩ (.int .i64 32)).alloc (.cells #[.pointer (some ⟨Y, 0, none⟩)] 103)
theorem w7_size (w5 : World) (x Y : Nat) : (w7of w5 x Y).heap.size = w5.heap.size + 1 := by rw [alloc_size]; simp [World.setCell]
theorem w7_only {w2 w5 : World} {x Y : Nat} (h : Only (fun k => k = Y) w2 w5) : Only (fun k => k = Y ∨ k = x) w2 (w7of w5 x Y) :=
  ((h.mono (fun _ _ e => .inl e)).trans ((Only.set w5 x 0 _).mono (fun _ _ e => .inr e))).trans (Only.of_below (below_alloc (Below.refl _ _) _))
theorem part_row {w2 w5 : World} {x Y i : Nat} {X : List Pt} (HC : BufC w2 F b Z v fl n) (hi : i < Z.length) (hZ : Z[i] = (x, X)) (hY : w2.heap.size = Y) (h : Only (fun k => k = Y) w2 w5) :
    RowAt (w7of w5 x Y) F 103 1 v Z.length (blkPtrs Z) := by
  obtain ⟨_, o2, o3⟩ := HC.own
  refine HC.row.keep' (w7_only h) (fun k hk e => ?_)
  rcases e with rfl | rfl
  · have := (o3 _ hk).2; omega
  · exact o2 _ (hZ ▸ List.getElem_mem hi) hk
theorem part_mem {w w2 w5 w8 : World} {x Y i : Nat} {X : List Pt} {c0 yB : Array Value} {v' : Value} (HC : BufC w2 F b Z v fl n) (HW2 : Below w.heap.size w w2) (hi : i < Z.length) (hZ : Z[i] = (x, X)) (hB0 : BlkC c0 X) (hX : X.length = 64) (hY : w2.heap.size = Y)
    (h : Only (fun k => k = Y) w2 w5) (h5x : w5.heap[x]? = some (.cells c0 107 (0, 0))) (h5y : w5.heap[Y]? = some (.cells yB 107 (0, 0))) (hB2 : BlkC yB (X.drop 32)) (hbx : b ≠ x) (hYb : Y ≠ b) (hYx : Y ≠ x)
    (hr8 : RowAt w8 (fun k => v.ownBlock = some k ∨ (w7of w5 x Y).heap.size ≤ k) 103 1 v' (Z.length + 1) ((blkPtrs Z).take (i + 1) ++ .pointer (some ⟨Y, 0, none⟩) :: (blkPtrs Z).drop (i + 1))) (ho8 : Only (fun k => v.ownBlock = some k) (w7of w5 x Y) w8) :
    BufC (w8.setCell ⟨b, 1, none⟩ v') (NewF w F) b (Z.take i ++ (x, X.take 32) :: (Y, X.drop 32) :: Z.drop (i + 1)) v' fl n ∧ Only F w (w8.setCell ⟨b, 1, none⟩ v') ∧ w8.heap[b]? = some (.cells (bufC v fl n) 102 (0, 0)) ∧ w8.heap[Y]? = some (.cells yB 107 (0, 0)) := by
  obtain ⟨o1, o2, o3⟩ := HC.own
  have hzi : (x, X) ∈ Z := hZ ▸ List.getElem_mem hi
  have hz := HW2.size
  have h5s := h.size
  have h7 := w7_only (x := x) h
  have h7s := w7_size w5 x Y
  have hxF : F x ∧ x < w2.heap.size := ⟨(HC.blks _ hzi).1, (HC.blks _ hzi).2.lt⟩
  have b7 : (w7of w5 x Y).heap[b]? = some (.cells (bufC v fl n) 102 (0, 0)) := h7.get HC.buf (fun e => e.elim (fun e => hYb e.symm) hbx)
  have x7 : (w7of w5 x Y).heap[x]? = some (.cells (c0.setIfInBounds 0 (.int .i64 32)) 107 (0, 0)) := keepA (setCell_get h5x) _
  have y7 : (w7of w5 x Y).heap[Y]? = some (.cells yB 107 (0, 0)) := keepA (setCell_other h5y hYx) _
  have hnY : v.ownBlock ≠ some Y := fun e => by have := (o3 _ e).2; omega
  have b8 := ho8.get b7 o1
  have x8 := ho8.get x7 (o2 _ hzi)
  have y8 := ho8.get y7 hnY
  have hr9 : RowAt (w8.setCell ⟨b, 1, none⟩ v') (NewF w F) 103 1 v' (Z.length + 1) ((blkPtrs Z).take (i + 1) ++ .pointer (some ⟨Y, 0, none⟩) :: (blkPtrs Z).drop (i + 1)) := by
    have hr' := hr8.weak (G := NewF w F) (fun k _ h => h.elim (fun e => .inl (o3 k e).1) (fun e => .inr (by omega)))
    refine hr'.keep' (Only.set w8 b 1 v') (fun k hk e => ?_)
    subst e
    rcases hr'.2 with ⟨rfl, h0⟩ | ⟨g, o, c, cur, rfl, h2, h3, h4⟩
    · cases hk
    · cases hk; rw [h3] at b8; cases b8
  have hU : Only (fun k => k = b ∨ k = x ∨ v.ownBlock = some k ∨ k = Y) w2 (w8.setCell ⟨b, 1, none⟩ v') :=
    ((h7.mono (fun k _ e => e.elim (fun e => .inr (.inr (.inr e))) (fun e => .inr (.inl e)))).trans (ho8.mono (fun k _ e => .inr (.inr (.inl e))))).trans ((Only.set w8 b 1 v').mono (fun k _ e => .inl e))
  have hU2 : Only (fun k => k = b ∨ k = x ∨ v.ownBlock = some k) w2 (w8.setCell ⟨b, 1, none⟩ v') := hU.mono (fun k hk e => by
    rcases e with e | e | e | e
    · exact .inl e
    · exact .inr (.inl e)
    · exact .inr (.inr e)
    · omega)
  refine ⟨HC.part hi hZ (setCell_get b8) (setCell_other x8 (fun e => hbx e.symm)) (hB0.low (k := 32) (by omega)) (setCell_other y8 hYb) hB2 (by omega) (fun k hk => .inl hk) (.inr (by omega)) hr9 hU2, ?_, b8, y8⟩
  refine (Only.of_below (S := F) HW2).then hU2 (fun j _ e => ?_)
  rcases e with rfl | rfl | e
  · exact HC.inF
  · exact hxF.1
  · exact (o3 j e).1
set_option maxRecDepth 100000 in
set_option maxHeartbeats 4000000 in
theorem bPut_full {i x : Nat} {X : List Pt} (t m : Int) (h1 : 1 ≤ t) (h2 : t ≤ 1099511627776) (h3 : fl < t) (h : BufC w F b Z v fl n) (hG : Good (Z.map (·.2))) (hn : (Z.map (·.2)).flatten.length = n) (hL : n < 65536)
    (hT : hasT t (Z.map (·.2)).flatten = false) (hi : i < Z.length) (hZ : Z[i] = (x, X)) (hat : atK t (tms (heads (Z.map (·.2)))) = i) (hX : X.length = 64) :
    Calls Try.prog 29 #[bptr b, .int .i64 t, .int .i64 m] w fun e w' => e = .returned (.int .i64 0) ∧ PutW w F b (insP (t, m) (Z.map (·.2)).flatten) fl w' := by
  have hzne : Z ≠ [] := fun e => by rw [e] at hi; simp at hi
  have hzl := good_len hG
  obtain ⟨g, o, c, rfl, z1, z2, z3, z4⟩ := h.form hzne
  have CR := Lib.hid (bright_any h)
  have CA := Lib.hid (bAt_any t (P := (Z.map (·.2)).flatten) ⟨Z, _, by rw [hn]; exact h, hG, rfl, by omega⟩)
  have hat0 : atP t (Z.map (·.2)).flatten = (0, false) := by rw [atP_has hG.rise, hT]; rfl
  rw [hat0] at CA
  have d1 := cellAt (o := 1) (v := .slice (some ⟨g, o, none⟩) Z.length c) h.buf rfl
  have d2 := cellAt (o := 2) (v := .int .i64 fl) h.buf rfl
  have d3 := cellAt (o := 3) (v := .int .i64 (n : Int)) h.buf rfl
  have e1 : ¬ t < 1 := by omega
  have e2 : ¬ 1099511627776 < t := by omega
  have e3 : ¬ t ≤ fl := by omega
  have e4 : ¬ (n : Int) = 65536 := by omega
  have e5 : ¬ (Z.length : Int) = 0 := by omega
  obtain ⟨zA, hzr, hzA⟩ := blk_zero
  have HZA := Lib.hid hzA
  have hzs0 : 0 < zA.size := by rw [hzA]; simp
  have hzs1 : ¬ zA = #[] := fun e => by rw [e] at hzs0; simp at hzs0
  have HI := Lib.hid h
  have HGd := Lib.hid hG
  have HZi := Lib.hid hZ
  have HX64 := Lib.hid hX
  have HT := Lib.hid hT
  have HN := Lib.hid hn
  have HAT := Lib.hid hat
  have Hz4 := Lib.hid (z4 i hi)
  rw [hZ] at Hz4
  have Hzl : Hid (Z.length ≤ 65536) := Lib.hid (by omega)
  clear h hG hZ hX hat z4 hT hat0 hn z2 hzA
  obtain ⟨zl, hzz⟩ : ∃ zl, Z.length = zl := ⟨_, rfl⟩
  have HZZ := Lib.hid hzz
  rw [hzz] at d1 e5 z1
  clear hzz hzl
  go_enter Try.func29, Try.ntmps29
  go_wp2_with fail
  refine CR.out.mono ?_
  rintro e w1 ⟨rfl, rfl⟩
  go_wp2_with fail
  refine CA.out.mono ?_
  rintro e w1 ⟨rfl, hb1⟩
  have HW1 := Lib.hid hb1
  clear hb1 d1 d2 d3
  have HC : Hid (BufC w1 F b Z (.slice (some ⟨g, o, none⟩) Z.length c) fl n) := Lib.hid (HI.out.below HW1.out)
  have d1 := cellAt (o := 1) (v := .slice (some ⟨g, o, none⟩) zl c) HC.out.buf (by rw [HZZ.out]; rfl)
  have d3 := cellAt (o := 3) (v := .int .i64 (n : Int)) HC.out.buf rfl
  have CT := Lib.hid (bat_L t HC.out HGd.out hzne Hzl.out)
  rw [HAT.out] at CT
  go_wp2_with fail
  refine CT.out.mono ?_
  rintro e w2 ⟨rfl, hb2⟩
  replace HC := Lib.hid (HC.out.below hb2)
  have HW2 := Lib.hid (HW1.out.trans (hb2.mono HW1.out.size))
  have g1 := (HW2.out.cell (p := ⟨g, o + i, none⟩) z3).trans Hz4.out
  clear d1 d3 hb2 CT Hz4 CA CR HI HW1
  have d1 := cellAt (o := 1) (v := .slice (some ⟨g, o, none⟩) zl c) HC.out.buf (by rw [HZZ.out]; rfl)
  have hil : i < zl := by rw [← HZZ.out]; exact hi
  have hbl := (HC.out.blks _ (List.getElem_mem hi)).2
  rw [HZi.out] at hbl
  obtain ⟨c0, hc0, hB0⟩ := hbl
  simp only at hc0 hB0
  have hbx : b ≠ x := by
    rintro rfl
    have e : w2.heap[b]? = _ := HC.out.buf
    rw [hc0] at e; cases e
  have HC0 : Hid (w2.heap[x]? = some (.cells c0 107 (0, 0))) := Lib.hid hc0
  have HB0 := Lib.hid hB0
  have g2 := cellAt (o := 0) (v := .int .i64 64) HC0.out (by rw [HB0.out.n, HX64.out]; rfl)
  clear hc0 hB0
  go_wp2_with fail
  obtain ⟨Y, hY⟩ : ∃ Y, w2.heap.size = Y := ⟨_, rfl⟩
  have HY := Lib.hid hY
  obtain ⟨yA, hyA⟩ : ∃ yA, zA.setIfInBounds 0 (.int .i64 32) = yA := ⟨_, rfl⟩
  have HYA : Hid (yA.toList = .int .i64 ((32 : Nat) : Int) :: zPts) := Lib.hid (by rw [← hyA, HZA.out, arr_set0]; rfl)
  rw [hyA] at ⊢
  have h3y := newB w2 (.cells yA 107)
  have hb3 := below_alloc (Below.refl w2.heap.size w2) (.cells yA 107)
  rw [hY] at h3y ⊢
  obtain ⟨w3, hw3⟩ : ∃ w3, w2.alloc (.cells yA 107) = w3 := ⟨_, rfl⟩
  rw [hw3] at h3y hb3 ⊢
  have HY3 := Lib.hid h3y
  have HB3 := Lib.hid hb3
  have HCx := Lib.hid (keepB HC0.out hb3)
  clear hY hyA hw3 h3y hb3 d1 g1 g2 hzr
  have sl1 := arr_all Y
  have sl2 := arr_l x 32 (by omega)
  refine wp_region_here 8 [(0, false), (1, false), (2, false), (3, false), (4, false), (5, false), (6, false), (7, false)] (fun _ => .cells #[] 0) (by kernel_rfl) (by kernel_rfl) ?_
  repeat (first | (refine wpP_q rfl rfl rfl ?_; apply Exists.intro; refine ⟨fun w' hw' => ?_, fun K hK => ?_⟩; (focus ((skip); go_simp; first | exact quiet_value | fail)); simp only [Act.put, List.setIfInBounds_toArray, List.set_cons_zero, List.set_cons_succ]; refine hK.out _ ?_; clear hK K) | (refine wpP_skip rfl rfl rfl (fun K hK => ?_); simp only [Act.put, List.setIfInBounds_toArray, List.set_cons_zero, List.set_cons_succ]; refine hK.out _ ?_; clear hK K))
  refine wpP_nil ?_
  intro w4 hb4
  have HB4 := Lib.hid (HB3.out.trans (hb4.mono HB3.out.size))
  have HY4 := Lib.hid (keepB HY3.out hb4)
  have HC4 := Lib.hid (keepB HCx.out hb4)
  clear hb4
  (try simp only [List.drop_succ_cons]); (try simp only [List.drop_zero]); (try simp only [List.drop_nil])
  refine wpL_copyP rfl _ _ rfl Y 1 64 64 ⟨x, 1 + 32 * 3, none⟩ (64 - 32) (64 - 32) rfl rfl yA _ HY4.out (pcs (X.drop 32)) ?hn ?hs ?hf (pcs_one _) ?_
  case hn => rw [pcs_len, List.length_drop, HX64.out]; rfl
  case hs =>
    intro j u hj
    rw [add_mk, Nat.add_assoc]
    rw [← pcs_drop, List.getElem?_drop] at hj
    exact cellAt HC4.out (HB0.out.get hj)
  case hf =>
    have := congrArg List.length HYA.out
    rw [pcs_len, List.length_drop, HX64.out]
    simp only [Array.length_toList, List.length_cons, zPts_len] at this
    omega
  intro w5 HY5 HO5
  have HB2Y := Lib.hid (BlkC.high (X := X) (k := 32) (by rw [HX64.out]; omega) (by rw [HX64.out]; omega) zPts_len 32 (by rw [HX64.out]) HYA.out)
  have HYx : Hid (Y ≠ x) := Lib.hid (by have := only_lt HC0.out; have := HY.out; omega)
  have HYb : Hid (Y ≠ b) := Lib.hid (by have := only_lt HC.out.buf; have := HY.out; omega)
  have HC5 : Hid (w5.heap[x]? = some (.cells c0 107 (0, 0))) := Lib.hid (HO5.out.get HC4.out (fun e => HYx.out e.symm))
  have HF5 := Lib.hid (HO5.out.get (keepB HC.out.buf HB4.out) (fun e => HYb.out e.symm))
  have q0 := cellAt (o := 0) (v := .int .i64 64) HC5.out (by rw [HB0.out.n, HX64.out]; rfl)
  have q1 := freeAt 0 HC5.out
  have q2 := cellAt (o := 1) (v := .slice (some ⟨g, o, none⟩) zl c) HF5.out (by rw [HZZ.out]; rfl)
  have hwi : IntKind.i64.wrap ((i : Int) + 1) = ((i + 1 : Nat) : Int) := by rw [IntKind.wrap_i64]; have := Hzl.out; omega
  have hxb : x ≠ b := fun e => hbx e.symm
  have HO25 : Hid (Only (fun k => k = Y) w2 w5) := Lib.hid ((Only.of_below HB4.out).trans HO5.out)
  have hr7 := part_row HC.out hi HZi.out HY.out HO25.out
  have hH7 : (w7of w5 x Y).heap[w5.heap.size]? = some (.cells #[.pointer (some ⟨Y, 0, none⟩)] 103 (0, 0)) := by
    have := newB (w5.setCell ⟨x, 0, none⟩ (.int .i64 32)) (.cells #[.pointer (some ⟨Y, 0, none⟩)] 103)
    rwa [show (w5.setCell ⟨x, 0, none⟩ (.int .i64 32)).heap.size = w5.heap.size by simp [World.setCell]] at this
  have hHo : (Value.slice (some ⟨g, o, none⟩) Z.length c).ownBlock ≠ some w5.heap.size := fun e => by
    have := (HC.out.own.2.2 _ e).2
    have := HO25.out.size
    omega
  have hins := ins_any (i := i + 1) hr7 Hzl.out (by omega) (u := .pointer (some ⟨Y, 0, none⟩)) rfl (blkPtrs_one Z) hH7 hHo
  rw [show (((i + 1 : Nat)) : Int) = (i : Int) + 1 from rfl] at hins
  have HINS := Lib.hid hins
  rw [HZZ.out] at HINS
  unfold w7of at HINS
  clear hr7 hH7 hHo hins
  go_wp2_with fail
  refine HINS.out.mono ?_
  rintro e w8 ⟨v', rfl, hr8, ho8⟩
  obtain ⟨p1, p2, p3, p4⟩ := part_mem HC.out HW2.out hi HZi.out HB0.out HX64.out HY.out HO25.out HC5.out HY5.out HB2Y.out hbx HYb.out HYx.out (by rw [HZZ.out]; exact hr8) (by rw [HZZ.out]; exact ho8)
  obtain ⟨A', c', rfl, _⟩ := hr8.form
  have r1 := cellAt (o := 1) (v := .slice (some ⟨g, o, none⟩) zl c) p3 (by rw [HZZ.out]; rfl)
  have r2 := freeAt 1 p3
  have HC9 := Lib.hid p1
  have HO9 := Lib.hid p2
  have HY8 := Lib.hid p4
  obtain ⟨q, Q, hq⟩ : ∃ q Q, X.drop 32 = q :: Q := by
    cases hx : X.drop 32 with
    | nil => have := congrArg List.length hx; rw [List.length_drop, HX64.out] at this; simp at this
    | cons q Q => exact ⟨q, Q, rfl⟩
  have HQQ := Lib.hid hq
  have hy1 := cellAt (o := 1) (v := .int .i64 q.1) HY8.out (HB2Y.out.get (j := 0) (by rw [hq]; rfl))
  have hYb' := HYb.out
  clear hr8 ho8 p1 p2 p3 p4 q0 q1 q2 HINS hq
  obtain ⟨pa, pb⟩ := part_p (Y := Y) HGd.out hi HZi.out HX64.out HAT.out HT.out HQQ.out
  by_cases hlt : q.1 < t
  · replace pa := Lib.hid (pa hlt)
    clear pb
    go_wp2_with fail
    clear r1 r2 hy1
    generalize (World.setCell w8 _ _) = w9 at *
    obtain ⟨hG9, hF9, hi9, hat9, ha9, hb9, hr9⟩ := pa.out
    have HQ : Hid (∀ w', BufC w' (NewF w F) b ((Z.take i ++ (x, X.take 32) :: (Y, X.drop 32) :: Z.drop (i + 1)).set (i + 1) (Y, (X.drop 32).take (cntLt t (tms (X.drop 32))) ++ (t, m) :: (X.drop 32).drop (cntLt t (tms (X.drop 32))))) (.slice A' (zl + 1) c') fl (n + 1) → Only F w w' → PutW w F b (insP (t, m) (Z.map (·.2)).flatten) fl w') :=
      Lib.hid (fun w' hB hO => put_plain hG9 hF9 HT.out HN.out hi9 (hat9 hi9) ha9 hb9 hB hO)
    clear hG9 hF9 ha9 hb9 pa HC0 HB0 HCx HY3 HB3 HB4 HY4 HC4 HY5 HO5 HB2Y HC5 HF5 HO25 HY8 HC
    obtain ⟨Z9, hZe⟩ : ∃ Z9, Z.take i ++ (x, X.take 32) :: (Y, X.drop 32) :: Z.drop (i + 1) = Z9 := ⟨_, rfl⟩
    have hat8 : ∀ h : i + 1 < Z9.length, Z9[i + 1]'h = (Y, X.drop 32) := by subst hZe; exact hat9
    simp only [hZe] at hi9 HQ HC9
    clear hat9
    obtain ⟨X, hXXe⟩ : ∃ X9, X.drop 32 = X9 := ⟨_, rfl⟩
    simp only [hXXe] at hat8 HQ hr9
    obtain ⟨x, hxe⟩ : ∃ x9, Y = x9 := ⟨_, rfl⟩
    simp only [hxe] at hat8 HQ ⊢
    have hi := hi9
    have HZi := Lib.hid (hat8 hi)
    have HR := Lib.hid hr9
    have HC := HC9
    have HO := HO9
    have hLn := hL
    clear hat8 hr9
    have HXL : Hid (X.length < 64) := Lib.hid (by rw [← hXXe, List.length_drop, HX64.out]; omega)
    clear hZe hxe hXXe
    have hbl := (HC.out.blks _ (List.getElem_mem hi)).2
    rw [HZi.out] at hbl
    simp only at hbl
    have hfd := bfind_any t hbl HR.out
    obtain ⟨k, hk⟩ : ∃ k, cntLt t (tms X) = k := ⟨_, rfl⟩
    have hkl : k ≤ X.length := by have := cntLt_le t (tms X); rw [tms_len] at this; omega
    rw [hk] at hfd HQ
    have HFD := Lib.hid hfd
    obtain ⟨xn, hxn⟩ : ∃ xn, X.length = xn := ⟨_, rfl⟩
    have hx64 := HXL.out
    rw [hxn] at hkl hx64
    have HXN := Lib.hid hxn
    obtain ⟨c0, hc0, hB0⟩ := hbl
    have hbx : b ≠ x := by
      rintro rfl
      have e : (w9).heap[b]? = _ := HC.out.buf
      rw [hc0] at e; cases e
    have HC0 : Hid ((w9).heap[x]? = some (.cells c0 107 (0, 0))) := Lib.hid hc0
    have HB0 := Lib.hid hB0
    have HBF := Lib.hid HC.out.buf
    obtain ⟨k1, hk1⟩ : ∃ k1, k + 1 = k1 := ⟨_, rfl⟩
    obtain ⟨x1, hx1⟩ : ∃ x1, xn + 1 = x1 := ⟨_, rfl⟩
    obtain ⟨n1, hn1⟩ : ∃ n1, n + 1 = n1 := ⟨_, rfl⟩
    have hwk : IntKind.i64.wrap ((k : Int) + 1) = (k1 : Int) := by rw [IntKind.wrap_i64]; omega
    have hwx : IntKind.i64.wrap ((xn : Int) + 1) = (x1 : Int) := by rw [IntKind.wrap_i64]; omega
    have hwn : IntKind.i64.wrap ((n : Int) + 1) = (n1 : Int) := by rw [IntKind.wrap_i64]; omega
    obtain ⟨off, hoff, hcut1⟩ := arr_lhE x k1 x1 (by omega) (by omega)
    have hcut2 := arr_lh' x k xn hkl (by omega) (by omega)
    have HK1 := Lib.hid hk1
    have HX1 := Lib.hid hx1
    have HN1 := Lib.hid hn1
    have HOF := Lib.hid hoff
    have hk64 : (k : Int) < 64 := by omega
    have hxb : x ≠ b := fun e => hbx e.symm
    clear hfd hk hxn hc0 hB0 hk1 hx1 hn1 hoff
    refine HFD.out.mono ?_
    rintro e wd ⟨rfl, hbd⟩
    have HBd := Lib.hid hbd
    have HCd := Lib.hid (keepB HC0.out hbd)
    have HFd := Lib.hid (keepB HBF.out hbd)
    clear hbd
    have q0 := cellAt (o := 0) HCd.out HB0.out.n
    rw [HXN.out] at q0
    go_wp2_with fail
    refine wp_region_here 20 [(0, false), (1, false), (2, false), (3, false), (4, false), (5, false), (6, false), (7, false), (8, false), (9, false), (10, false), (11, false), (12, false), (13, false), (14, false), (15, false), (16, false), (17, false), (18, false), (19, false)] (fun _ => .cells #[] 0) (by kernel_rfl) (by kernel_rfl) ?_
    repeat (first | (refine wpP_q rfl rfl rfl ?_; apply Exists.intro; refine ⟨fun w' hw' => ?_, fun K hK => ?_⟩; (focus ((have q1 := cellAt (o := 0) (keepB HCd.out hw') HB0.out.n; rw [HXN.out] at q1); go_simp; first | exact quiet_value | fail)); simp only [Act.put, List.setIfInBounds_toArray, List.set_cons_zero, List.set_cons_succ]; refine hK.out _ ?_; clear hK K) | (refine wpP_skip rfl rfl rfl (fun K hK => ?_); simp only [Act.put, List.setIfInBounds_toArray, List.set_cons_zero, List.set_cons_succ]; refine hK.out _ ?_; clear hK K))
    refine wpP_nil ?_
    intro we hbe
    have HBe := Lib.hid (HBd.out.trans (hbe.mono HBd.out.size))
    have HCe := Lib.hid (keepB HCd.out hbe)
    clear hbe
    (try simp only [List.drop_succ_cons]); (try simp only [List.drop_zero]); (try simp only [List.drop_nil])
    refine wpL_copyP rfl _ _ rfl x off (x1 - k1) (64 - k1) ⟨x, 1 + k * 3, none⟩ (xn - k) (64 - k) rfl rfl c0 _ HCe.out (pcs (X.drop k)) ?hn ?hs ?hf (pcs_one _) ?_
    case hn =>
      have e : Nat.min (xn - k) (x1 - k1) = xn - k := Nat.min_eq_left (by have := HK1.out; have := HX1.out; omega)
      rw [pcs_len, List.length_drop, HXN.out, e]
    case hs =>
      intro j u hj
      rw [add_mk, Nat.add_assoc]
      rw [← pcs_drop, List.getElem?_drop] at hj
      exact cellAt HCe.out (HB0.out.get hj)
    case hf =>
      rw [pcs_len, List.length_drop, HXN.out, HB0.out.size]
      have := HK1.out
      rcases HOF.out with ⟨_, h⟩ | h <;> omega
    intro wf HCf HOf
    have HOf' := Lib.hid ((Only.of_below HBe.out).trans HOf.out)
    go_wp2_with fail
    refine wp_region_here 9 [(0, false), (1, false), (2, false), (3, false), (4, false), (5, false), (6, false), (7, false), (8, false)] (fun _ => .cells #[] 0) (by kernel_rfl) (by kernel_rfl) ?_
    repeat (first | (refine wpP_q rfl rfl rfl ?_; apply Exists.intro; refine ⟨fun w' hw' => ?_, fun K hK => ?_⟩; (focus ((skip); go_simp; first | exact quiet_value | first | with_reducible exact quiet_enter (bof_any _ _))); simp only [Act.put, List.setIfInBounds_toArray, List.set_cons_zero, List.set_cons_succ]; refine hK.out _ ?_; clear hK K) | (refine wpP_skip rfl rfl rfl (fun K hK => ?_); simp only [Act.put, List.setIfInBounds_toArray, List.set_cons_zero, List.set_cons_succ]; refine hK.out _ ?_; clear hK K))
    refine wpP_nil ?_
    intro wg hbg
    have HCg := Lib.hid (keepB HCf.out hbg)
    have HOg := Lib.hid (HOf'.out.trans (Only.of_below hbg))
    clear hbg
    (try simp only [List.drop_succ_cons]); (try simp only [List.drop_zero]); (try simp only [List.drop_nil])
    refine wpL_storePt rfl _ _ rfl x (1 + k * 3) (t, m) rfl rfl _ _ HCg.out ?ht ?_
    case ht =>
      rw [List.size_toArray, splice_len (by rw [pcs_len, List.length_drop, HXN.out, Array.length_toList, HB0.out.size]; have := HK1.out; rcases HOF.out with ⟨_, h⟩ | h <;> omega), Array.length_toList, HB0.out.size]; omega
    intro wh HCh HOh
    have HOh' := Lib.hid (HOg.out.trans HOh.out)
    have HFh := Lib.hid (HOh'.out.get HBF.out hbx)
    have q2 := cellAt (o := 0) (v := .int .i64 (xn : Int)) HCh.out (by rw [set_get0, set_get0, set_get0, HB0.out.take0 (by rcases HOF.out with ⟨_, h⟩ | h <;> omega), HXN.out] <;> omega)
    have q3 := freeAt 0 HCh.out
    have q4 := cellAt (o := 3) (v := .int .i64 (n : Int)) HFh.out rfl
    have q5 := freeAt 3 HFh.out
    have R := put_end (n1 := n1) HC.out hi HZi.out HB0.out HXN.out hx64 hkl (by rw [HK1.out]; exact HOF.out) hbx HOh'.out HX1.out.symm HCh.out
    have R1 := Lib.hid R.1
    have R2 := Lib.hid R.2
    clear R
    go_wp2_with fail
    go_ret
    refine ⟨rfl, HQ.out _ ?_ ?_⟩
    · rw [HN1.out]; exact R1.out
    · refine HO.out.then R2.out (fun j hj h => ?_)
      rcases h with rfl | rfl
      · exact HC.out.inF.resolve_right (by omega)
      · have hf := (HC.out.blks _ (List.getElem_mem hi)).1
        rw [HZi.out] at hf
        exact hf.resolve_right (Nat.not_le.2 hj)
  · replace pa := Lib.hid (pb hlt)
    clear pb
    go_wp2_with fail
    clear r1 r2 hy1
    generalize (World.setCell w8 _ _) = w9 at *
    obtain ⟨hG9, hF9, hi9, hat9, ha9, hb9, hr9⟩ := pa.out
    have HQ : Hid (∀ w', BufC w' (NewF w F) b ((Z.take i ++ (x, X.take 32) :: (Y, X.drop 32) :: Z.drop (i + 1)).set (i) (x, (X.take 32).take (cntLt t (tms (X.take 32))) ++ (t, m) :: (X.take 32).drop (cntLt t (tms (X.take 32))))) (.slice A' (zl + 1) c') fl (n + 1) → Only F w w' → PutW w F b (insP (t, m) (Z.map (·.2)).flatten) fl w') :=
      Lib.hid (fun w' hB hO => put_plain hG9 hF9 HT.out HN.out hi9 (hat9 hi9) ha9 hb9 hB hO)
    clear hG9 hF9 ha9 hb9 pa HC0 HB0 HCx HY3 HB3 HB4 HY4 HC4 HY5 HO5 HB2Y HC5 HF5 HO25 HY8 HC
    obtain ⟨Z9, hZe⟩ : ∃ Z9, Z.take i ++ (x, X.take 32) :: (Y, X.drop 32) :: Z.drop (i + 1) = Z9 := ⟨_, rfl⟩
    have hat8 : ∀ h : i < Z9.length, Z9[i]'h = (x, X.take 32) := by subst hZe; exact hat9
    simp only [hZe] at hi9 HQ HC9
    clear hat9
    obtain ⟨X, hXXe⟩ : ∃ X9, X.take 32 = X9 := ⟨_, rfl⟩
    simp only [hXXe] at hat8 HQ hr9
    obtain ⟨x, hxe⟩ : ∃ x9, x = x9 := ⟨_, rfl⟩
    simp only [hxe] at hat8 HQ ⊢
    have hi := hi9
    have HZi := Lib.hid (hat8 hi)
    have HR := Lib.hid hr9
    have HC := HC9
    have HO := HO9
    have hLn := hL
    clear hat8 hr9
    have HXL : Hid (X.length < 64) := Lib.hid (by rw [← hXXe, List.length_take, HX64.out]; omega)
    clear hZe hxe hXXe
    have hbl := (HC.out.blks _ (List.getElem_mem hi)).2
    rw [HZi.out] at hbl
    simp only at hbl
    have hfd := bfind_any t hbl HR.out
    obtain ⟨k, hk⟩ : ∃ k, cntLt t (tms X) = k := ⟨_, rfl⟩
    have hkl : k ≤ X.length := by have := cntLt_le t (tms X); rw [tms_len] at this; omega
    rw [hk] at hfd HQ
    have HFD := Lib.hid hfd
    obtain ⟨xn, hxn⟩ : ∃ xn, X.length = xn := ⟨_, rfl⟩
    have hx64 := HXL.out
    rw [hxn] at hkl hx64
    have HXN := Lib.hid hxn
    obtain ⟨c0, hc0, hB0⟩ := hbl
    have hbx : b ≠ x := by
      rintro rfl
      have e : (w9).heap[b]? = _ := HC.out.buf
      rw [hc0] at e; cases e
    have HC0 : Hid ((w9).heap[x]? = some (.cells c0 107 (0, 0))) := Lib.hid hc0
    have HB0 := Lib.hid hB0
    have HBF := Lib.hid HC.out.buf
    obtain ⟨k1, hk1⟩ : ∃ k1, k + 1 = k1 := ⟨_, rfl⟩
    obtain ⟨x1, hx1⟩ : ∃ x1, xn + 1 = x1 := ⟨_, rfl⟩
    obtain ⟨n1, hn1⟩ : ∃ n1, n + 1 = n1 := ⟨_, rfl⟩
    have hwk : IntKind.i64.wrap ((k : Int) + 1) = (k1 : Int) := by rw [IntKind.wrap_i64]; omega
    have hwx : IntKind.i64.wrap ((xn : Int) + 1) = (x1 : Int) := by rw [IntKind.wrap_i64]; omega
    have hwn : IntKind.i64.wrap ((n : Int) + 1) = (n1 : Int) := by rw [IntKind.wrap_i64]; omega
    obtain ⟨off, hoff, hcut1⟩ := arr_lhE x k1 x1 (by omega) (by omega)
    have hcut2 := arr_lh' x k xn hkl (by omega) (by omega)
    have HK1 := Lib.hid hk1
    have HX1 := Lib.hid hx1
    have HN1 := Lib.hid hn1
    have HOF := Lib.hid hoff
    have hk64 : (k : Int) < 64 := by omega
    have hxb : x ≠ b := fun e => hbx e.symm
    clear hfd hk hxn hc0 hB0 hk1 hx1 hn1 hoff
    refine HFD.out.mono ?_
    rintro e wd ⟨rfl, hbd⟩
    have HBd := Lib.hid hbd
    have HCd := Lib.hid (keepB HC0.out hbd)
    have HFd := Lib.hid (keepB HBF.out hbd)
    clear hbd
    have q0 := cellAt (o := 0) HCd.out HB0.out.n
    rw [HXN.out] at q0
    go_wp2_with fail
    refine wp_region_here 20 [(0, false), (1, false), (2, false), (3, false), (4, false), (5, false), (6, false), (7, false), (8, false), (9, false), (10, false), (11, false), (12, false), (13, false), (14, false), (15, false), (16, false), (17, false), (18, false), (19, false)] (fun _ => .cells #[] 0) (by kernel_rfl) (by kernel_rfl) ?_
    repeat (first | (refine wpP_q rfl rfl rfl ?_; apply Exists.intro; refine ⟨fun w' hw' => ?_, fun K hK => ?_⟩; (focus ((have q1 := cellAt (o := 0) (keepB HCd.out hw') HB0.out.n; rw [HXN.out] at q1); go_simp; first | exact quiet_value | fail)); simp only [Act.put, List.setIfInBounds_toArray, List.set_cons_zero, List.set_cons_succ]; refine hK.out _ ?_; clear hK K) | (refine wpP_skip rfl rfl rfl (fun K hK => ?_); simp only [Act.put, List.setIfInBounds_toArray, List.set_cons_zero, List.set_cons_succ]; refine hK.out _ ?_; clear hK K))
    refine wpP_nil ?_
    intro we hbe
    have HBe := Lib.hid (HBd.out.trans (hbe.mono HBd.out.size))
    have HCe := Lib.hid (keepB HCd.out hbe)
    clear hbe
    (try simp only [List.drop_succ_cons]); (try simp only [List.drop_zero]); (try simp only [List.drop_nil])
    refine wpL_copyP rfl _ _ rfl x off (x1 - k1) (64 - k1) ⟨x, 1 + k * 3, none⟩ (xn - k) (64 - k) rfl rfl c0 _ HCe.out (pcs (X.drop k)) ?hn ?hs ?hf (pcs_one _) ?_
    case hn =>
      have e : Nat.min (xn - k) (x1 - k1) = xn - k := Nat.min_eq_left (by have := HK1.out; have := HX1.out; omega)
      rw [pcs_len, List.length_drop, HXN.out, e]
    case hs =>
      intro j u hj
      rw [add_mk, Nat.add_assoc]
      rw [← pcs_drop, List.getElem?_drop] at hj
      exact cellAt HCe.out (HB0.out.get hj)
    case hf =>
      rw [pcs_len, List.length_drop, HXN.out, HB0.out.size]
      have := HK1.out
      rcases HOF.out with ⟨_, h⟩ | h <;> omega
    intro wf HCf HOf
    have HOf' := Lib.hid ((Only.of_below HBe.out).trans HOf.out)
    go_wp2_with fail
    refine wp_region_here 9 [(0, false), (1, false), (2, false), (3, false), (4, false), (5, false), (6, false), (7, false), (8, false)] (fun _ => .cells #[] 0) (by kernel_rfl) (by kernel_rfl) ?_
    repeat (first | (refine wpP_q rfl rfl rfl ?_; apply Exists.intro; refine ⟨fun w' hw' => ?_, fun K hK => ?_⟩; (focus ((skip); go_simp; first | exact quiet_value | first | with_reducible exact quiet_enter (bof_any _ _))); simp only [Act.put, List.setIfInBounds_toArray, List.set_cons_zero, List.set_cons_succ]; refine hK.out _ ?_; clear hK K) | (refine wpP_skip rfl rfl rfl (fun K hK => ?_); simp only [Act.put, List.setIfInBounds_toArray, List.set_cons_zero, List.set_cons_succ]; refine hK.out _ ?_; clear hK K))
    refine wpP_nil ?_
    intro wg hbg
    have HCg := Lib.hid (keepB HCf.out hbg)
    have HOg := Lib.hid (HOf'.out.trans (Only.of_below hbg))
    clear hbg
    (try simp only [List.drop_succ_cons]); (try simp only [List.drop_zero]); (try simp only [List.drop_nil])
    refine wpL_storePt rfl _ _ rfl x (1 + k * 3) (t, m) rfl rfl _ _ HCg.out ?ht ?_
    case ht =>
      rw [List.size_toArray, splice_len (by rw [pcs_len, List.length_drop, HXN.out, Array.length_toList, HB0.out.size]; have := HK1.out; rcases HOF.out with ⟨_, h⟩ | h <;> omega), Array.length_toList, HB0.out.size]; omega
    intro wh HCh HOh
    have HOh' := Lib.hid (HOg.out.trans HOh.out)
    have HFh := Lib.hid (HOh'.out.get HBF.out hbx)
    have q2 := cellAt (o := 0) (v := .int .i64 (xn : Int)) HCh.out (by rw [set_get0, set_get0, set_get0, HB0.out.take0 (by rcases HOF.out with ⟨_, h⟩ | h <;> omega), HXN.out] <;> omega)
    have q3 := freeAt 0 HCh.out
    have q4 := cellAt (o := 3) (v := .int .i64 (n : Int)) HFh.out rfl
    have q5 := freeAt 3 HFh.out
    have R := put_end (n1 := n1) HC.out hi HZi.out HB0.out HXN.out hx64 hkl (by rw [HK1.out]; exact HOF.out) hbx HOh'.out HX1.out.symm HCh.out
    have R1 := Lib.hid R.1
    have R2 := Lib.hid R.2
    clear R
    go_wp2_with fail
    go_ret
    refine ⟨rfl, HQ.out _ ?_ ?_⟩
    · rw [HN1.out]; exact R1.out
    · refine HO.out.then R2.out (fun j hj h => ?_)
      rcases h with rfl | rfl
      · exact HC.out.inF.resolve_right (by omega)
      · have hf := (HC.out.blks _ (List.getElem_mem hi)).1
        rw [HZi.out] at hf
        exact hf.resolve_right (Nat.not_le.2 hj)
/-! ### Put, whole -/
/-- How Put ends: its number, what it leaves. -/
def putE (t : Int) (P : List Pt) (fl : Int) : Int := if t < 1 ∨ 1099511627776 < t then 2 else if t ≤ fl then 8 else if hasT t P = true then 7 else if P.length = 65536 then 3 else 0
def putP (t m : Int) (P : List Pt) (fl : Int) : List Pt := if putE t P fl = 0 then insP (t, m) P else P
/-- A buffer's step: what it turned, and that it laid anew. -/
def BufGo (w : World) (F : Nat → Prop) (b : Nat) (P : List Pt) (fl : Int) (w' : World) : Prop := ∃ F', BufL w' F' b P fl ∧ (∀ k, F' k → (F k ∨ w.heap.size ≤ k) ∧ k < w'.heap.size) ∧ Only F w w'
theorem BufL.old (h : BufL w F b P fl) : BufL w (fun k => F k ∧ k < w.heap.size) b P fl := by
  obtain ⟨Z, v, h1, h2⟩ := h
  exact ⟨Z, v, h1.weak (fun k hk hF => ⟨hF, hk⟩), h2⟩
theorem BufGo.of {F' : Nat → Prop} (h : BufL w' F' b P fl) (hF : ∀ k, F' k → F k ∨ w.heap.size ≤ k) (ho : Only F w w') : BufGo w F b P fl w' := ⟨_, h.old, fun k hk => ⟨hF k hk.1, hk.2⟩, ho⟩
theorem BufGo.below (h : BufL w F b P fl) (hb : Below w.heap.size w w') : BufGo w F b P fl w' := BufGo.of (h.below hb) (fun _ h => .inl h) (Only.of_below hb)
set_option maxRecDepth 100000 in
theorem bPut_arg (t m : Int) (h1 : t < 1 ∨ 1099511627776 < t) (h : BufC w F b Z v fl n) : Calls Try.prog 29 #[bptr b, .int .i64 t, .int .i64 m] w fun e w' => e = .returned (.int .i64 2) ∧ Below w.heap.size w w' := by
  have CR := Lib.hid (bright_any h)
  clear h
  rcases h1 with h1 | h1
  · go_enter Try.func29, Try.ntmps29
    go_wp2_with fail
    refine CR.out.mono ?_
    rintro e w1 ⟨rfl, rfl⟩
    go_wp2_with fail
    go_ret
    exact ⟨rfl, Below.refl _ _⟩
  · have h2 : ¬ t < 1 := by omega
    go_enter Try.func29, Try.ntmps29
    go_wp2_with fail
    refine CR.out.mono ?_
    rintro e w1 ⟨rfl, rfl⟩
    go_wp2_with fail
    go_ret
    exact ⟨rfl, Below.refl _ _⟩
set_option maxRecDepth 100000 in
theorem bPut_late (t m : Int) (h1 : 1 ≤ t) (h2 : t ≤ 1099511627776) (h3 : t ≤ fl) (h : BufC w F b Z v fl n) : Calls Try.prog 29 #[bptr b, .int .i64 t, .int .i64 m] w fun e w' => e = .returned (.int .i64 8) ∧ Below w.heap.size w w' := by
  have CR := Lib.hid (bright_any h)
  have d2 := cellAt (o := 2) (v := .int .i64 fl) h.buf rfl
  have e1 : ¬ t < 1 := by omega
  have e2 : ¬ 1099511627776 < t := by omega
  clear h
  go_enter Try.func29, Try.ntmps29
  go_wp2_with fail
  refine CR.out.mono ?_
  rintro e w1 ⟨rfl, rfl⟩
  go_wp2_with fail
  go_ret
  exact ⟨rfl, Below.refl _ _⟩
set_option maxRecDepth 100000 in
theorem bPut_there (t m : Int) (h1 : 1 ≤ t) (h2 : t ≤ 1099511627776) (h3 : fl < t) (h : BufL w F b P fl) (hT : hasT t P = true) : Calls Try.prog 29 #[bptr b, .int .i64 t, .int .i64 m] w fun e w' => e = .returned (.int .i64 7) ∧ Below w.heap.size w w' := by
  have CA := Lib.hid (bAt_any t h)
  have hat : (atP t P).2 = true := by rw [atP_has h.rise, hT]; rfl
  obtain ⟨a1, ha1⟩ : ∃ a, (atP t P).1 = a := ⟨_, rfl⟩
  rw [hat, ha1] at CA
  obtain ⟨Z, v, h, _⟩ := h
  have CR := Lib.hid (bright_any h)
  have d2 := cellAt (o := 2) (v := .int .i64 fl) h.buf rfl
  have e1 : ¬ t < 1 := by omega
  have e2 : ¬ 1099511627776 < t := by omega
  have e3 : ¬ t ≤ fl := by omega
  clear h hat ha1
  go_enter Try.func29, Try.ntmps29
  go_wp2_with fail
  refine CR.out.mono ?_
  rintro e w1 ⟨rfl, rfl⟩
  go_wp2_with fail
  refine CA.out.mono ?_
  rintro e w1 ⟨rfl, hb1⟩
  have HB1 := Lib.hid hb1
  clear hb1
  go_wp2_with fail
  go_ret
  exact ⟨rfl, HB1.out⟩
set_option maxRecDepth 100000 in
theorem bPut_long (t m : Int) (h1 : 1 ≤ t) (h2 : t ≤ 1099511627776) (h3 : fl < t) (h : BufL w F b P fl) (hT : hasT t P = false) (hn : P.length = 65536) : Calls Try.prog 29 #[bptr b, .int .i64 t, .int .i64 m] w fun e w' => e = .returned (.int .i64 3) ∧ Below w.heap.size w w' := by
  have CA := Lib.hid (bAt_any t h)
  have hat : atP t P = (0, false) := by rw [atP_has h.rise, hT]; rfl
  rw [hat] at CA
  obtain ⟨Z, v, h, _⟩ := h
  have CR := Lib.hid (bright_any h)
  have d2 := cellAt (o := 2) (v := .int .i64 fl) h.buf rfl
  have HI := Lib.hid h
  have HN := Lib.hid hn
  have e1 : ¬ t < 1 := by omega
  have e2 : ¬ 1099511627776 < t := by omega
  have e3 : ¬ t ≤ fl := by omega
  clear h hat hn
  go_enter Try.func29, Try.ntmps29
  go_wp2_with fail
  refine CR.out.mono ?_
  rintro e w1 ⟨rfl, rfl⟩
  go_wp2_with fail
  refine CA.out.mono ?_
  rintro e w1 ⟨rfl, hb1⟩
  have HB1 := Lib.hid hb1
  have d3 := cellAt (o := 3) (v := .int .i64 65536) (HI.out.below hb1).buf (by rw [HN.out]; rfl)
  clear hb1 d2
  go_wp2_with fail
  go_ret
  exact ⟨rfl, HB1.out⟩
/-- PUT. -/
theorem bPut_any (t m : Int) (h : BufL w F b P fl) : Calls Try.prog 29 #[bptr b, .int .i64 t, .int .i64 m] w fun e w' => e = .returned (.int .i64 (putE t P fl)) ∧ BufGo w F b (putP t m P fl) fl w' := by
  unfold putP putE
  by_cases h1 : t < 1 ∨ 1099511627776 < t
  · rw [if_pos h1, if_neg (by omega)]
    obtain ⟨Z, v, hc, _⟩ := id h
    exact (bPut_arg t m h1 hc).mono fun e w' ⟨a, b⟩ => ⟨a, BufGo.below h b⟩
  · rw [if_neg h1]
    by_cases h2 : t ≤ fl
    · rw [if_pos h2, if_neg (by omega)]
      obtain ⟨Z, v, hc, _⟩ := id h
      exact (bPut_late t m (by omega) (by omega) h2 hc).mono fun e w' ⟨a, b⟩ => ⟨a, BufGo.below h b⟩
    · rw [if_neg h2]
      by_cases h3 : hasT t P = true
      · rw [if_pos h3, if_neg (by omega)]
        exact (bPut_there t m (by omega) (by omega) (by omega) h h3).mono fun e w' ⟨a, b⟩ => ⟨a, BufGo.below h b⟩
      · rw [if_neg h3]
        simp only [Bool.not_eq_true] at h3
        by_cases h4 : P.length = 65536
        · rw [if_pos h4, if_neg (by omega)]
          exact (bPut_long t m (by omega) (by omega) (by omega) h h3 h4).mono fun e w' ⟨a, b⟩ => ⟨a, BufGo.below h b⟩
        · rw [if_neg h4, if_pos rfl]
          obtain ⟨Z, v, hc, hG, hP, hL⟩ := h
          have hfin : ∀ (e : Ending) w', (e = .returned (.int .i64 0) ∧ PutW w F b (insP (t, m) P) fl w') → (e = .returned (.int .i64 0) ∧ BufGo w F b (insP (t, m) P) fl w') := by
            rintro e w' ⟨a, Z', v', g1, g2, g3, g4⟩
            have hr : Rise P := by rw [hP]; exact hG.rise
            exact ⟨a, BufGo.of ⟨Z', v', g1, g2, g3, by rw [ins_len hr h3]; omega⟩ (fun _ h => h) g4⟩
          by_cases hz : Z = []
          · subst hz
            obtain rfl : P = [] := hP
            exact (bPut_empty t m (by omega) (by omega) (by omega) hc).mono hfin
          · obtain ⟨hk, _⟩ := locate t hG (by simpa using hz)
            have hk' : atK t (tms (heads (Z.map (·.2)))) < Z.length := by simpa using hk
            have hle := (hc.blks _ (List.getElem_mem hk')).2.le
            obtain ⟨⟨x, X⟩, hx⟩ : ∃ y, Z[atK t (tms (heads (Z.map (·.2))))] = y := ⟨_, rfl⟩
            rw [hx] at hle
            simp only at hle
            subst hP
            by_cases h64 : X.length = 64
            · exact (bPut_full t m (by omega) (by omega) (by omega) hc hG rfl (by omega) h3 hk' hx rfl h64).mono hfin
            · exact (bPut_room t m (by omega) (by omega) (by omega) hc hG rfl (by omega) h3 hk' hx rfl (by omega)).mono hfin
end
end Go.Proofs.Ytangcgfchalnaaa
