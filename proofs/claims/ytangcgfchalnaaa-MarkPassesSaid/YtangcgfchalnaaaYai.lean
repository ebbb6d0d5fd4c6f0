/- Parts of the proof: BfP. -/
import Derived.Test.YtangcgfchalnaaaYah
/- A buffer in memory: Put. -/
namespace Go.Proofs.Ytangcgfchalnaaa
open Go.RowKit
theorem bof_any (n : Int) (w : World) : Calls Try.prog 59 #[.int .i64 n] w fun e w' => e = .returned (.agg #[.int .i64 n, .bool false]) ∧ Below w.heap.size w w' := by
  go_enter Try.func59, Try.ntmps59
  go_wp2
  exact bodyPost_ret (v := .agg #[.int .i64 n, .bool false]) (by simp [results, Try.results59, go_sem]) rfl ⟨rfl, (Below.refl _ _).alloc (Nat.le_refl _) _⟩
/-! ### A block that is made -/
def zPts : List Value := (List.replicate 64 [Value.int .i64 0, .int .i64 0, .bool false]).flatten
theorem blkInfo : (Try.prog.info? 107).map (fun i => i.zero) = some (some (.agg (.int .i64 0 :: zPts).toArray)) := by kernel_rfl
theorem zPts_len : zPts.length = 192 := by decide +kernel
theorem zPts_0 : zPts[0]? = some (.int .i64 0) := rfl
theorem blk_zero : ∃ zA : Array Value, (∀ W, (zeroValue 107).run Try.prog W = .ok (.agg zA) W) ∧ zA = (.int .i64 0 :: zPts).toArray := by
  refine ⟨_, fun W => ?_, rfl⟩
  have h := blkInfo
  cases hq : Try.prog.info? 107 with
  | none => rw [hq] at h; cases h
  | some i =>
    rw [hq] at h
    simp only [Option.map_some, Option.some.injEq] at h
    simp [zeroValue, typeInfo, hq, h]
theorem set_get0 {c : Array Value} {o : Nat} {v : Value} (h : o ≠ 0) : (c.setIfInBounds o v)[0]? = c[0]? := by rw [Array.getElem?_setIfInBounds, if_neg h]
theorem BlkC.take0 {c : Array Value} {X : List Pt} (h : BlkC c X) {off : Nat} (ho : 0 < off) {cs ds : List Value} : ((c.toList.take off ++ cs ++ ds).toArray)[0]? = some (.int .i64 (X.length : Int)) := by
  obtain ⟨rest, hc, hl⟩ := h.form
  obtain ⟨o, rfl⟩ : ∃ o, off = o + 1 := ⟨off - 1, by omega⟩
  rw [hc]; simp
/-- A point is stored: the world behind a letter. -/
theorem wpL_storePt {w : World} {ops : Array Oper} {rest : List Oper} {o : Oper} {a : Act} {Q : Exit → Act → World → Prop} (hgd : o.guard = none) (d s : Operand)
    (ho : o.op = .store 86 d s) (x off : Nat) (q : Pt) (hd : a.eval d = .pointer (some ⟨x, off, none⟩)) (hs : a.eval s = bpv q) (c : Array Value) (T : TypeId) (hg : w.heap[x]? = some (.cells c T (0, 0))) (hsz : off + 2 < c.size)
    (h : ∀ w', Hid (w'.heap[x]? = some (.cells (((c.setIfInBounds off (.int .i64 q.1)).setIfInBounds (off + 1) (.int .i64 q.2)).setIfInBounds (off + 2) (.bool false)) T (0, 0))) → Hid (Only (fun k => k = x) w w') → wpList Try.prog ops Q rest (a.put o.dst undef) w') : wpList Try.prog ops Q (o :: rest) a w := by
  refine wpList_plain hgd fun K hK => ?_
  have c0 : w.cell? ⟨x, off, none⟩ = _ := cellAt hg (Array.getElem?_eq_getElem (by omega))
  have c1 : w.cell? ⟨x, off + 1, none⟩ = _ := cellAt hg (Array.getElem?_eq_getElem (by omega))
  have c2 : w.cell? ⟨x, off + 2, none⟩ = _ := cellAt hg (Array.getElem?_eq_getElem (by omega))
  have f0 := freeAt off hg
  have f1 := freeAt (off + 1) hg
  have f2 := freeAt (off + 2) hg
  have hw := h _ (setCell_get (o := off + 2) (u := .bool false) (setCell_get (o := off + 1) (u := .int .i64 q.2) (setCell_get (o := off) (u := .int .i64 q.1) hg))) (((Only.set w x off (.int .i64 q.1)).trans (Only.set _ x (off + 1) (.int .i64 q.2))).trans (Only.set _ x (off + 2) (.bool false)))
  obtain ⟨q1, q2⟩ := q
  unfold Oper.wp execOp
  simp only [ho, hd, hs]
  clear hd hs ho
  go_simp
  exact hK _ _ hw
/-- x.l[l:h], l below the end. -/
theorem arr_lh' (p l h : Nat) (hl : l ≤ h) (hh : h ≤ 64) (h64 : l < 64) (W : World) : (Instr.sliceAt 105 (.pointer (some ⟨p, 1, none⟩)) (some (.int .i64 (l : Int))) (some (.int .i64 (h : Int))) none).run Try.prog W = .ok (.slice (some ⟨p, 1 + l * 3, none⟩) (h - l) (64 - l)) W := by
  rw [arr_lh p l h hl hh W, if_neg (by omega)]
theorem arr_lhE (p l h : Nat) (hl : l ≤ h) (hh : h ≤ 64) : ∃ off, (l = 64 ∧ off = 1 ∨ off = 1 + l * 3) ∧ ∀ W, (Instr.sliceAt 105 (.pointer (some ⟨p, 1, none⟩)) (some (.int .i64 (l : Int))) (some (.int .i64 (h : Int))) none).run Try.prog W = .ok (.slice (some ⟨p, off, none⟩) (h - l) (64 - l)) W := by
  by_cases h64 : l = 64
  · exact ⟨1, .inl ⟨h64, rfl⟩, fun W => by rw [arr_lh p l h hl hh W, if_pos h64]⟩
  · exact ⟨1 + l * 3, .inr rfl, fun W => by rw [arr_lh p l h hl hh W, if_neg h64]⟩
/-- What Put leaves. -/
def PutW (w : World) (F : Nat → Prop) (b : Nat) (P' : List Pt) (fl : Int) (w' : World) : Prop :=
  ∃ Z v, BufC w' (fun k => F k ∨ w.heap.size ≤ k) b Z v fl P'.length ∧ Good (Z.map (·.2)) ∧ P' = (Z.map (·.2)).flatten ∧ Only F w w'
abbrev NewF (w : World) (F : Nat → Prop) (k : Nat) : Prop := F k ∨ w.heap.size ≤ k
section
variable {w w' : World} {F : Nat → Prop} {b n : Nat} {Z : List Blk} {v : Value} {fl : Int} {P : List Pt}
theorem put_end {w wc w4 : World} {i x k n1 xn : Nat} {X : List Pt} {t m : Int} {c0 : Array Value} {off : Nat} (HC : BufC wc (NewF w F) b Z v fl n) (hi : i < Z.length) (hZ : Z[i] = (x, X)) (hB : BlkC c0 X) (hX : X.length = xn) (hx64 : xn < 64) (hk : k ≤ xn)
    (hoff : k + 1 = 64 ∧ off = 1 ∨ off = 1 + (k + 1) * 3) (hbx : b ≠ x) (ho : Only (fun k => k = x) wc w4) {n' : Nat} (hn' : n' = xn + 1)
    (h4 : w4.heap[x]? = some (.cells ((((c0.toList.take off ++ pcs (X.drop k) ++ c0.toList.drop (off + (pcs (X.drop k)).length)).toArray.setIfInBounds (1 + k * 3) (.int .i64 t)).setIfInBounds (1 + k * 3 + 1) (.int .i64 m)).setIfInBounds (1 + k * 3 + 2) (.bool false)) 107 (0, 0))) :
    BufC ((w4.setCell ⟨x, 0, none⟩ (.int .i64 (n' : Int))).setCell ⟨b, 3, none⟩ (.int .i64 (n1 : Int))) (NewF w F) b (Z.set i (x, X.take k ++ (t, m) :: X.drop k)) v fl n1 ∧
    Only (fun k => k = b ∨ k = x) wc ((w4.setCell ⟨x, 0, none⟩ (.int .i64 (n' : Int))).setCell ⟨b, 3, none⟩ (.int .i64 (n1 : Int))) := by
  have hP := hB.put (by omega) (show k ≤ X.length by omega) (t, m) (off := off) (by rcases hoff with ⟨_, h⟩ | h <;> omega) (by rcases hoff with ⟨h, _⟩ | h; exact .inl (by omega); exact .inr h) n' (by omega)
  have hO : Only (fun k => k = b ∨ k = x) wc ((w4.setCell ⟨x, 0, none⟩ (.int .i64 (n' : Int))).setCell ⟨b, 3, none⟩ (.int .i64 (n1 : Int))) :=
    ((ho.mono (fun i _ h => .inr h)).trans ((Only.set w4 x 0 _).mono (fun i _ h => .inr h))).trans ((Only.set _ b 3 _).mono (fun i _ h => .inl h))
  have hb4 : w4.heap[b]? = _ := ho.get HC.buf hbx
  exact ⟨HC.one hi hZ (setCell_get (setCell_other hb4 hbx)) (setCell_other (setCell_get h4) (fun e => hbx e.symm)) hP hO, hO⟩
set_option maxRecDepth 100000 in
set_option maxHeartbeats 4000000 in
theorem bPut_room {i x : Nat} {X : List Pt} (t m : Int) (h1 : 1 ≤ t) (h2 : t ≤ 1099511627776) (h3 : fl < t) (h : BufC w F b Z v fl n) (hG : Good (Z.map (·.2))) (hn : (Z.map (·.2)).flatten.length = n) (hL : n < 65536)
    (hT : hasT t (Z.map (·.2)).flatten = false) (hi : i < Z.length) (hZ : Z[i] = (x, X)) (hat : atK t (tms (heads (Z.map (·.2)))) = i) (hX : X.length < 64) :
    Calls Try.prog 29 #[bptr b, .int .i64 t, .int .i64 m] w fun e w' => e = .returned (.int .i64 0) ∧ PutW w F b (insP (t, m) (Z.map (·.2)).flatten) fl w' := by
  have hzne : Z ≠ [] := fun e => by rw [e] at hi; simp at hi
  have hzl := good_len hG
  obtain ⟨g, o, c, rfl, z1, z2, z3, z4⟩ := h.form hzne
  have CR := Lib.hid (bright_any h)
  have CA := Lib.hid (bAt_any t (P := (Z.map (·.2)).flatten) ⟨Z, _, by rw [hn]; exact h, hG, rfl, by omega⟩)
  have hat0 : atP t (Z.map (·.2)).flatten = (0, false) := by rw [atP_has hG.rise, hT]; rfl
  rw [hat0] at CA
  have d1 := cellAt (o := 1) (v := .slice (some ⟨g, o, none⟩) Z.length c) h.buf rfl
  have d2 := cellAt (o := 2) (v := .int .i64 fl) h.buf rfl
  have d3 := cellAt (o := 3) (v := .int .i64 (n : Int)) h.buf rfl
  have e1 : ¬ t < 1 := by omega
  have e2 : ¬ 1099511627776 < t := by omega
  have e3 : ¬ t ≤ fl := by omega
  have e4 : ¬ (n : Int) = 65536 := by omega
  have e5 : ¬ (Z.length : Int) = 0 := by omega
  have e6 : ¬ (X.length : Int) = 64 := by omega
  have HI := Lib.hid h
  have HGd := Lib.hid hG
  have HZi := Lib.hid hZ
  have HXL := Lib.hid hX
  have hXr : Rise X := hG.split.1 X (List.mem_map.2 ⟨_, hZ ▸ List.getElem_mem hi, rfl⟩)
  have HR := Lib.hid hXr
  have HAT := Lib.hid hat
  have Hz4 := Lib.hid (z4 i hi)
  rw [hZ] at Hz4
  have HQ0 : Hid (∀ w', BufC w' (NewF w F) b (Z.set i (x, X.take (cntLt t (tms X)) ++ (t, m) :: X.drop (cntLt t (tms X)))) (.slice (some ⟨g, o, none⟩) Z.length c) fl (n + 1) → Only F w w' → PutW w F b (insP (t, m) (Z.map (·.2)).flatten) fl w') := Lib.hid (by
    intro w' hB hO
    subst hat
    obtain ⟨hk, l1, l2, l3⟩ := locate t hG (by simpa using hzne)
    have hBk : (Z.map (·.2))[atK t (tms (heads (Z.map (·.2))))] = X := by rw [List.getElem_map]; exact congrArg Prod.snd hZ
    have hTX : hasT t X = false := by
      have := hT
      rw [flat_at _ hk, hasT_mid l1 l2, hBk] at this
      exact this
    have hins := ins_cut (q := (t, m)) hXr hTX
    have hset : (Z.set (atK t (tms (heads (Z.map (·.2))))) (x, X.take (cntLt t (tms X)) ++ (t, m) :: X.drop (cntLt t (tms X)))).map (·.2) = (Z.map (·.2)).set (atK t (tms (heads (Z.map (·.2))))) (insP (t, m) (Z.map (·.2))[atK t (tms (heads (Z.map (·.2))))]) := by
      rw [List.map_set, hBk, hins]
    have hlen : (insP (t, m) (Z.map (·.2)).flatten).length = n + 1 := by rw [ins_len hG.rise hT, hn]
    exact ⟨_, _, hlen ▸ hB, hset ▸ good_set hG hk l1 l2, hset ▸ ins_set hk l1 l2, hO⟩)
  have Hzl : Hid (Z.length ≤ 65536) := Lib.hid (by omega)
  clear h hG hZ hX hXr hat z4 hT hat0 hn z2
  obtain ⟨zl, hzz⟩ : ∃ zl, Z.length = zl := ⟨_, rfl⟩
  have HZZ := Lib.hid hzz
  rw [hzz] at d1 e5 z1
  clear hzz hzl
  go_enter Try.func29, Try.ntmps29
  go_wp2_with fail
  refine CR.out.mono ?_
  rintro e w1 ⟨rfl, rfl⟩
  go_wp2_with fail
  refine CA.out.mono ?_
  rintro e w1 ⟨rfl, hb1⟩
  have HW1 := Lib.hid hb1
  clear hb1 d1 d2 d3
  have HC : Hid (BufC w1 (NewF w F) b Z (.slice (some ⟨g, o, none⟩) Z.length c) fl n) := Lib.hid ((HI.out.below HW1.out).weak (fun k _ h => .inl h))
  have HO : Hid (Only F w w1) := Lib.hid (Only.of_below HW1.out)
  have d1 := cellAt (o := 1) (v := .slice (some ⟨g, o, none⟩) zl c) HC.out.buf (by rw [HZZ.out]; rfl)
  have d3 := cellAt (o := 3) (v := .int .i64 (n : Int)) HC.out.buf rfl
  have CT := Lib.hid (bat_L t HC.out HGd.out hzne Hzl.out)
  rw [HAT.out] at CT
  go_wp2_with fail
  refine CT.out.mono ?_
  rintro e w2 ⟨rfl, hb2⟩
  replace HC := Lib.hid (HC.out.below hb2)
  replace HO := Lib.hid (HO.out.trans (Only.of_below hb2))
  have HQ := HQ0
  have g1 := ((HW1.out.trans (hb2.mono HW1.out.size)).cell (p := ⟨g, o + i, none⟩) z3).trans Hz4.out
  clear d1 d3 hb2 CT HQ0 Hz4
  have d1 := cellAt (o := 1) (v := .slice (some ⟨g, o, none⟩) zl c) HC.out.buf (by rw [HZZ.out]; rfl)
  have hil : i < zl := by rw [← HZZ.out]; exact hi
  have hbl := (HC.out.blks _ (List.getElem_mem hi)).2
  rw [HZi.out] at hbl
  simp only at hbl
  have hfd := bfind_any t hbl HR.out
  obtain ⟨k, hk⟩ : ∃ k, cntLt t (tms X) = k := ⟨_, rfl⟩
  have hkl : k ≤ X.length := by have := cntLt_le t (tms X); rw [tms_len] at this; omega
  rw [hk] at hfd HQ
  have HFD := Lib.hid hfd
  obtain ⟨xn, hxn⟩ : ∃ xn, X.length = xn := ⟨_, rfl⟩
  have hx64 := HXL.out
  rw [hxn] at hkl hx64
  have HXN := Lib.hid hxn
  obtain ⟨c0, hc0, hB0⟩ := hbl
  have hbx : b ≠ x := by
    rintro rfl
    have e : (w2).heap[b]? = _ := HC.out.buf
    rw [hc0] at e; cases e
  have HC0 : Hid ((w2).heap[x]? = some (.cells c0 107 (0, 0))) := Lib.hid hc0
  have HB0 := Lib.hid hB0
  have HBF := Lib.hid HC.out.buf
  obtain ⟨k1, hk1⟩ : ∃ k1, k + 1 = k1 := ⟨_, rfl⟩
  obtain ⟨x1, hx1⟩ : ∃ x1, xn + 1 = x1 := ⟨_, rfl⟩
  obtain ⟨n1, hn1⟩ : ∃ n1, n + 1 = n1 := ⟨_, rfl⟩
  have hwk : IntKind.i64.wrap ((k : Int) + 1) = (k1 : Int) := by rw [IntKind.wrap_i64]; omega
  have hwx : IntKind.i64.wrap ((xn : Int) + 1) = (x1 : Int) := by rw [IntKind.wrap_i64]; omega
  have hwn : IntKind.i64.wrap ((n : Int) + 1) = (n1 : Int) := by rw [IntKind.wrap_i64]; omega
  obtain ⟨off, hoff, hcut1⟩ := arr_lhE x k1 x1 (by omega) (by omega)
  have hcut2 := arr_lh' x k xn hkl (by omega) (by omega)
  have HK1 := Lib.hid hk1
  have HX1 := Lib.hid hx1
  have HN1 := Lib.hid hn1
  have HOF := Lib.hid hoff
  have hk64 : (k : Int) < 64 := by omega
  have hxb : x ≠ b := fun e => hbx e.symm
  clear hfd hk hxn hc0 hB0 hk1 hx1 hn1 hoff
  have g2 := cellAt (o := 0) HC0.out HB0.out.n
  rw [HXN.out] at g2
  have e7 : ¬ (xn : Int) = 64 := by omega
  go_wp2_with fail
  clear d1 g1 g2
  refine HFD.out.mono ?_
  rintro e wd ⟨rfl, hbd⟩
  have HBd := Lib.hid hbd
  have HCd := Lib.hid (keepB HC0.out hbd)
  have HFd := Lib.hid (keepB HBF.out hbd)
  clear hbd
  have q0 := cellAt (o := 0) HCd.out HB0.out.n
  rw [HXN.out] at q0
  go_wp2_with fail
  refine wp_region_here 20 [(0, false), (1, false), (2, false), (3, false), (4, false), (5, false), (6, false), (7, false), (8, false), (9, false), (10, false), (11, false), (12, false), (13, false), (14, false), (15, false), (16, false), (17, false), (18, false), (19, false)] (fun _ => .cells #[] 0) (by kernel_rfl) (by kernel_rfl) ?_
  repeat (first | (refine wpP_q rfl rfl rfl ?_; apply Exists.intro; refine ⟨fun w' hw' => ?_, fun K hK => ?_⟩; (focus ((have q1 := cellAt (o := 0) (keepB HCd.out hw') HB0.out.n; rw [HXN.out] at q1); go_simp; first | exact quiet_value | fail)); simp only [Act.put, List.setIfInBounds_toArray, List.set_cons_zero, List.set_cons_succ]; refine hK.out _ ?_; clear hK K) | (refine wpP_skip rfl rfl rfl (fun K hK => ?_); simp only [Act.put, List.setIfInBounds_toArray, List.set_cons_zero, List.set_cons_succ]; refine hK.out _ ?_; clear hK K))
  refine wpP_nil ?_
  intro we hbe
  have HBe := Lib.hid (HBd.out.trans (hbe.mono HBd.out.size))
  have HCe := Lib.hid (keepB HCd.out hbe)
  clear hbe
  (try simp only [List.drop_succ_cons]); (try simp only [List.drop_zero]); (try simp only [List.drop_nil])
  refine wpL_copyP rfl _ _ rfl x off (x1 - k1) (64 - k1) ⟨x, 1 + k * 3, none⟩ (xn - k) (64 - k) rfl rfl c0 _ HCe.out (pcs (X.drop k)) ?hn ?hs ?hf (pcs_one _) ?_
  case hn =>
    have e : Nat.min (xn - k) (x1 - k1) = xn - k := Nat.min_eq_left (by have := HK1.out; have := HX1.out; omega)
    rw [pcs_len, List.length_drop, HXN.out, e]
  case hs =>
    intro j u hj
    rw [add_mk, Nat.add_assoc]
    rw [← pcs_drop, List.getElem?_drop] at hj
    exact cellAt HCe.out (HB0.out.get hj)
  case hf =>
    rw [pcs_len, List.length_drop, HXN.out, HB0.out.size]
    have := HK1.out
    rcases HOF.out with ⟨_, h⟩ | h <;> omega
  intro wf HCf HOf
  have HOf' := Lib.hid ((Only.of_below HBe.out).trans HOf.out)
  go_wp2_with fail
  refine wp_region_here 9 [(0, false), (1, false), (2, false), (3, false), (4, false), (5, false), (6, false), (7, false), (8, false)] (fun _ => .cells #[] 0) (by kernel_rfl) (by kernel_rfl) ?_
  repeat (first | (refine wpP_q rfl rfl rfl ?_; apply Exists.intro; refine ⟨fun w' hw' => ?_, fun K hK => ?_⟩; (focus ((skip); go_simp; first | exact quiet_value | first | with_reducible exact quiet_enter (bof_any _ _))); simp only [Act.put, List.setIfInBounds_toArray, List.set_cons_zero, List.set_cons_succ]; refine hK.out _ ?_; clear hK K) | (refine wpP_skip rfl rfl rfl (fun K hK => ?_); simp only [Act.put, List.setIfInBounds_toArray, List.set_cons_zero, List.set_cons_succ]; refine hK.out _ ?_; clear hK K))
  refine wpP_nil ?_
  intro wg hbg
  have HCg := Lib.hid (keepB HCf.out hbg)
  have HOg := Lib.hid (HOf'.out.trans (Only.of_below hbg))
  clear hbg
  (try simp only [List.drop_succ_cons]); (try simp only [List.drop_zero]); (try simp only [List.drop_nil])
  refine wpL_storePt rfl _ _ rfl x (1 + k * 3) (t, m) rfl rfl _ _ HCg.out ?ht ?_
  case ht =>
    rw [List.size_toArray, splice_len (by rw [pcs_len, List.length_drop, HXN.out, Array.length_toList, HB0.out.size]; have := HK1.out; rcases HOF.out with ⟨_, h⟩ | h <;> omega), Array.length_toList, HB0.out.size]; omega
  intro wh HCh HOh
  have HOh' := Lib.hid (HOg.out.trans HOh.out)
  have HFh := Lib.hid (HOh'.out.get HBF.out hbx)
  have q2 := cellAt (o := 0) (v := .int .i64 (xn : Int)) HCh.out (by rw [set_get0, set_get0, set_get0, HB0.out.take0 (by rcases HOF.out with ⟨_, h⟩ | h <;> omega), HXN.out] <;> omega)
  have q3 := freeAt 0 HCh.out
  have q4 := cellAt (o := 3) (v := .int .i64 (n : Int)) HFh.out rfl
  have q5 := freeAt 3 HFh.out
  have R := put_end (n1 := n1) HC.out hi HZi.out HB0.out HXN.out hx64 hkl (by rw [HK1.out]; exact HOF.out) hbx HOh'.out HX1.out.symm HCh.out
  have R1 := Lib.hid R.1
  have R2 := Lib.hid R.2
  clear R
  go_wp2_with fail
  go_ret
  refine ⟨rfl, HQ.out _ ?_ ?_⟩
  · rw [HN1.out]; exact R1.out
  · refine HO.out.then R2.out (fun j hj h => ?_)
    rcases h with rfl | rfl
    · exact HC.out.inF.resolve_right (by omega)
    · have hf := (HC.out.blks _ (List.getElem_mem hi)).1
      rw [HZi.out] at hf
      exact hf.resolve_right (Nat.not_le.2 hj)
theorem BufC.own (h : BufC w F b Z v fl n) : v.ownBlock ≠ some b ∧ (∀ z ∈ Z, v.ownBlock ≠ some z.1) ∧ (∀ k, v.ownBlock = some k → F k ∧ k < w.heap.size) := by
  have hbx : w.heap[b]? = _ := h.buf
  rcases h.row.2 with ⟨rfl, _⟩ | ⟨g, o, c, cur, rfl, h2, h3, h4⟩
  · exact ⟨by simp [Value.ownBlock], fun z hz => by simp [Value.ownBlock], fun k e => by simp [Value.ownBlock] at e⟩
  · refine ⟨fun e => ?_, fun z hz e => ?_, fun k e => by cases e; exact ⟨h2, only_lt h3⟩⟩
    · cases e; rw [h3] at hbx; cases hbx
    · obtain ⟨c2, hc2, _⟩ := (h.blks z hz).2
      cases e; rw [h3] at hc2; cases hc2
theorem zero_blk {zA : Array Value} (h : zA = (.int .i64 0 :: zPts).toArray) : BlkC zA [] := by
  subst h
  exact BlkC.of_list (X := []) (rest := zPts) (by simp) (by rw [zPts_len]; rfl)
theorem first_blk {w w1 W2 w3 : World} {zA : Array Value} {v v' : Value} {Y : Nat} (h : BufC w1 F b [] v fl 0) (hw1 : Below w.heap.size w w1) (hW2 : Below w1.heap.size w1 W2) (hzA : zA = (.int .i64 0 :: zPts).toArray)
    (hY : W2.heap[Y]? = some (.cells zA 107 (0, 0))) (hYn : w1.heap.size ≤ Y) (hr : RowAt w3 (fun k => v.ownBlock = some k ∨ w1.heap.size ≤ k) 103 1 v' (0 + 1) (blkPtrs [] ++ [.pointer (some ⟨Y, 0, none⟩)])) (ho : Only (fun k => v.ownBlock = some k) W2 w3) :
    BufC (w3.setCell ⟨b, 1, none⟩ v') (NewF w F) b [(Y, [])] v' fl 0 ∧ Only F w (w3.setCell ⟨b, 1, none⟩ v') ∧ w3.heap[b]? = some (.cells (bufC v fl 0) 102 (0, 0)) ∧ (w3.setCell ⟨b, 1, none⟩ v').cell? ⟨Y, 1, none⟩ = some (.int .i64 0) := by
  obtain ⟨o1, o2, o3⟩ := h.own
  have hb3 : w3.heap[b]? = some (.cells (bufC v fl 0) 102 (0, 0)) := ho.get (keepB h.buf hW2) o1
  have hbl : b < w1.heap.size := only_lt h.buf
  have hYb : Y ≠ b := by omega
  have hzw := hw1.size
  have hY3 : w3.heap[Y]? = _ := ho.get hY (fun e => by have := (o3 Y e).2; omega)
  have hY4 := setCell_other (u := v') (o := 1) hY3 hYb
  refine ⟨⟨.inl h.inF, ?_, ?_, ?_, by simp⟩, ?_, hb3, ?_⟩
  · exact setCell_get hb3
  · have hr' : RowAt w3 (NewF w F) 103 1 v' (0 + 1) (blkPtrs [] ++ [.pointer (some ⟨Y, 0, none⟩)]) := hr.weak (fun k _ h => h.elim (fun e => .inl (o3 k e).1) (fun e => .inr (by omega)))
    refine hr'.keep' (Only.set w3 b 1 v') (fun k hk e => ?_)
    subst e
    rcases hr'.2 with ⟨rfl, h0⟩ | ⟨g, o, c, cur, rfl, h2, h3, h4⟩
    · cases hk
    · cases hk; rw [h3] at hb3; cases hb3
  · intro z hz
    simp only [List.mem_singleton] at hz
    subst hz
    exact ⟨.inr (by omega), zA, hY4, zero_blk hzA⟩
  · exact (((Only.of_below hw1).trans (Only.of_below (hW2.mono (by omega)))).then ho (fun i hi e => (o3 i e).1)).trans ((Only.set w3 b 1 v').mono (fun k _ e => e ▸ h.inF))
  · exact cellAt hY4 (by rw [hzA, List.getElem?_toArray, List.getElem?_cons_succ]; exact zPts_0)
set_option maxRecDepth 100000 in
set_option maxHeartbeats 4000000 in
theorem bPut_empty (t m : Int) (h1 : 1 ≤ t) (h2 : t ≤ 1099511627776) (h3 : fl < t) (h : BufC w F b [] v fl 0) :
    Calls Try.prog 29 #[bptr b, .int .i64 t, .int .i64 m] w fun e w' => e = .returned (.int .i64 0) ∧ PutW w F b (insP (t, m) []) fl w' := by
  have CR := Lib.hid (bright_any h)
  have CA := Lib.hid (bAt_any t (P := []) ⟨[], v, h, ⟨by simp, List.Pairwise.nil⟩, rfl, by simp⟩)
  rw [show atP t [] = (0, false) from rfl] at CA
  obtain ⟨A, c, rfl⟩ := h.noB
  have d1 := cellAt (o := 1) (v := .slice A 0 c) h.buf rfl
  have d2 := cellAt (o := 2) (v := .int .i64 fl) h.buf rfl
  have d3 := cellAt (o := 3) (v := .int .i64 0) h.buf rfl
  obtain ⟨zA, hzr, hzA⟩ := blk_zero
  obtain ⟨i0, hi0, hz0, hz1, hz2⟩ := info_parts bInfo
  have HZA := Lib.hid hzA
  have e1 : ¬ t < 1 := by omega
  have e2 : ¬ 1099511627776 < t := by omega
  have e3 : ¬ t ≤ fl := by omega
  have HI := Lib.hid h
  clear h hzA
  go_enter Try.func29, Try.ntmps29
  go_wp2_with fail
  refine CR.out.mono ?_
  rintro e w1 ⟨rfl, rfl⟩
  go_wp2_with fail
  refine CA.out.mono ?_
  rintro e w1 ⟨rfl, hb1⟩
  have HW1 := Lib.hid hb1
  clear hb1 d1 d2 d3
  have HC1 := Lib.hid (HI.out.below HW1.out)
  have d1 := cellAt (o := 1) (v := .slice A 0 c) HC1.out.buf rfl
  have d3 := cellAt (o := 3) (v := .int .i64 0) HC1.out.buf rfl
  have HB2 : Hid (Below w1.heap.size w1 ((w1.alloc (.cells zA 107)).alloc (.cells #[.pointer (some ⟨w1.heap.size, 0, none⟩)] 103))) := Lib.hid (below_alloc (below_alloc (Below.refl _ _) _) _)
  have HY2 : Hid (((w1.alloc (.cells zA 107)).alloc (.cells #[.pointer (some ⟨w1.heap.size, 0, none⟩)] 103)).heap[w1.heap.size]? = _) := Lib.hid (keepA (newB w1 (.cells zA 107)) _)
  have HH2 : Hid (((w1.alloc (.cells zA 107)).alloc (.cells #[.pointer (some ⟨w1.heap.size, 0, none⟩)] 103)).heap[w1.heap.size + 1]? = some (.cells #[.pointer (some ⟨w1.heap.size, 0, none⟩)] 103 (0, 0))) := Lib.hid (by have := newB (w1.alloc (.cells zA 107)) (.cells #[.pointer (some ⟨w1.heap.size, 0, none⟩)] 103); rwa [alloc_size] at this)
  go_wp2_with (at_builtin; go_loud (refine wpL_row _ rfl _ _ 100 rfl 103 i0 (.pointer none) 1 8 Try.underlying100 hi0 hz0 hz1 hz2 rfl F _ 0 (blkPtrs []) rfl (HC1.out.row.below HB2.out) ⟨w1.heap.size + 1, 0, none⟩ 1 1 [.pointer (some ⟨w1.heap.size, 0, none⟩)] rfl (by omega) rfl (one_new HH2.out) (one_one rfl) (by unfold maxLen; omega) (by omega) ?_))
  intro v' w3 hr' ho' _
  obtain ⟨f1, f2, f3, f4⟩ := first_blk HC1.out HW1.out HB2.out HZA.out HY2.out (Nat.le_refl _) (hr'.weak (fun k _ h => h.imp id (fun e => by omega))) ho'
  obtain ⟨A', c', rfl, _⟩ := hr'.form
  have q1 := cellAt (o := 1) (v := .slice A 0 c) f3 rfl
  have q2 := freeAt 1 f3
  have HC := Lib.hid f1
  have HO := Lib.hid f2
  have H4 := Lib.hid f4
  clear hr' ho' f1 f2 f3 f4 HB2 HY2 HH2 d1 d3
  go_wp2_with fail
  clear q1 q2
  generalize (World.setCell w3 _ _) = w4 at *
  have HATK : Hid (atK t [0] = 0) := Lib.hid (by
    have e : cntLt t [0] = 1 := by unfold cntLt; rw [List.countP_cons_of_pos (by simp; omega)]; rfl
    unfold atK; rw [e]; rfl)
  have CT := Lib.hid (bat_any t [0] HC.out (by simp) (by simp) rfl (fun i hi => by
    obtain rfl : i = 0 := by simpa using hi
    exact H4.out) (fun i j hij hj => by
    obtain rfl : j = 0 := by simpa using hj
    obtain rfl : i = 0 := by omega
    exact Int.le_refl _))
  rw [HATK.out] at CT
  refine CT.out.mono ?_
  rintro e w5 ⟨rfl, hb5⟩
  replace HC := Lib.hid (HC.out.below hb5)
  replace HO := Lib.hid (HO.out.trans (Only.of_below hb5))
  clear CT hb5 H4 HATK HI CR CA HC1
  obtain ⟨x, hY⟩ : ∃ Y, w1.heap.size = Y := ⟨_, rfl⟩
  obtain ⟨X, hXe⟩ : ∃ X : List Pt, X = [] := ⟨_, rfl⟩
  obtain ⟨n, hne⟩ : ∃ n : Nat, n = 0 := ⟨_, rfl⟩
  obtain ⟨g, o, cc, he, z1, z2, z3, z4⟩ := HC.out.form (by simp)
  have hio : A' = some ⟨g, o, none⟩ ∧ c' = cc := by simpa using he
  obtain ⟨rfl, rfl⟩ := hio
  have hi : 0 < ([(x, X)] : List Blk).length := by simp
  have g1 : w5.cell? ⟨g, o, none⟩ = some (.pointer (some ⟨x, 0, none⟩)) := by rw [← hY]; exact z4 0 (by simp)
  replace HC : Hid (BufC w5 (NewF w F) b [(x, X)] (.slice (some ⟨g, o, none⟩) 1 c') fl n) := Lib.hid (by rw [← hY, hXe, hne]; exact HC.out)
  have HZi : Hid (([(x, X)] : List Blk)[0] = (x, X)) := Lib.hid rfl
  have HR : Hid (Rise X) := Lib.hid (by rw [hXe]; exact List.Pairwise.nil)
  have HXL : Hid (X.length < 64) := Lib.hid (by rw [hXe]; simp)
  have HQ : Hid (∀ w', BufC w' (NewF w F) b (([(x, X)] : List Blk).set 0 (x, X.take (cntLt t (tms X)) ++ (t, m) :: X.drop (cntLt t (tms X)))) (.slice (some ⟨g, o, none⟩) 1 c') fl (n + 1) → Only F w w' → PutW w F b (insP (t, m) []) fl w') := Lib.hid (by
    intro w' hB hO
    rw [hXe, hne] at hB
    exact ⟨_, _, hB, ⟨by simp, by simp [Rise]⟩, by simp [insP], hO⟩)
  have hn5 : n ≤ 65536 := by omega
  clear hY hXe hne
  have d1 := cellAt (o := 1) (v := .slice (some ⟨g, o, none⟩) 1 c') HC.out.buf rfl
  clear he z1 z2 z3 z4
  have hbl := (HC.out.blks _ (List.getElem_mem hi)).2
  rw [HZi.out] at hbl
  simp only at hbl
  have hfd := bfind_any t hbl HR.out
  obtain ⟨k, hk⟩ : ∃ k, cntLt t (tms X) = k := ⟨_, rfl⟩
  have hkl : k ≤ X.length := by have := cntLt_le t (tms X); rw [tms_len] at this; omega
  rw [hk] at hfd HQ
  have HFD := Lib.hid hfd
  obtain ⟨xn, hxn⟩ : ∃ xn, X.length = xn := ⟨_, rfl⟩
  have hx64 := HXL.out
  rw [hxn] at hkl hx64
  have HXN := Lib.hid hxn
  obtain ⟨c0, hc0, hB0⟩ := hbl
  have hbx : b ≠ x := by
    rintro rfl
    have e : (w5).heap[b]? = _ := HC.out.buf
    rw [hc0] at e; cases e
  have HC0 : Hid ((w5).heap[x]? = some (.cells c0 107 (0, 0))) := Lib.hid hc0
  have HB0 := Lib.hid hB0
  have HBF := Lib.hid HC.out.buf
  obtain ⟨k1, hk1⟩ : ∃ k1, k + 1 = k1 := ⟨_, rfl⟩
  obtain ⟨x1, hx1⟩ : ∃ x1, xn + 1 = x1 := ⟨_, rfl⟩
  obtain ⟨n1, hn1⟩ : ∃ n1, n + 1 = n1 := ⟨_, rfl⟩
  have hwk : IntKind.i64.wrap ((k : Int) + 1) = (k1 : Int) := by rw [IntKind.wrap_i64]; omega
  have hwx : IntKind.i64.wrap ((xn : Int) + 1) = (x1 : Int) := by rw [IntKind.wrap_i64]; omega
  have hwn : IntKind.i64.wrap ((n : Int) + 1) = (n1 : Int) := by rw [IntKind.wrap_i64]; omega
  obtain ⟨off, hoff, hcut1⟩ := arr_lhE x k1 x1 (by omega) (by omega)
  have hcut2 := arr_lh' x k xn hkl (by omega) (by omega)
  have HK1 := Lib.hid hk1
  have HX1 := Lib.hid hx1
  have HN1 := Lib.hid hn1
  have HOF := Lib.hid hoff
  have hk64 : (k : Int) < 64 := by omega
  have hxb : x ≠ b := fun e => hbx e.symm
  clear hfd hk hxn hc0 hB0 hk1 hx1 hn1 hoff
  have g2 := cellAt (o := 0) HC0.out HB0.out.n
  rw [HXN.out] at g2
  have e7 : ¬ (xn : Int) = 64 := by omega
  go_wp2_with fail
  clear d1 g1 g2
  refine HFD.out.mono ?_
  rintro e wd ⟨rfl, hbd⟩
  have HBd := Lib.hid hbd
  have HCd := Lib.hid (keepB HC0.out hbd)
  have HFd := Lib.hid (keepB HBF.out hbd)
  clear hbd
  have q0 := cellAt (o := 0) HCd.out HB0.out.n
  rw [HXN.out] at q0
  go_wp2_with fail
  refine wp_region_here 20 [(0, false), (1, false), (2, false), (3, false), (4, false), (5, false), (6, false), (7, false), (8, false), (9, false), (10, false), (11, false), (12, false), (13, false), (14, false), (15, false), (16, false), (17, false), (18, false), (19, false)] (fun _ => .cells #[] 0) (by kernel_rfl) (by kernel_rfl) ?_
  repeat (first | (refine wpP_q rfl rfl rfl ?_; apply Exists.intro; refine ⟨fun w' hw' => ?_, fun K hK => ?_⟩; (focus ((have q1 := cellAt (o := 0) (keepB HCd.out hw') HB0.out.n; rw [HXN.out] at q1); go_simp; first | exact quiet_value | fail)); simp only [Act.put, List.setIfInBounds_toArray, List.set_cons_zero, List.set_cons_succ]; refine hK.out _ ?_; clear hK K) | (refine wpP_skip rfl rfl rfl (fun K hK => ?_); simp only [Act.put, List.setIfInBounds_toArray, List.set_cons_zero, List.set_cons_succ]; refine hK.out _ ?_; clear hK K))
  refine wpP_nil ?_
  intro we hbe
  have HBe := Lib.hid (HBd.out.trans (hbe.mono HBd.out.size))
  have HCe := Lib.hid (keepB HCd.out hbe)
  clear hbe
  (try simp only [List.drop_succ_cons]); (try simp only [List.drop_zero]); (try simp only [List.drop_nil])
  refine wpL_copyP rfl _ _ rfl x off (x1 - k1) (64 - k1) ⟨x, 1 + k * 3, none⟩ (xn - k) (64 - k) rfl rfl c0 _ HCe.out (pcs (X.drop k)) ?hn ?hs ?hf (pcs_one _) ?_
  case hn =>
    have e : Nat.min (xn - k) (x1 - k1) = xn - k := Nat.min_eq_left (by have := HK1.out; have := HX1.out; omega)
    rw [pcs_len, List.length_drop, HXN.out, e]
  case hs =>
    intro j u hj
    rw [add_mk, Nat.add_assoc]
    rw [← pcs_drop, List.getElem?_drop] at hj
    exact cellAt HCe.out (HB0.out.get hj)
  case hf =>
    rw [pcs_len, List.length_drop, HXN.out, HB0.out.size]
    have := HK1.out
    rcases HOF.out with ⟨_, h⟩ | h <;> omega
  intro wf HCf HOf
  have HOf' := Lib.hid ((Only.of_below HBe.out).trans HOf.out)
  go_wp2_with fail
  refine wp_region_here 9 [(0, false), (1, false), (2, false), (3, false), (4, false), (5, false), (6, false), (7, false), (8, false)] (fun _ => .cells #[] 0) (by kernel_rfl) (by kernel_rfl) ?_
  repeat (first | (refine wpP_q rfl rfl rfl ?_; apply Exists.intro; refine ⟨fun w' hw' => ?_, fun K hK => ?_⟩; (focus ((skip); go_simp; first | exact quiet_value | first | with_reducible exact quiet_enter (bof_any _ _))); simp only [Act.put, List.setIfInBounds_toArray, List.set_cons_zero, List.set_cons_succ]; refine hK.out _ ?_; clear hK K) | (refine wpP_skip rfl rfl rfl (fun K hK => ?_); simp only [Act.put, List.setIfInBounds_toArray, List.set_cons_zero, List.set_cons_succ]; refine hK.out _ ?_; clear hK K))
  refine wpP_nil ?_
  intro wg hbg
  have HCg := Lib.hid (keepB HCf.out hbg)
  have HOg := Lib.hid (HOf'.out.trans (Only.of_below hbg))
  clear hbg
  (try simp only [List.drop_succ_cons]); (try simp only [List.drop_zero]); (try simp only [List.drop_nil])
  refine wpL_storePt rfl _ _ rfl x (1 + k * 3) (t, m) rfl rfl _ _ HCg.out ?ht ?_
  case ht =>
    rw [List.size_toArray, splice_len (by rw [pcs_len, List.length_drop, HXN.out, Array.length_toList, HB0.out.size]; have := HK1.out; rcases HOF.out with ⟨_, h⟩ | h <;> omega), Array.length_toList, HB0.out.size]; omega
  intro wh HCh HOh
  have HOh' := Lib.hid (HOg.out.trans HOh.out)
  have HFh := Lib.hid (HOh'.out.get HBF.out hbx)
  have q2 := cellAt (o := 0) (v := .int .i64 (xn : Int)) HCh.out (by rw [set_get0, set_get0, set_get0, HB0.out.take0 (by rcases HOF.out with ⟨_, h⟩ | h <;> omega), HXN.out] <;> omega)
  have q3 := freeAt 0 HCh.out
  have q4 := cellAt (o := 3) (v := .int .i64 (n : Int)) HFh.out rfl
  have q5 := freeAt 3 HFh.out
  have R := put_end (n1 := n1) HC.out hi HZi.out HB0.out HXN.out hx64 hkl (by rw [HK1.out]; exact HOF.out) hbx HOh'.out HX1.out.symm HCh.out
  have R1 := Lib.hid R.1
  have R2 := Lib.hid R.2
  clear R
  go_wp2_with fail
  go_ret
  refine ⟨rfl, HQ.out _ ?_ ?_⟩
  · rw [HN1.out]; exact R1.out
  · refine HO.out.then R2.out (fun j hj h => ?_)
    rcases h with rfl | rfl
    · exact HC.out.inF.resolve_right (by omega)
    · have hf := (HC.out.blks _ (List.getElem_mem hi)).1
      rw [HZi.out] at hf
      exact hf.resolve_right (Nat.not_le.2 hj)
end
end Go.Proofs.Ytangcgfchalnaaa
