/- A queue: First, Take. -/
import Derived.Test.YtjnkcgegmffncaaQuO
namespace Go.Proofs.Ytjnkcgegmffncaa
open Go.RowKit
theorem smI_bd {x : ItC} (h : smI x) : x.2.2.1.length ≤ 1000000 ∧ x.2.2.2.2.2.2.2.length ≤ 1000000 ∧ ∀ c ∈ x.2.2.2.2.2.2.2, c.1.length ≤ 1000000 := by
  obtain ⟨⟨h1, h2, _⟩, _, h3, h4⟩ := h
  exact ⟨by omega, by omega, fun c hc => by have := (h4 c hc).1.1; omega⟩
theorem it_bd {k : Int} {m : ByteArray} {la : Option Addr} {lc : Nat} {L : List Lb} {t n tm bt : Int} {ca : Option Addr} {cc : Nat} {C : List Cg} {y : ItC} (h : itC (k, m, (la, lc, L), t, n, tm, bt, ca, cc, C) = y) (hs : smI y) : L.length ≤ 1000000 ∧ C.length ≤ 1000000 ∧ ∀ x ∈ C, x.1.2.2.length ≤ 1000000 := by
  subst h
  have := smI_bd hs
  simp only [itC, List.length_map, List.mem_map, forall_exists_index, and_imp, forall_apply_eq_imp_iff₂] at this
  exact this
/-- An item that is told. -/
abbrev itA (x : It) : Value := .agg #[.int .i64 x.1, .string x.2.1, lsV x.2.2.1, .int .i64 x.2.2.2.1, .int .i64 x.2.2.2.2.1, .int .i64 x.2.2.2.2.2.1, .int .i64 x.2.2.2.2.2.2.1, .slice x.2.2.2.2.2.2.2.1 x.2.2.2.2.2.2.2.2.2.length x.2.2.2.2.2.2.2.2.1]
def ItTold (x : ItC) (y : It) (w w' : World) : Prop := itC y = x ∧ ItIn w' (fun k => w.heap.size ≤ k) y.2.2.1.1 y.2.2.1.2.2 y.2.2.2.2.2.2.2.1 y.2.2.2.2.2.2.2.2.2 ∧ Below w.heap.size w w'
def FirstP (x : ItC) (w : World) (e : Ending) (w' : World) : Prop := ∃ y : It, e = .returned (.tuple #[itA y, .bool true]) ∧ ItTold x y w w'
/-- A slot of the ring, in the walk's spelling. -/
theorem slot_cells {w : World} {r s : Nat} {c : Array Value} {T : TypeId} {k t n tm bt : Int} {m : ByteArray} {la ca : Option Addr} {lc cc : Nat} {L : List Lb} {C : List Cg} (h : SlotAt c s (k, m, (la, lc, L), t, n, tm, bt, ca, cc, C)) (hg : w.heap[r]? = some (.cells c T (0, 0))) :
    w.cell? ⟨r, s * 8, none⟩ = some (.int .i64 k) ∧ w.cell? ⟨r, s * 8 + 1, none⟩ = some (.string m) ∧ w.cell? ⟨r, s * 8 + 2, none⟩ = some (.slice la L.length lc) ∧ w.cell? ⟨r, s * 8 + 3, none⟩ = some (.int .i64 t) ∧
    w.cell? ⟨r, s * 8 + 4, none⟩ = some (.int .i64 n) ∧ w.cell? ⟨r, s * 8 + 5, none⟩ = some (.int .i64 tm) ∧ w.cell? ⟨r, s * 8 + 6, none⟩ = some (.int .i64 bt) ∧ w.cell? ⟨r, s * 8 + 7, none⟩ = some (.slice ca C.length cc) :=
  ⟨cellAt hg (h 0 (by decide)), cellAt hg (h 1 (by decide)), cellAt hg (h 2 (by decide)), cellAt hg (h 3 (by decide)), cellAt hg (h 4 (by decide)), cellAt hg (h 5 (by decide)), cellAt hg (h 6 (by decide)), cellAt hg (h 7 (by decide))⟩
/-- An item just made by own. -/
def FrI (k : Int) (m : ByteArray) (L : List Lb) (t n tm bt : Int) (C : List Cg) (ln cn : Nat) (w : World) (v : Value) (W : World) : Prop :=
  ∃ la lc ca cc P, v = .agg #[.int .i64 k, .string m, .slice la ln lc, .int .i64 t, .int .i64 n, .int .i64 tm, .int .i64 bt, .slice ca cn cc] ∧ P.length = cn ∧ P.map cgC = C.map cgC ∧ ItIn W (fun i => w.heap.size ≤ i) la L ca P
theorem FrI.stab (k : Int) (m : ByteArray) (L : List Lb) (t n tm bt : Int) (C : List Cg) (ln cn : Nat) (w : World) (v : Value) : Stab (FrI k m L t n tm bt C ln cn w v) := fun _ _ ⟨la, lc, ca, cc, P, h1, h2, h3, h4⟩ hb => ⟨la, lc, ca, cc, P, h1, h2, h3, h4.below hb⟩
theorem only8 (w : World) (b o : Nat) (v0 v1 v2 v3 v4 v5 v6 v7 : Value) : Only (fun i => i = b) w ((((((((w.setCell ⟨b, o, none⟩ v0).setCell ⟨b, o + 1, none⟩ v1).setCell ⟨b, o + 2, none⟩ v2).setCell ⟨b, o + 3, none⟩ v3).setCell ⟨b, o + 4, none⟩ v4).setCell ⟨b, o + 5, none⟩ v5).setCell ⟨b, o + 6, none⟩ v6).setCell ⟨b, o + 7, none⟩ v7) :=
  (((((((Only.set w b o v0).trans (Only.set _ b (o + 1) v1)).trans (Only.set _ b (o + 2) v2)).trans (Only.set _ b (o + 3) v3)).trans (Only.set _ b (o + 4) v4)).trans (Only.set _ b (o + 5) v5)).trans (Only.set _ b (o + 6) v6)).trans (Only.set _ b (o + 7) v7)
/-- An item is stored: the world behind a letter. -/
theorem wpL_storeIt {w : World} {ops : Array Oper} {rest : List Oper} {o : Oper} {a : Act} {Q : Exit → Act → World → Prop} (hgd : o.guard = none) (d s : Operand)
    (ho : o.op = .store 38 d s) (x off : Nat) (k : Int) (m : ByteArray) (la : Option Addr) (ln lc : Nat) (t n tm bt : Int) (ca : Option Addr) (cn cc : Nat) (hd : a.eval d = .pointer (some ⟨x, off, none⟩)) (hs : a.eval s = .agg #[.int .i64 k, .string m, .slice la ln lc, .int .i64 t, .int .i64 n, .int .i64 tm, .int .i64 bt, .slice ca cn cc]) (c : Array Value) (T : TypeId) (hg : w.heap[x]? = some (.cells c T (0, 0))) (hsz : off + 7 < c.size)
    (h : ∀ w', Hid (w'.heap[x]? = some (.cells (put8 c off (.int .i64 k) (.string m) (.slice la ln lc) (.int .i64 t) (.int .i64 n) (.int .i64 tm) (.int .i64 bt) (.slice ca cn cc)) T (0, 0))) → Hid (Only (fun k => k = x) w w') → wpList Try.prog ops Q rest (a.put o.dst undef) w') : wpList Try.prog ops Q (o :: rest) a w := by
  refine wpList_plain hgd fun K hK => ?_
  have c0 : w.cell? ⟨x, off, none⟩ = _ := cellAt hg (Array.getElem?_eq_getElem (by omega))
  have c1 : w.cell? ⟨x, off + 1, none⟩ = _ := cellAt hg (Array.getElem?_eq_getElem (by omega))
  have c2 : w.cell? ⟨x, off + 2, none⟩ = _ := cellAt hg (Array.getElem?_eq_getElem (by omega))
  have c3 : w.cell? ⟨x, off + 3, none⟩ = _ := cellAt hg (Array.getElem?_eq_getElem (by omega))
  have c4 : w.cell? ⟨x, off + 4, none⟩ = _ := cellAt hg (Array.getElem?_eq_getElem (by omega))
  have c5 : w.cell? ⟨x, off + 5, none⟩ = _ := cellAt hg (Array.getElem?_eq_getElem (by omega))
  have c6 : w.cell? ⟨x, off + 6, none⟩ = _ := cellAt hg (Array.getElem?_eq_getElem (by omega))
  have c7 : w.cell? ⟨x, off + 7, none⟩ = _ := cellAt hg (Array.getElem?_eq_getElem (by omega))
  have f0 := freeAt off hg
  have f1 := freeAt (off + 1) hg
  have f2 := freeAt (off + 2) hg
  have f3 := freeAt (off + 3) hg
  have f4 := freeAt (off + 4) hg
  have f5 := freeAt (off + 5) hg
  have f6 := freeAt (off + 6) hg
  have f7 := freeAt (off + 7) hg
  have hw := h _ (setCell_get (o := off + 7) (u := .slice ca cn cc) (setCell_get (o := off + 6) (u := .int .i64 bt) (setCell_get (o := off + 5) (u := .int .i64 tm) (setCell_get (o := off + 4) (u := .int .i64 n) (setCell_get (o := off + 3) (u := .int .i64 t) (setCell_get (o := off + 2) (u := .slice la ln lc) (setCell_get (o := off + 1) (u := .string m) (setCell_get (o := off) (u := .int .i64 k) hg)))))))) (only8 w x off _ _ _ _ _ _ _ _)
  unfold Oper.wp execOp
  simp only [ho, hd, hs]
  clear hd hs ho
  go_simp
  exact hK _ _ hw
section
variable {w : World} {F : Nat → Prop} {q N : Nat} {Q Qr : List ItC} {x0 : ItC}
set_option maxHeartbeats 4000000 in
set_option maxRecDepth 100000 in
theorem qfirst_some (h : QuO q N (x0 :: Qr) w F) : Calls Try.prog 8 #[qptr q] w (FirstP x0 w) := by
  have HA := Lib.hid (below_alloc (Below.refl w.heap.size w) (Obj.cells #[.int .i64 0, .string ⟨#[]⟩, .slice none 0 0, .int .i64 0, .int .i64 0, .int .i64 0, .int .i64 0, .slice none 0 0] 38))
  have HZ := Lib.hid (newB w (Obj.cells #[.int .i64 0, .string ⟨#[]⟩, .slice none 0 0, .int .i64 0, .int .i64 0, .int .i64 0, .int .i64 0, .slice none 0 0] 38))
  have CR := Lib.hid (qright_any ((QuO.obj _ _ _).below h HA.out))
  obtain ⟨r, a, c, h⟩ := h
  obtain ⟨⟨k, m, ⟨la, lc, L⟩, t, n, tm, bt, ca, cc, C⟩, hs, hx, hin⟩ := h.its 0 (by simp)
  simp only [List.getElem_cons_zero] at hx
  rw [Nat.add_zero, Nat.mod_eq_of_lt h.lt] at hs
  obtain ⟨b1, b2, b3⟩ := it_bd hx (h.sm x0 (by simp))
  simp only at hin
  have CO := Lib.hid (fun W (hb : Below w.heap.size w W) => own_any (k := k) (m := m) (t := t) (n := n) (tm := tm) (bt := bt) (lc := lc) (cc := cc) rfl (RdLb.below hin.lab hb) (hin.chg.below hb) b1 b2 b3)
  obtain ⟨qn, hqn⟩ : ∃ n, (x0 :: Qr).length = n := ⟨_, rfl⟩
  have hn0 : ((qn : Int) == 0) = false := beq_ne (by rw [← hqn, List.length_cons]; omega)
  have K0 := Lib.hid (fun (W : World) (hb : Below w.heap.size w W) => cellAt (o := 0) (v := .slice (some ⟨r, 0, none⟩) N N) (keepB h.que hb) rfl)
  have K1 := Lib.hid (fun (W : World) (hb : Below w.heap.size w W) => cellAt (o := 1) (v := .int .i64 (a : Int)) (keepB h.que hb) rfl)
  have K2 := Lib.hid (fun (W : World) (hb : Below w.heap.size w W) => cellAt (o := 2) (v := .int .i64 (qn : Int)) (keepB h.que hb) (by rw [← hqn]; rfl))
  have KS := Lib.hid (fun (W : World) (hb : Below w.heap.size w W) => slot_cells hs (keepB h.ring hb))
  have haN : (a : Int) < (N : Int) := by have := h.lt; omega
  have haN2 : a < N := h.lt
  have HX := Lib.hid hx
  have HSz := Lib.hid (rfl : w.heap.size = w.heap.size)
  obtain ⟨l1, hl1⟩ : ∃ n, L.length = n := ⟨_, rfl⟩
  obtain ⟨l2, hl2⟩ : ∃ n, C.length = n := ⟨_, rfl⟩
  rw [hl1, hl2] at KS CO
  have HL1 := Lib.hid hl1
  have HL2 := Lib.hid hl2
  have k2 := K2.out _ HA.out
  clear h hs hx hin b1 b2 b3 hqn hl1 hl2
  go_enter Try.func8, Try.ntmps8
  go_wp2_with fail
  refine CR.out.mono ?_
  rintro e w1 ⟨rfl, rfl⟩
  go_wp2_with fail
  clear k2 CR
  obtain ⟨w1, hw1⟩ : ∃ w1, w.alloc (Obj.cells #[.int .i64 0, .string ⟨#[]⟩, .slice none 0 0, .int .i64 0, .int .i64 0, .int .i64 0, .int .i64 0, .slice none 0 0] 38) = w1 := ⟨_, rfl⟩
  rw [hw1] at HA HZ ⊢
  clear hw1
  obtain ⟨z, hz⟩ : ∃ z, w.heap.size = z := ⟨_, rfl⟩
  have HZe := Lib.hid hz
  rw [hz] at HZ ⊢
  clear hz
  refine wp_region_fork 11 (.q 0 (.q 1 (.q 2 (.q 3 (.q 4 (.q 5 (.q 6 (.q 7 (.q 8 (.q 9 (.alt 10 .nil .stop))))))))))) (Below w1.heap.size w1) Triv (by kernel_rfl) (by kernel_rfl) (Stab.below _ _ (Nat.le_refl _)) Triv.stab ((Below.refl _ _).drew) (triv _) ?_
  repeat (first | (refine wf_q rfl rfl ?_; apply Exists.intro; refine ⟨fun w' hw' => ?_, fun K hK => ?_⟩; (focus ((have hB := HA.out.trans (hw'.mono HA.out.size); have k0 := K0.out _ hB; have k1 := K1.out _ hB; obtain ⟨s0, s1, s2, s3, s4, s5, s6, s7⟩ := KS.out _ hB); go_simp; first | exact quiet_value | fail)); simp only [Act.put, List.setIfInBounds_toArray, List.set_cons_zero, List.set_cons_succ]; refine hK.out _ ?_; clear hK K) | (refine wf_skip rfl rfl (fun K hK => ?_); simp only [Act.put, List.setIfInBounds_toArray, List.set_cons_zero, List.set_cons_succ]; refine hK.out _ ?_; clear hK K) | (refine wf_skipu rfl rfl (fun K hK => ?_); simp only [Act.put, List.setIfInBounds_toArray, List.set_cons_zero, List.set_cons_succ]; refine hK.out _ ?_; clear hK K))
  refine wf_step (FrI k m L t n tm bt C l1 l2 w1) (fun _ => Triv) (FrI.stab _ _ _ _ _ _ _ _ _ _ _) (fun _ => Triv.stab) rfl rfl (fun w' hc hd => ?_) (fun K hK v => ?_) wf_stop
  focus
    have HC := Lib.hid hc
    clear hc hd
    go_simp
    refine st_enter ?_
    exact (CO.out _ (HA.out.trans (HC.out.mono HA.out.size))).mono fun e W' ⟨la', lc', ca', cc', P, h1, h2, h3, h4, h5⟩ => ⟨_, h1, HC.out.trans (h5.mono HC.out.size), ⟨la', lc', ca', cc', P, rfl, h2, h3, h4.weak (fun i _ hi => Nat.le_trans HC.out.size hi)⟩, triv _⟩
  simp only [Act.put, List.setIfInBounds_toArray, List.set_cons_zero, List.set_cons_succ]
  refine hK.out _ _ _ ?_
  clear hK K
  refine wf_nil ?_
  rintro w6 ⟨hb6, la', lc', ca', cc', P, rfl, p1, p2, p3⟩ _
  have HZ6 := Lib.hid (keepB HZ.out hb6)
  have HB6 := Lib.hid (HA.out.trans (hb6.mono HA.out.size))
  have HP := Lib.hid (And.intro p1 (And.intro p2 p3))
  have HS6 := Lib.hid hb6.size
  have HZlt := Lib.hid (only_lt HZ.out)
  clear hb6 p1 p2 p3 HZ
  (try simp only [List.drop_succ_cons]); (try simp only [List.drop_zero]); (try simp only [List.drop_nil])
  have r0 := cellAt (o := 0) HZ6.out rfl
  have r1 := cellAt (o := 1) HZ6.out rfl
  have r2 := cellAt (o := 2) HZ6.out rfl
  have r3 := cellAt (o := 3) HZ6.out rfl
  have r4 := cellAt (o := 4) HZ6.out rfl
  have r5 := cellAt (o := 5) HZ6.out rfl
  have r6 := cellAt (o := 6) HZ6.out rfl
  have r7 := cellAt (o := 7) HZ6.out rfl
  have f0 := freeAt 0 HZ6.out
  have f1 := freeAt 1 HZ6.out
  have f2 := freeAt 2 HZ6.out
  have f3 := freeAt 3 HZ6.out
  have f4 := freeAt 4 HZ6.out
  have f5 := freeAt 5 HZ6.out
  have f6 := freeAt 6 HZ6.out
  have f7 := freeAt 7 HZ6.out
  go_wp2_with fail
  refine bodyPost_ret (v := .tuple #[itA (k, m, (la', lc', L), t, n, tm, bt, ca', cc', P), .bool true]) (by simp only [results, Try.results8]; go_simp; exact ⟨HL1.out.symm, HP.out.1.symm⟩) rfl ?_
  have hO := only8 w6 z 0 (.int .i64 k) (.string m) (.slice la' l1 lc') (.int .i64 t) (.int .i64 n) (.int .i64 tm) (.int .i64 bt) (.slice ca' l2 cc')
  have hzz := HZe.out
  refine ⟨_, rfl, ?_, ?_, ?_⟩
  · rw [← HX.out]; simp only [itC]; rw [HP.out.2.1]
  · exact (HP.out.2.2.keep hO (fun i hi _ e => by have := HZlt.out; omega)).weak (fun i _ hi => by have := HZlt.out; omega)
  · exact HB6.out.trans (hO.below (fun i e => by omega) HB6.out.size)
abbrev zItV : Value := .agg #[.int .i64 0, .string ⟨#[]⟩, .slice none 0 0, .int .i64 0, .int .i64 0, .int .i64 0, .int .i64 0, .slice none 0 0]
set_option maxHeartbeats 4000000 in
set_option maxRecDepth 100000 in
theorem qfirst_none (h : QuO q N [] w F) : Calls Try.prog 8 #[qptr q] w fun e w' => e = .returned (.tuple #[zItV, .bool false]) ∧ Below w.heap.size w w' := by
  have HA := Lib.hid (below_alloc (Below.refl w.heap.size w) (Obj.cells #[.int .i64 0, .string ⟨#[]⟩, .slice none 0 0, .int .i64 0, .int .i64 0, .int .i64 0, .int .i64 0, .slice none 0 0] 38))
  have CR := Lib.hid (qright_any ((QuO.obj _ _ _).below h HA.out))
  obtain ⟨r, a, c, h⟩ := h
  have k2 := cellAt (o := 2) (v := .int .i64 0) (keepB h.que HA.out) rfl
  clear h
  go_enter Try.func8, Try.ntmps8
  go_wp2_with fail
  refine CR.out.mono ?_
  rintro e w1 ⟨rfl, rfl⟩
  go_wp2_with fail
  exact bodyPost_ret (v := .tuple #[zItV, .bool false]) (by simp only [results, Try.results8]; go_simp) rfl ⟨rfl, HA.out⟩
theorem qfirst_nil (w : World) : Calls Try.prog 8 #[.pointer none] w fun e w' => e = .returned (.tuple #[zItV, .bool false]) ∧ Below w.heap.size w w' := by
  go_enter Try.func8, Try.ntmps8
  go_wp2_with fail
  refine (qright_nil _).mono ?_
  rintro e w1 ⟨rfl, rfl⟩
  go_wp2_with fail
  exact bodyPost_ret (v := .tuple #[zItV, .bool false]) (by simp only [results, Try.results8]; go_simp) rfl ⟨rfl, below_alloc (Below.refl _ _) _⟩
theorem qtake_nil (w : World) : Calls Try.prog 7 #[.pointer none] w fun e w' => e = .returned (.tuple #[zItV, .int .i64 1]) ∧ Below w.heap.size w w' := by
  go_enter Try.func7, Try.ntmps7
  go_wp2_with fail
  refine (qright_nil _).mono ?_
  rintro e w1 ⟨rfl, rfl⟩
  go_wp2_with fail
  exact bodyPost_ret (v := .tuple #[zItV, .int .i64 1]) (by simp only [results, Try.results7]; go_simp) rfl ⟨rfl, below_alloc (Below.refl _ _) _⟩
end
end Go.Proofs.Ytjnkcgegmffncaa
