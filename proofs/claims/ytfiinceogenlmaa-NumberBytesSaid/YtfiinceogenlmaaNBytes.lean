/- NumberBytes: for every input the law returns true, and its arguments read as they did. No condition. -/
import Derived.Test.YtfiinceogenlmaaLives
import Derived.Test.YtfiinceogenlmaaRdV
import Derived.Test.YtfiinceogenlmaaRby
import Derived.Test.YtfiinceogenlmaaTok
import Derived.Test.YtfiinceogenlmaaLaw
import Derived.BigGuard
namespace Go.Proofs.Ytfiinceogenlmaa
open Go.ChangeShapes Go.WideShapes Go.ChangeAt Go.RowKit Go.Joins
/-- What is told is read again. -/
theorem val_back {n : Int} {o : Bool} (hn : In64 n) (hv : o = true → n = 0) : rsVal (valB n o, 0) = ((n, o), true, ([], 0)) := by
  cases o
  · have h1 : rsTruth (valB n false, 0) = (false, (numB (zz n), 0)) := rfl
    have h2 : rsSigned (numB (zz n), 0) = (n, ([], 0)) := by
      have := rdNum_numB (zz_64 hn.1 hn.2) []
      rw [List.append_nil] at this
      unfold rsSigned rsNum rsOf
      simp [this, unzz_zz]
    rw [rsVal_num h1 h2]; simp
  · have h1 : rsTruth (valB n true, 0) = (true, ([], 0)) := rfl
    rw [rsVal_over h1, hv rfl]; simp
theorem abs_class {C : World → Prop} {w : World} (h : C w) (hs : Stab C) : ∃ CL : World → Prop, CL w ∧ Stab CL ∧ ∀ W, CL W → C W := ⟨C, h, hs, fun _ h => h⟩
theorem left_quiet {F : Nat → Prop} (r : Nat) (s : Rst) (w : World) (h : RdrW w F r s) : Calls Try.prog 37 #[.pointer (some ⟨r, 0, none⟩)] w fun e w' => e = .returned (.int .i64 s.1.length) ∧ Below w.heap.size w w' :=
  (rdr_left r s w h).mono fun _ _ h => ⟨h.1, h.2 ▸ Below.refl _ _⟩
theorem end_quiet {F : Nat → Prop} (r : Nat) (s : Rst) (w : World) (h : RdrW w F r s) : Calls Try.prog 39 #[.pointer (some ⟨r, 0, none⟩)] w fun e w' => e = .returned (.int .i64 (rsEnd s)) ∧ Below w.heap.size w w' :=
  (rdr_end r s w h).mono fun _ _ h => ⟨h.1, h.2 ▸ Below.refl _ _⟩
theorem rleft_quiet {F : Nat → Prop} (r : Nat) (s : Rst) (w : World) (h : RefW w F r s) : Calls Try.prog 38 #[.pointer (some ⟨r, 0, none⟩)] w fun e w' => e = .returned (.int .i64 s.1.length) ∧ Below w.heap.size w w' := rr_left r s w h
structure Cv (w : World) (n : Int) (o : Bool) (A : Option Addr) (l : List UInt8) (W : World) : Prop where
  below : Below w.heap.size w W
  box : W.heap[w.heap.size]? = some (Obj.cells #[.int .i64 (n), .bool o] 25)
  arg : Rd W A l
theorem Cv.stab {w : World} {n : Int} {o : Bool} {A : Option Addr} {l : List UInt8} : Stab (Cv w n o A l) := fun _ _ h hb => ⟨h.below.trans (hb.mono h.below.size), keepB h.box hb, h.arg.below hb⟩
theorem Cv.only {w W W' : World} {n : Int} {o : Bool} {A : Option Addr} {l : List UInt8} {S : Nat → Prop} (h : Cv w n o A l W) (hp : Rd w A l) (ho : Only S W W') (hS : ∀ k, S k → w.heap.size < k) : Cv w n o A l W' := by
  have hb : Below w.heap.size w W' := h.below.trans (ho.below (fun k hk => Nat.le_of_lt (hS k hk)) h.below.size)
  exact ⟨hb, ho.get h.box (fun hk => Nat.lt_irrefl _ (hS _ hk)), hp.below hb⟩
structure Cw (w : World) (n : Int) (o : Bool) (A : Option Addr) (l : List UInt8) (A2 : Option Addr) (x : List UInt8) (bp bq bb : Nat) (pn : Int) (po : Bool) (F1 F2 F3 : Nat → Prop) (r1 r2 r3 : Nat) (u : Rst) (W : World) : Prop where
  base : Cv w n o A l W
  x : Rd W A2 x
  p : W.heap[bp]? = some (Obj.cells #[.int .i64 (pn), .bool po] 25)
  q : W.heap[bq]? = some (Obj.cells #[.int .i64 (pn), .bool po] 25)
  b : W.heap[bb]? = some (Obj.cells #[.int .i64 (n), .bool o] 25)
  r1 : RdrW W F1 r1 u
  r2 : RefW W F2 r2 u
  r3 : RdrW W F3 r3 ([], 0)
theorem Cw.stab {w : World} {n : Int} {o : Bool} {A : Option Addr} {l : List UInt8} {A2 : Option Addr} {x : List UInt8} {bp bq bb : Nat} {pn : Int} {po : Bool} {F1 F2 F3 : Nat → Prop} {r1 r2 r3 : Nat} {u : Rst} : Stab (Cw w n o A l A2 x bp bq bb pn po F1 F2 F3 r1 r2 r3 u) :=
  fun _ _ h hb => ⟨Cv.stab _ _ h.base hb, h.x.below hb, keepB h.p hb, keepB h.q hb, keepB h.b hb, h.r1.below hb, h.r2.below hb, h.r3.below hb⟩
theorem RdrW.fr {w : World} {F : Nat → Prop} {r : Nat} {s : Rst} (h : RdrW w F r s) : F r := by obtain ⟨A, c, h1, h2, h3, h4, h5, h6, h7⟩ := h; exact h6
theorem RefW.fr {w : World} {F : Nat → Prop} {r : Nat} {s : Rst} (h : RefW w F r s) : F r := by obtain ⟨A, c, B, I, h1, h2, h3, h4, h5, h6, h7⟩ := h; exact h6
set_option maxRecDepth 1000000 in
theorem nbytes_core (A : Option Addr) (c : Nat) (l : List UInt8) (n : Int) (o : Bool) (hn : In64 n) (hv : o = true → n = 0) (hl : l.length ≤ 500) (w : World) (hp : Rd w A l) :
    Calls Try.prog 9 #[.agg #[.int .i64 n, .bool o], .slice A l.length c] w fun e w' => e = .returned (.bool true) ∧ Below w.heap.size w w' := by
  have HC : Hid (Cv w n o A l (w.alloc (Obj.cells #[.int .i64 (n), .bool o] 25))) := Lib.hid ⟨below_alloc (Below.refl _ _) _, newB _ _, hp.below (below_alloc (Below.refl _ _) _)⟩
  have HP := Lib.hid hp
  have HN := Lib.hid hn
  have HV := Lib.hid hv
  have hv' : o = false ∨ n = 0 := by cases o <;> simp_all
  have CK := Lib.hid (fun W => check_ok n o hv' W)
  have e1 : ¬ ((500 : Int) < (l.length : Int)) := by omega
  clear hp hn hv hv'
  go_enter Try.func9, Try.ntmps9
  go_wp2_with fail
  refine (lives_any _).mono ?_; rintro e w1 ⟨rfl, hb⟩; replace HC := Lib.hid (Cv.stab _ _ HC.out hb); clear hb
  have k0 := cellAt (o := 0) HC.out.box rfl
  have k1 := cellAt (o := 1) HC.out.box rfl
  go_wp2_with fail
  refine (CK.out _).mono ?_; rintro e w2 ⟨rfl, hb⟩; replace HC := Lib.hid (Cv.stab _ _ HC.out hb); clear hb k0 k1
  go_wp2_with fail
  refine wp_region_two 3 [(0, false), (2, false), (1, true)] [] [] rfl (Cv w n o A l) Triv (by kernel_rfl) (by kernel_rfl) Cv.stab (fun _ _ _ _ => triv _) (Cv.stab _ _ HC.out (Below.refl _ _).drew) (triv _) ?_
  repeat (first | (refine wt_q rfl rfl ?_; apply Exists.intro; refine ⟨fun w' hw' => ?_, fun K hK => ?_⟩; (focus ((have k0 := cellAt (o := 0) hw'.box rfl; have k1 := cellAt (o := 1) hw'.box rfl); go_simp; first | exact quiet_value | fail)); simp only [Act.put, List.setIfInBounds_toArray, List.set_cons_zero, List.set_cons_succ]; refine hK.out _ ?_; clear hK K) | (refine wt_skip rfl rfl (fun K hK => ?_); simp only [Act.put, List.setIfInBounds_toArray, List.set_cons_zero, List.set_cons_succ]; refine hK.out _ ?_; clear hK K))
  refine wt_own l rfl rfl rfl (fun w' hc hd => ?_) (fun K hK v => ?_); (focus (have HC' := Lib.hid hc; clear hc hd; go_simp; refine st_enter ?_; exact own_tok (Cv.stab) A c l (by omega) _ HC'.out (HC'.out.arg))); simp only [Act.put, List.setIfInBounds_toArray, List.set_cons_zero, List.set_cons_succ]; refine hK.out _ _ _ ?_; clear hK K
  repeat (first | (refine wt_q rfl rfl ?_; apply Exists.intro; refine ⟨fun w' hw' => ?_, fun K hK => ?_⟩; (focus ((skip); go_simp; first | exact quiet_value | fail)); simp only [Act.put, List.setIfInBounds_toArray, List.set_cons_zero, List.set_cons_succ]; refine hK.out _ ?_; clear hK K) | (refine wt_skip rfl rfl (fun K hK => ?_); simp only [Act.put, List.setIfInBounds_toArray, List.set_cons_zero, List.set_cons_succ]; refine hK.out _ ?_; clear hK K))
  refine wt_nil ?_
  rintro w3 ⟨hC3, _⟩ ⟨N, hN, ho, hT⟩
  obtain ⟨A1, c1, rfl, _, _, hr⟩ := ho.form
  have HR := Lib.hid hr
  replace HC := Lib.hid hC3
  clear hC3 ho hr hT hN
  simp only [List.drop_succ_cons, List.drop_zero]
  go_wp2_with fail
  refine (bytes_any A1 c1 l n o HN.out _ HR.out (by omega)).mono ?_
  intro e w4 hf
  obtain ⟨A2, c2, x, rfl, HX, HX1, HX2, HX3, HB4⟩ := hf.named
  clear hf HR
  replace HC := Lib.hid (Cv.stab _ _ HC.out HB4.out)
  clear HB4
  have HX4 : Hid (∀ ad, A2 = some ad → ad.block < w4.heap.size) := Lib.hid (fun ad e => (HX3.out.addr ad e).2)
  clear HX3
  have Z4 := Lib.hid (only_lt HC.out.box)
  have L2 : Hid (x.length = l.length + (valB n o).length) := Lib.hid (by rw [HX.out, List.length_append])
  go_wp2_with fail
  refine (own_any A c l _ HC.out.arg (by omega)).mono ?_
  intro e w5 hf
  obtain ⟨A3, c3, rfl, _, _, h3, _, hb⟩ := hf.read
  have HR := Lib.hid h3
  replace HC := Lib.hid (Cv.stab _ _ HC.out hb)
  replace HX2 := Lib.hid (HX2.out.below hb)
  have Z5 := Lib.hid (show w4.heap.size ≤ w5.heap.size from hb.size)
  clear hf h3 hb
  go_wp2_with fail
  refine (new_any A3 c3 l _ HR.out (by omega)).mono ?_
  rintro e w6 ⟨r1, rfl, h1, hb⟩
  replace HC := Lib.hid (Cv.stab _ _ HC.out hb)
  replace HX2 := Lib.hid (HX2.out.below hb)
  have Z6 := Lib.hid (Nat.le_trans Z5.out hb.size)
  have R1 := Lib.hid (h1.old.weak (G := fun k => w4.heap.size ≤ k ∧ k < w6.heap.size) (fun k hk => ⟨Nat.le_trans Z5.out hk.1, hk.2⟩))
  clear h1 hb HR
  go_wp2_with fail
  refine (rnew_any A c l _ HC.out.arg (by omega)).mono ?_
  rintro e w7 ⟨r2, rfl, h1, hb⟩
  replace HC := Lib.hid (Cv.stab _ _ HC.out hb)
  replace HX2 := Lib.hid (HX2.out.below hb)
  have Z7 := Lib.hid (show w6.heap.size ≤ w7.heap.size from hb.size)
  replace R1 := Lib.hid (R1.out.below hb)
  have R2 := Lib.hid (h1.old.weak (G := fun k => w6.heap.size ≤ k ∧ k < w7.heap.size) (fun k hk => hk))
  clear h1 hb
  obtain ⟨⟨⟨pn, po⟩, ok, u⟩, hq⟩ : ∃ q, rsVal (l, 0) = q := ⟨_, rfl⟩
  have HQ := Lib.hid hq
  clear hq
  unfold ptrTo
  go_wp2_with fail
  refine (read_any r1 (l, 0) _ R1.out).mono ?_
  unfold ValP valV
  rw [HQ.out]
  rintro e w8 ⟨rfl, h1, ho⟩
  have hr1 := R1.out.fr
  replace HC := Lib.hid (HC.out.only HP.out ho (fun k e => by have := Z4.out; omega))
  replace HX2 := Lib.hid (ho.rd HX2.out (fun ad e h => by have := HX4.out ad e; omega))
  replace R2 := Lib.hid (R2.out.keep ho (fun k hk _ e => by omega))
  replace R1 := Lib.hid h1
  have Z8 := Lib.hid (show w7.heap.size ≤ w8.heap.size from ho.size)
  -- p
  have HB := below_alloc (Below.refl w8.heap.size w8) (Obj.cells #[.int .i64 (pn), .bool po] 25)
  replace HC := Lib.hid (Cv.stab _ _ HC.out HB)
  replace HX2 := Lib.hid (HX2.out.below HB)
  replace R1 := Lib.hid (R1.out.below HB)
  replace R2 := Lib.hid (R2.out.below HB)
  have P1 := Lib.hid (newB w8 (Obj.cells #[.int .i64 (pn), .bool po] 25))
  clear h1 ho HB hr1
  go_wp2_with fail
  refine (rread_any r2 (l, 0) _ R2.out).mono ?_
  unfold ValP valV
  rw [HQ.out]
  rintro e w9 ⟨rfl, h1, ho⟩
  have hr2 := R2.out.fr
  have hz8 := alloc_size w8 (Obj.cells #[.int .i64 (pn), .bool po] 25)
  have hz9 : w8.heap.size + 1 ≤ w9.heap.size := by have := ho.size; omega
  replace HC := Lib.hid (HC.out.only HP.out ho (fun k e => by have := Z4.out; have := Z6.out; omega))
  replace HX2 := Lib.hid (ho.rd HX2.out (fun ad e h => by have := HX4.out ad e; have := Z6.out; omega))
  replace R1 := Lib.hid (R1.out.keep ho (fun k hk _ e => by omega))
  replace P1 := Lib.hid (ho.get P1.out (by have := Z8.out; omega))
  replace R2 := Lib.hid h1
  have HB := below_alloc (Below.refl w9.heap.size w9) (Obj.cells #[.int .i64 (pn), .bool po] 25)
  replace HC := Lib.hid (Cv.stab _ _ HC.out HB)
  replace HX2 := Lib.hid (HX2.out.below HB)
  replace R1 := Lib.hid (R1.out.below HB)
  replace R2 := Lib.hid (R2.out.below HB)
  replace P1 := Lib.hid (keepB P1.out HB)
  have P2 := Lib.hid (newB w9 (Obj.cells #[.int .i64 (pn), .bool po] 25))
  have Z9 := Lib.hid hz9
  clear h1 ho HB hr2 hz8 hz9
  have hx : l.length < x.length := by rw [L2.out]; unfold valB; simp
  have hx1 := HX1.out.1
  have hx2 := HX1.out.2
  have hx3 : x.length ≤ 510 := by have := L2.out; have := valB_len HN.out o; omega
  unfold maxLen at hx2
  have hc : ¬ c2 = l.length := by omega
  have i1 : (l.length : Int) < (x.length : Int) := by omega
  obtain ⟨a2, rfl, _, _⟩ := HX2.out.at_ (k := 0) (by omega)
  have RX : Hid (Rd (w9.alloc (Obj.cells #[.int .i64 (pn), .bool po] 25)) (some (a2.add l.length)) (valB n o)) := Lib.hid (by
    have h8 := Reads.cut (k := l.length) (cap := c2) HX2.out (by omega) hx1
    rw [if_neg hc, Nat.mul_one, Option.map_some, ← List.map_drop, HX.out, List.drop_left] at h8
    unfold Rd
    have e : x.length - l.length = (valB n o).length := by rw [L2.out]; omega
    rwa [← HX.out, e] at h8)
  have e9 : x.length - l.length = (valB n o).length := by rw [L2.out]; omega
  have E9 := Lib.hid e9
  clear e9
  go_wp2_with fail
  rw [E9.out]
  refine (new_any _ _ (valB n o) _ RX.out (by have := valB_len HN.out o; omega)).mono ?_
  rintro e w10 ⟨r3, rfl, h1, hb⟩
  replace HC := Lib.hid (Cv.stab _ _ HC.out hb)
  replace HX2 := Lib.hid (HX2.out.below hb)
  replace R1 := Lib.hid (R1.out.below hb)
  replace R2 := Lib.hid (R2.out.below hb)
  replace P1 := Lib.hid (keepB P1.out hb)
  replace P2 := Lib.hid (keepB P2.out hb)
  have hr3 := h1.fr
  have R3 := Lib.hid (h1.old)
  have hz9 := alloc_size w9 (Obj.cells #[.int .i64 (pn), .bool po] 25)
  have hp1 := only_lt P1.out
  clear h1 hb RX hx1 hc i1
  unfold ptrTo
  go_wp2_with fail
  refine (read_any r3 (valB n o, 0) _ R3.out).mono ?_
  unfold ValP valV
  rw [val_back HN.out HV.out]
  rintro e w11 ⟨rfl, h1, ho⟩
  replace HC := Lib.hid (HC.out.only HP.out ho (fun k e => by have := Z4.out; have := Z6.out; have := Z7.out; have := Z8.out; have := Z9.out; omega))
  replace HX2 := Lib.hid (ho.rd HX2.out (fun ad e h => by have := HX4.out ad e; have := Z6.out; have := Z7.out; have := Z8.out; have := Z9.out; omega))
  replace R1 := Lib.hid (R1.out.keep ho (fun k hk _ e => by have := Z7.out; have := Z8.out; have := Z9.out; omega))
  replace R2 := Lib.hid (R2.out.keep ho (fun k hk _ e => by have := Z8.out; have := Z9.out; omega))
  replace P1 := Lib.hid (ho.get P1.out (by have := Z9.out; omega))
  replace P2 := Lib.hid (ho.get P2.out (by omega))
  have HB := below_alloc (Below.refl w11.heap.size w11) (Obj.cells #[.int .i64 (n), .bool o] 25)
  have CW : Hid (Cw w n o A l (some a2) x w8.heap.size w9.heap.size w11.heap.size pn po _ _ _ r1 r2 r3 u (w11.alloc (Obj.cells #[.int .i64 (n), .bool o] 25))) := Lib.hid
    ⟨Cv.stab _ _ HC.out HB, HX2.out.below HB, keepB P1.out HB, keepB P2.out HB, newB _ _, R1.out.below HB, R2.out.below HB, h1.below HB⟩
  clear h1 ho HB hr3 hz9 hp1
  go_wp2_with fail
  obtain ⟨CL, cw, SC, toC⟩ := abs_class CW.out Cw.stab
  have TO := Lib.hid toC
  have CWL := Lib.hid cw
  clear toC cw
  refine wp_region_two 38 [(0, false), (1, false), (2, false), (4, false), (3, true), (5, true), (6, false), (7, false), (8, false), (9, false), (10, false), (11, false), (12, false), (13, false), (14, false), (15, false), (16, false), (17, false), (18, false), (19, false), (20, false), (21, false), (22, false), (23, false), (24, false), (25, false), (26, false), (27, false), (28, false), (29, false), (30, false), (31, false), (32, false), (33, false), (34, false), (35, false), (36, false), (37, false)] [] [] rfl CL Triv (by kernel_rfl) (by kernel_rfl) SC (fun _ _ _ _ => triv _) (SC _ _ CWL.out (Below.refl _ _).drew) (triv _) ?_
  repeat (first | (refine wt_q rfl rfl ?_; apply Exists.intro; refine ⟨fun w' hw' => ?_, fun K hK => ?_⟩; (focus ((have h0 := TO.out _ hw'; have q1 := conv_rd (c := c2) h0.x; have k0 := cellAt (o := 0) h0.base.box rfl; have k1 := cellAt (o := 1) h0.base.box rfl; clear h0); go_simp; first | exact quiet_value | fail)); simp only [Act.put, List.setIfInBounds_toArray, List.set_cons_zero, List.set_cons_succ]; refine hK.out _ ?_; clear hK K) | (refine wt_skip rfl rfl (fun K hK => ?_); simp only [Act.put, List.setIfInBounds_toArray, List.set_cons_zero, List.set_cons_succ]; refine hK.out _ ?_; clear hK K))
  refine wt_own l rfl rfl rfl (fun w' hc hd => ?_) (fun K hK v => ?_); (focus (have HC' := Lib.hid hc; clear hc hd; go_simp; refine st_enter ?_; exact own_tok (SC) A c l (by omega) _ HC'.out ((TO.out _ HC'.out).base.arg))); simp only [Act.put, List.setIfInBounds_toArray, List.set_cons_zero, List.set_cons_succ]; refine hK.out _ _ _ ?_; clear hK K
  repeat (first | (refine wt_q rfl rfl ?_; apply Exists.intro; refine ⟨fun w' hw' => ?_, fun K hK => ?_⟩; (focus ((skip); go_simp; first | exact quiet_value | fail)); simp only [Act.put, List.setIfInBounds_toArray, List.set_cons_zero, List.set_cons_succ]; refine hK.out _ ?_; clear hK K) | (refine wt_skip rfl rfl (fun K hK => ?_); simp only [Act.put, List.setIfInBounds_toArray, List.set_cons_zero, List.set_cons_succ]; refine hK.out _ ?_; clear hK K))
  refine wt_step rfl (RV x) (fun _ => Triv) (RV.stab x) (fun _ _ _ _ _ => triv _) rfl rfl (fun w' hc hd => ?_) (fun K hK v => ?_); (focus (have HD := Lib.hid hd; clear hc hd; go_simp; refine st_enter ?_; exact tok_made HD.out (fun N hN ho => by rw [HX.out]; exact (rbytes_any N _ l n o HN.out _ ho hN (by omega)).mono fun _ _ h => h.below ho hN))); simp only [Act.put, List.setIfInBounds_toArray, List.set_cons_zero, List.set_cons_succ]; refine hK.out _ _ _ ?_; clear hK K
  repeat (first | (refine wt_q rfl rfl ?_; apply Exists.intro; refine ⟨fun w' hw' => ?_, fun K hK => ?_⟩; (focus ((have q1 := RV.conv hw'.2; have h0 := TO.out _ hw'.1.1; have k0 := cellAt (o := 0) h0.base.box rfl; have k1 := cellAt (o := 1) h0.base.box rfl; have k2 := cellAt (o := 0) h0.p rfl; have k3 := cellAt (o := 1) h0.p rfl; have k4 := cellAt (o := 0) h0.q rfl; have k5 := cellAt (o := 1) h0.q rfl; have k6 := cellAt (o := 0) h0.b rfl; have k7 := cellAt (o := 1) h0.b rfl; clear h0); go_simp; first | exact quiet_value | (first | with_reducible exact quiet_enter (left_quiet r1 u _ (TO.out _ hw'.1.1).r1) | with_reducible exact quiet_enter (rleft_quiet r2 u _ (TO.out _ hw'.1.1).r2) | with_reducible exact quiet_enter (end_quiet r3 ([], 0) _ (TO.out _ hw'.1.1).r3)))); simp only [Act.put, List.setIfInBounds_toArray, List.set_cons_zero, List.set_cons_succ]; refine hK.out _ ?_; clear hK K) | (refine wt_skip rfl rfl (fun K hK => ?_); simp only [Act.put, List.setIfInBounds_toArray, List.set_cons_zero, List.set_cons_succ]; refine hK.out _ ?_; clear hK K))
  refine wt_nil ?_
  rintro w12 ⟨⟨hC12, _⟩, _⟩ _
  have HF := Lib.hid (TO.out _ hC12).base.below
  clear hC12
  simp only [List.drop_succ_cons, List.drop_zero]
  go_wp2_with fail
  go_ret
  exact ⟨rfl, HF.out⟩
set_option maxRecDepth 1000000 in
/-- Beyond the guards. -/
theorem nbytes_out (A : Option Addr) (a c : Nat) (n : Int) (o : Bool) (h : 500 < a ∨ (o = true ∧ n ≠ 0)) (ha : a ≤ maxLen) (w : World) :
    Calls Try.prog 9 #[.agg #[.int .i64 n, .bool o], .slice A a c] w fun e w' => e = .returned (.bool true) ∧ Below w.heap.size w w' := by
  unfold maxLen at ha
  have HB := Lib.hid (newB w (Obj.cells #[.int .i64 (n), .bool o] 25))
  have HW := Lib.hid (below_alloc (Below.refl w.heap.size w) (Obj.cells #[.int .i64 (n), .bool o] 25))
  by_cases h1 : 500 < a
  · have e1 : (500 : Int) < (a : Int) := by omega
    clear h
    go_enter Try.func9, Try.ntmps9
    go_wp2_with fail
    refine (lives_any _).mono ?_; rintro e w1 ⟨rfl, hb⟩; replace HW := Lib.hid (HW.out.trans (hb.mono HW.out.size)); clear hb
    go_wp2_with fail
    go_ret
    exact ⟨rfl, HW.out⟩
  · obtain ⟨rfl, hz⟩ : o = true ∧ n ≠ 0 := by rcases h with h | h; exact absurd h h1; exact h
    have e1 : ¬ (500 : Int) < (a : Int) := by omega
    have CK := Lib.hid (fun W => check_bad n hz W)
    clear h hz
    go_enter Try.func9, Try.ntmps9
    go_wp2_with fail
    refine (lives_any _).mono ?_; rintro e w1 ⟨rfl, hb⟩; replace HW := Lib.hid (HW.out.trans (hb.mono HW.out.size)); replace HB := Lib.hid (keepB HB.out hb); clear hb
    have k0 := cellAt (o := 0) HB.out rfl
    have k1 := cellAt (o := 1) HB.out rfl
    go_wp2_with fail
    refine (CK.out _).mono ?_; rintro e w2 ⟨rfl, hb⟩; replace HW := Lib.hid (HW.out.trans (hb.mono HW.out.size)); clear hb k0 k1
    go_wp2_with fail
    go_ret
    exact ⟨rfl, HW.out⟩
theorem nbytes_any {w : World} (A : Option Addr) (c : Nat) (l : List UInt8) (n : Int) (o : Bool) (hn : In64 n) (hl : l.length ≤ maxLen) (hp : Rd w A l) :
    Calls Try.prog 9 #[.agg #[.int .i64 n, .bool o], .slice A l.length c] w fun e w' => e = .returned (.bool true) ∧ Below w.heap.size w w' := by
  by_cases h : 500 < l.length ∨ (o = true ∧ n ≠ 0)
  · exact nbytes_out A _ c n o h hl w
  · exact nbytes_core A c l n o hn (fun ho => by by_cases hz : n = 0; exact hz; exact absurd (.inr ⟨ho, hz⟩) h) (by omega) w hp
end Go.Proofs.Ytfiinceogenlmaa
