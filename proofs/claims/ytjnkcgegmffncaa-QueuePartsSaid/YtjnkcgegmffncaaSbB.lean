/- A sample's bytes; a value's; a batch's. -/
import Derived.Test.YtjnkcgegmffncaaKey
import Derived.Test.YtjnkcgegmffncaaChg
namespace Go.Proofs.Ytjnkcgegmffncaa
open Go.RowKit
/-- A row of bytes, made behind B. -/
def RvB (B : Nat) (l : List UInt8) (v : Value) (W : World) : Prop := ∃ A c n, v = .slice A n c ∧ l.length = n ∧ OwnB W B (.slice A n c) l
theorem RvB.stab (B : Nat) (l : List UInt8) (v : Value) : Stab (RvB B l v) := fun _ _ ⟨A, c, n, h1, h2, h3⟩ hb => ⟨A, c, n, h1, h2, h3.below hb⟩
theorem OwnB.rd {w : World} {b n c : Nat} {A : Option Addr} {l : List UInt8} (h : OwnB w b (.slice A n c) l) : Rd w A l := by
  obtain ⟨A', c', n', e, _, h3⟩ := h.len_
  cases e; exact h3
theorem FreshB.rv {w : World} {l : List UInt8} {e : Ending} {w' : World} (h : FreshB w l e w') {B : Nat} (hB : B ≤ w.heap.size) : ∃ v, e = .returned v ∧ RvB B l v w' ∧ Below w.heap.size w w' := by
  obtain ⟨v, h1, h2, h3⟩ := h
  obtain ⟨A, c, n, rfl, h4, _⟩ := h2.len_
  exact ⟨_, h1, ⟨A, c, n, rfl, h4, h2.lower hB⟩, h3⟩
theorem TB.stab : Stab Triv := fun _ _ _ _ => triv _
/-- A sample as bytes. -/
def smpB (m : ByteArray) (L : List Lb) (t n : Int) : List UInt8 := txtB ⟨(keyB m L).toArray⟩ ++ numB t.toNat ++ numB (zz n)
theorem kb_size (m : ByteArray) (L : List Lb) : (ByteArray.mk (keyB m L).toArray).size = (keyB m L).length := by simp [ByteArray.size]
theorem smpB_len {m : ByteArray} {L : List Lb} {t n : Int} (hS : smallS m L) (ht : 0 ≤ t ∧ t ≤ 1099511627776) (hn : In64 n) : (smpB m L t n).length ≤ 19100 := by
  have h1 := keyB_len hS
  have h2 := txtB_len (s := ByteArray.mk (keyB m L).toArray) (by rw [kb_size]; omega)
  rw [kb_size] at h2
  have h3 := numB_len (n := t.toNat) (by unfold N64; omega)
  have h4 := numB_len (zz_64 hn.1 hn.2)
  unfold smpB
  rw [List.length_append, List.length_append]; omega
theorem smpE_ok {m : ByteArray} {L : List Lb} {t : Int} (h : smpE m L t = 0) : serE m L = 0 ∧ 1 ≤ t ∧ t ≤ 1099511627776 := by
  unfold smpE at h
  split at h
  · rename_i h1
    split at h
    · cases h
    · rename_i h2; exact ⟨h1, by omega, by omega⟩
  · rename_i h1; exact absurd h h1
set_option maxHeartbeats 4000000 in
set_option maxRecDepth 100000 in
theorem sbytes_any {m : ByteArray} {A : Option Addr} {c n : Nat} {L : List Lb} {t k : Int} {w : World} (hn : L.length = n) (h : RdLb w A L) (hE : smpE m L t = 0) (hS : smallS m L) (hk : In64 k) : Calls Try.prog 52 #[.agg #[.string m, .slice A n c, .int .i64 t, .int .i64 k]] w (TupB w.heap.size w (smpB m L t k) 0) := by
  have HB := Lib.hid (below_alloc (Below.refl w.heap.size w) (.cells #[.string m, .slice A n c, .int .i64 t, .int .i64 k] 33))
  have HX := Lib.hid (newB w (.cells #[.string m, .slice A n c, .int .i64 t, .int .i64 k] 33))
  have CC := Lib.hid (csmp_any (m := m) (c := c) (t := t) (k := k) hn (h.below HB.out))
  rw [hE] at CC
  obtain ⟨hs, ht1, ht2⟩ := smpE_ok hE
  have CK := Lib.hid (fun W (hb : Below w.heap.size w W) => skey_any (m := m) (c := c) hn (h.below hb) hs hS)
  obtain ⟨K, hK⟩ : ∃ K, ByteArray.mk (keyB m L).toArray = K := ⟨_, rfl⟩
  have hKs : K.size ≤ 19000 := by rw [← hK, kb_size]; exact keyB_len hS
  have CT := Lib.hid (fun W => text_n (A := none) (c := 0) (n := 0) (l := []) (s := K) (w := W) rfl Rd.nil_ (by omega) (by omega))
  simp only [List.nil_append] at CT
  obtain ⟨tn, htn⟩ : ∃ tn : Nat, t = (tn : Int) := ⟨t.toNat, by omega⟩
  obtain ⟨R, hR⟩ : ∃ R, smpB m L t k = R := ⟨_, rfl⟩
  rw [hR]
  have hR2 : R = txtB K ++ numB tn ++ numB (zz k) := by rw [← hR, ← hK, htn]; rfl
  subst htn
  have hw : IntKind.u64.wrap (tn : Int) = (tn : Int) := by rw [IntKind.wrap_u64]; omega
  rw [hK] at CK
  have HR2 := Lib.hid hR2
  have HT64 : Hid (N64 tn) := Lib.hid (by unfold N64; omega)
  have HK64 := Lib.hid hk
  have htl : (txtB K).length ≤ 19009 := by have := txtB_len (s := K) (by omega); omega
  have hnl : (txtB K ++ numB tn).length ≤ 19018 := by rw [List.length_append]; have := numB_len HT64.out; omega
  obtain ⟨T, hT⟩ : ∃ T, txtB K = T := ⟨_, rfl⟩
  rw [hT] at CT htl hnl HR2
  have HTl := Lib.hid htl
  have HNl := Lib.hid hnl
  have d0 := cellAt (o := 0) HX.out rfl
  have d1 := cellAt (o := 1) HX.out rfl
  have d2 := cellAt (o := 2) HX.out rfl
  have d3 := cellAt (o := 3) HX.out rfl
  clear hn h hE hS hk hs hK hKs hR hR2 htl hnl hT
  go_enter Try.func52, Try.ntmps52
  go_wp2_with fail
  refine CC.out.mono ?_
  rintro e w1 ⟨rfl, hb1⟩
  have HB1 := Lib.hid (HB.out.trans (hb1.mono HB.out.size))
  have HX1 := Lib.hid (keepB HX.out hb1)
  clear hb1 d0 d1 d2 d3 CC
  have d0 := cellAt (o := 0) HX1.out rfl
  have d1 := cellAt (o := 1) HX1.out rfl
  go_wp2_with fail
  refine (CK.out _ HB1.out).mono ?_
  rintro e w2 ⟨rfl, hb2⟩
  have HB2 := Lib.hid (HB1.out.trans (hb2.mono HB1.out.size))
  have HX2 := Lib.hid (keepB HX1.out hb2)
  clear hb2 d0 d1 CK
  go_wp2_with fail
  refine (CT.out _).mono ?_
  rintro e w3 ⟨v, rfl, ho3, hb3⟩
  obtain ⟨A3, c3, n3, rfl, hn3, hrd3⟩ := ho3.len_
  have HB3 := Lib.hid (HB2.out.trans (hb3.mono HB2.out.size))
  have HX3 := Lib.hid (keepB HX2.out hb3)
  have HN3 := Lib.hid hn3
  have HR3 := Lib.hid hrd3
  clear ho3 hb3 CT hn3 hrd3
  go_wp2_with fail
  refine wp_region_fork 10 (.q 0 (.q 1 (.q 2 (.q 3 (.q 5 (.q 6 (.alt 4 (.alt 7 (.q 8 (.q 9 .nil)) .stop) .stop))))))) (Below w3.heap.size w3) Triv (by kernel_rfl) (by kernel_rfl) (Stab.below _ _ (Nat.le_refl _)) TB.stab ((Below.refl _ _).drew) (triv _) ?_
  repeat (first | (refine wf_q rfl rfl ?_; apply Exists.intro; refine ⟨fun w' hw' => ?_, fun K hK => ?_⟩; (focus ((have d2 := cellAt (o := 2) (keepB HX3.out hw') rfl; have d3 := cellAt (o := 3) (keepB HX3.out hw') rfl); go_simp; first | exact quiet_value | fail)); simp only [Act.put, List.setIfInBounds_toArray, List.set_cons_zero, List.set_cons_succ]; refine hK.out _ ?_; clear hK K) | (refine wf_skip rfl rfl (fun K hK => ?_); simp only [Act.put, List.setIfInBounds_toArray, List.set_cons_zero, List.set_cons_succ]; refine hK.out _ ?_; clear hK K) | (refine wf_skipu rfl rfl (fun K hK => ?_); simp only [Act.put, List.setIfInBounds_toArray, List.set_cons_zero, List.set_cons_succ]; refine hK.out _ ?_; clear hK K))
  refine wf_step (RvB w3.heap.size (T ++ numB tn)) (fun _ => Triv) (RvB.stab _ _) (fun _ => TB.stab) rfl rfl (fun w' hc hd => ?_) (fun K hK v => ?_) wf_stop
  focus
    have HC := Lib.hid hc
    clear hc hd
    skip
    go_simp
    refine st_enter ?_
    exact (number_n HN3.out HT64.out (HR3.out.below HC.out) (by have := HTl.out; rw [HN3.out] at this; omega)).mono fun e W' h => by
      obtain ⟨u, h1, h2, h3⟩ := h.rv (B := w3.heap.size) (by first | exact HC.out.size | exact HC.out.1.size | exact HC.out.1.1.size)
      exact ⟨u, h1, by first | exact HC.out.trans (h3.mono HC.out.size) | exact ⟨HC.out.1.trans (h3.mono HC.out.1.size), RvB.stab _ _ _ _ _ HC.out.2 h3⟩ | exact ⟨⟨HC.out.1.1.trans (h3.mono HC.out.1.1.size), RvB.stab _ _ _ _ _ HC.out.1.2 h3⟩, RvB.stab _ _ _ _ _ HC.out.2 h3⟩, h2, triv _⟩
  simp only [Act.put, List.setIfInBounds_toArray, List.set_cons_zero, List.set_cons_succ]
  refine hK.out _ _ _ ?_
  clear hK K
  refine wf_step (RvB w3.heap.size (R)) (fun _ => Triv) (RvB.stab _ _) (fun _ => TB.stab) rfl rfl (fun w' hc hd => ?_) (fun K hK v => ?_) wf_stop
  focus
    have HC := Lib.hid hc
    clear hc hd
    obtain ⟨A4, c4, n4, rfl, hn4, ho4⟩ := HC.out.2
    go_simp
    refine st_enter ?_
    exact (HR2.out ▸ signed_n hn4 HK64.out ho4.rd (by have := HNl.out; omega)).mono fun e W' h => by
      obtain ⟨u, h1, h2, h3⟩ := h.rv (B := w3.heap.size) (by first | exact HC.out.size | exact HC.out.1.size | exact HC.out.1.1.size)
      exact ⟨u, h1, by first | exact HC.out.trans (h3.mono HC.out.size) | exact ⟨HC.out.1.trans (h3.mono HC.out.1.size), RvB.stab _ _ _ _ _ HC.out.2 h3⟩ | exact ⟨⟨HC.out.1.1.trans (h3.mono HC.out.1.1.size), RvB.stab _ _ _ _ _ HC.out.1.2 h3⟩, RvB.stab _ _ _ _ _ HC.out.2 h3⟩, h2, triv _⟩
  simp only [Act.put, List.setIfInBounds_toArray, List.set_cons_zero, List.set_cons_succ]
  refine hK.out _ _ _ ?_
  clear hK K
  repeat (first | (refine wf_q rfl rfl ?_; apply Exists.intro; refine ⟨fun w' hw' => ?_, fun K hK => ?_⟩; (focus ((skip); go_simp; first | exact quiet_value | fail)); simp only [Act.put, List.setIfInBounds_toArray, List.set_cons_zero, List.set_cons_succ]; refine hK.out _ ?_; clear hK K) | (refine wf_skip rfl rfl (fun K hK => ?_); simp only [Act.put, List.setIfInBounds_toArray, List.set_cons_zero, List.set_cons_succ]; refine hK.out _ ?_; clear hK K) | (refine wf_skipu rfl rfl (fun K hK => ?_); simp only [Act.put, List.setIfInBounds_toArray, List.set_cons_zero, List.set_cons_succ]; refine hK.out _ ?_; clear hK K))
  refine wf_nil ?_
  rintro w4 ⟨⟨hb4, _⟩, A5, c5, n5, rfl, hn5, ho5⟩ _
  have HB4 := Lib.hid (HB3.out.trans (hb4.mono HB3.out.size))
  have HO5 := Lib.hid (OwnB.lower ho5 HB3.out.size)
  clear hb4 hn5 ho5
  (try simp only [List.drop_succ_cons]); (try simp only [List.drop_zero]); (try simp only [List.drop_nil])
  go_wp2_with fail
  go_ret2
  exact ⟨_, rfl, HO5.out, HB4.out⟩
/-- A value as bytes. -/
def valB (k : Int) (ov : Bool) : List UInt8 := if ov then [1] else 0 :: numB (zz k)
theorem truth_n {A : Option Addr} {c n : Nat} {l : List UInt8} {b : Bool} {w : World} (hn : l.length = n) (hp : Rd w A l) (hl : n ≤ 1000000000) :
    Calls Try.prog 60 #[.slice A n c, .bool b] w (FreshB w (l ++ [if b then 1 else 0])) := by
  subst hn; exact truth_any A c l b w hp (by omega)
theorem valB_len {k : Int} {ov : Bool} (hk : In64 k) : (valB k ov).length ≤ 10 := by
  have := numB_len (zz_64 hk.1 hk.2)
  unfold valB; split
  · simp
  · simp only [List.length_cons]; omega
set_option maxHeartbeats 4000000 in
set_option maxRecDepth 100000 in
theorem nbytes_any {A : Option Addr} {c n : Nat} {l : List UInt8} {k : Int} {ov : Bool} {w : World} (hn : l.length = n) (hp : Rd w A l) (hl : n ≤ 900000000) (hk : In64 k) : Calls Try.prog 61 #[.slice A n c, .agg #[.int .i64 k, .bool ov]] w (FreshB w (l ++ valB k ov)) := by
  have HB := Lib.hid (below_alloc (Below.refl w.heap.size w) (.cells #[.int .i64 k, .bool ov] 69))
  have HX := Lib.hid (newB w (.cells #[.int .i64 k, .bool ov] 69))
  have CT := Lib.hid (truth_n (c := c) (b := ov) hn (hp.below HB.out) (by omega))
  have HN := Lib.hid hn
  have HK := Lib.hid hk
  have d0 := cellAt (o := 0) HX.out rfl
  have d1 := cellAt (o := 1) HX.out rfl
  clear hn hp hk
  go_enter Try.func61, Try.ntmps61
  go_wp2_with fail
  refine CT.out.mono ?_
  rintro e w1 ⟨v, rfl, ho, hb1⟩
  obtain ⟨A2, c2, n2, rfl, hn2, hrd2⟩ := ho.len_
  have HB1 := Lib.hid (HB.out.trans (hb1.mono HB.out.size))
  have HX1 := Lib.hid (keepB HX.out hb1)
  have HO := Lib.hid (ho.lower HB.out.size)
  have hn2b : n2 ≤ 900000001 := by rw [← hn2, List.length_append, HN.out]; simp; omega
  have CS := Lib.hid (signed_n (c := c2) hn2 HK.out hrd2 (by omega))
  clear ho hb1 d0 d1 CT hn2 hrd2
  have d0 := cellAt (o := 0) HX1.out rfl
  have d1 := cellAt (o := 1) HX1.out rfl
  cases ov
  · go_wp2_with fail
    refine CS.out.mono ?_
    rintro e w2 ⟨v, rfl, ho3, hb3⟩
    have HB3 := Lib.hid (HB1.out.trans (hb3.mono HB1.out.size))
    have HO3 : Hid (OwnB w2 w.heap.size v (l ++ valB k false)) := Lib.hid (by have := ho3.lower HB1.out.size; rw [List.append_assoc] at this; exact this)
    obtain ⟨A3, c3, n3, rfl, _, _⟩ := ho3.len_
    clear ho3 hb3
    go_wp2_with fail
    go_ret
    exact ⟨_, rfl, HO3.out, HB3.out⟩
  · go_wp2_with fail
    go_ret
    exact ⟨_, rfl, HO.out, HB1.out⟩
end Go.Proofs.Ytjnkcgegmffncaa
