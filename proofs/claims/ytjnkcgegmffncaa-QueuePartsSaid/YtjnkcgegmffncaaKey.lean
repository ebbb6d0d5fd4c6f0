/- wire.Text; keys of labels and series; a sample's bytes. -/
import Derived.Test.YtjnkcgegmffncaaLgt
import Derived.Test.YtjnkcgegmffncaaStr
import Derived.Lib.ConvBytes
import Derived.Lib.AppendStr
import Derived.Deep.MidRow
namespace Go.Proofs.Ytjnkcgegmffncaa
open Go.RowKit
/-- Bytes and an errno are returned. -/
def TupB (base : Nat) (w : World) (l : List UInt8) (r : Int) (e : Ending) (w' : World) : Prop := ∃ v, e = .returned (.tuple #[v, .int .i64 r]) ∧ OwnB w' base v l ∧ Below base w w'
theorem bytesWorld_below (w : World) (s : ByteArray) : Below w.heap.size w (Lib.bytesWorld w 5 s) :=
  ⟨rfl, rfl, rfl, by rw [Lib.bytesWorld_size]; omega, fun k hk => Lib.bytesWorld_at_old w _ s k hk⟩
theorem bytesWorld_rd (w : World) (s : ByteArray) : Rd (Lib.bytesWorld w 5 s) (some ⟨w.heap.size, 0, none⟩) s.data.toList := by
  refine ⟨by simp, fun _ => ⟨_, rfl, by rw [Lib.bytesWorld_size]; simp, fun j u hu => ?_⟩⟩
  have hj : j < s.data.toList.length := by
    rcases Nat.lt_or_ge j s.data.toList.length with h | h
    · exact h
    · rw [List.getElem?_eq_none (by simpa using h)] at hu; cases hu
  rw [Addr.add_mid, Nat.zero_add, Lib.bytesWorld_cell _ _ _ _ (by simpa using hj)]
  rw [List.getElem?_map, List.getElem?_eq_getElem hj] at hu
  rw [← hu]
  simp [bv, List.getD_eq_getElem?_getD]
  simp at hj
  simp [hj]
set_option maxRecDepth 100000 in
theorem text_any (A : Option Addr) (c : Nat) (l : List UInt8) (s : ByteArray) (w : World) (hp : Rd w A l) (hl : l.length ≤ 1099510000000) (hs : s.size ≤ 1048576) :
    Calls Try.prog 53 #[.slice A l.length c, .string s] w (TupB w.heap.size w (l ++ numB s.size ++ s.data.toList) 0) := by
  have CN := Lib.hid (number_any A c l s.size (by unfold N64; omega) w hp (by omega))
  have kc := fun W => Lib.run_convert_string_bytes (P := Try.prog) W 9 48 5 s Try.underlying9 Try.underlying48 Try.underlying5
  have kz := fun W => Lib.bytesWorld_size W 5 s
  have hb9 := Lib.hid (numB_len (n := s.size) (by unfold N64; omega))
  obtain ⟨L, hL⟩ : ∃ L, l ++ numB s.size ++ s.data.toList = L := ⟨_, rfl⟩
  rw [hL]
  have HL := Lib.hid hL
  clear hp hL
  go_enter Try.func53, Try.ntmps53
  go_wp2_with fail
  refine CN.out.mono ?_
  intro e w1 hf
  obtain ⟨A1, c1, m, rfl, HM, _, HR, HO, HB⟩ := hf.named
  clear hf
  have HB2 := Lib.hid (below_alloc (HB.out.trans ((bytesWorld_below w1 s).mono HB.out.size)) (.cells #[.slice (some ⟨w1.heap.size, 0, none⟩) s.data.toList.length (grownCap w1 s.size 0 5)] 48))
  have HQ := Lib.hid (RdP.new (W := Lib.bytesWorld w1 5 s) (H := w1.heap.size + 1) (by rw [kz]) [(some ⟨w1.heap.size, 0, none⟩, grownCap w1 s.size 0 5, s.data.toList)] (fun p hp => by
      simp only [List.mem_cons, List.not_mem_nil, or_false] at hp
      subst hp
      exact bytesWorld_rd w1 s))
  have hlen : m.length ≤ 1099510000009 := by
    rw [HM.out, List.length_append]; have := hb9.out; omega
  have CP := put_any_ (A1, c1, m) (some ⟨w1.heap.size + 1, 0, none⟩) 1 [(some ⟨w1.heap.size, 0, none⟩, grownCap w1 s.size 0 5, s.data.toList)] _ (HR.out.below (below_alloc (bytesWorld_below w1 s) (.cells #[.slice (some ⟨w1.heap.size, 0, none⟩) s.data.toList.length (grownCap w1 s.size 0 5)] 48))) HQ.out (by
    simp only [allB, List.map_cons, List.map_nil, List.flatten_cons, List.flatten_nil, List.append_nil, List.length_append, Array.length_toList]
    have : s.data.size = s.size := rfl
    omega) (by simp)
  rw [show allB [(A1, c1, m), (some ⟨w1.heap.size, 0, none⟩, grownCap w1 s.size 0 5, s.data.toList)] = L by rw [← HL.out, HM.out]; simp [allB]] at CP
  have CP := Lib.hid CP
  go_wp2_with fail
  refine CP.out.mono ?_
  intro e w2 hf
  obtain ⟨v, rfl, h1, h2⟩ := hf.lift HB2.out
  have H1 := Lib.hid h1
  have H2 := Lib.hid h2
  clear h1 h2 hf CP
  go_wp2_with fail
  go_ret2
  exact ⟨_, rfl, H1.out, H2.out⟩
/-- A text as bytes. -/
def txtB (s : ByteArray) : List UInt8 := numB s.size ++ s.data.toList
theorem txtB_len {s : ByteArray} (h : s.size ≤ 1048576) : (txtB s).length ≤ 9 + s.size := by
  have := numB_len (n := s.size) (by unfold N64; omega)
  have e : s.data.toList.length = s.size := rfl
  unfold txtB; rw [List.length_append, e]; omega
theorem text_n {A : Option Addr} {c n : Nat} {l : List UInt8} {s : ByteArray} {w : World} (hn : l.length = n) (hp : Rd w A l) (hl : n ≤ 1000000000) (hs : s.size ≤ 1048576) :
    Calls Try.prog 53 #[.slice A n c, .string s] w (TupB w.heap.size w (l ++ txtB s) 0) := by
  subst hn
  have := text_any A c l s w hp (by omega) hs
  rw [List.append_assoc] at this; exact this
theorem number_n {A : Option Addr} {c n : Nat} {l : List UInt8} {x : Nat} {w : World} (hn : l.length = n) (hx : N64 x) (hp : Rd w A l) (hl : n ≤ 1000000000) :
    Calls Try.prog 25 #[.slice A n c, .int .u64 x] w (FreshB w (l ++ numB x)) := by
  subst hn; exact number_any A c l x hx w hp (by omega)
theorem signed_n {A : Option Addr} {c n : Nat} {l : List UInt8} {x : Int} {w : World} (hn : l.length = n) (hx : In64 x) (hp : Rd w A l) (hl : n ≤ 1000000000) :
    Calls Try.prog 58 #[.slice A n c, .int .i64 x] w (FreshB w (l ++ numB (zz x))) := by
  subst hn; exact signed_any A c l x hx w hp (by omega)
/-- Labels as bytes. -/
def labB : List Lb → List UInt8
  | [] => []
  | x :: r => txtB x.1 ++ (txtB x.2 ++ labB r)
theorem labB_snoc (L : List Lb) (x : Lb) : labB (L ++ [x]) = labB L ++ (txtB x.1 ++ txtB x.2) := by
  induction L with
  | nil => simp [labB]
  | cons y r ih => simp only [List.cons_append, labB, ih, List.append_assoc]
theorem labB_len : ∀ (L : List Lb), (∀ x ∈ L, x.1.size ≤ 300 ∧ x.2.size ≤ 300) → (labB L).length ≤ 618 * L.length
  | [], _ => by simp [labB]
  | x :: r, h => by
    have h1 := labB_len r (fun y hy => h y (List.mem_cons_of_mem _ hy))
    have h2 := h x (by simp)
    have h3 := txtB_len (s := x.1) (by omega)
    have h4 := txtB_len (s := x.2) (by omega)
    simp only [labB, List.length_append, List.length_cons]; omega
/-- A row of bytes, with its length. -/
theorem OwnB.len_ {w : World} {b : Nat} {v : Value} {l : List UInt8} (h : OwnB w b v l) : ∃ A c n, v = .slice A n c ∧ l.length = n ∧ Rd w A l := by
  obtain ⟨A, c, e, _, _, h3⟩ := h.form
  exact ⟨A, c, _, e, rfl, h3⟩
theorem conv_n {w : World} {A : Option Addr} {c n : Nat} {l : List UInt8} (hn : l.length = n) (h : Rd w A l) : (convert 48 9 (.slice A n c)).run Try.prog w = .ok (.string ⟨l.toArray⟩) w := by
  subst hn; exact conv_rd h
set_option maxHeartbeats 4000000 in
set_option maxRecDepth 100000 in
theorem lkey_any {A : Option Addr} {c n : Nat} {L : List Lb} {w : World} (hn : L.length = n) (h : RdLb w A L) (hE : labE L = 0) (hS : smallL L) : Calls Try.prog 59 #[.slice A n c] w fun e w' => e = .returned (.string ⟨(labB L).toArray⟩) ∧ Below w.heap.size w w' := by
  have HN := Lib.hid hn
  have H := Lib.hid h
  have HS := Lib.hid hS
  have CC := Lib.hid (lcheck_n (c := c) hn h)
  rw [hE] at CC
  have hn30 : n ≤ 30 := by rw [← hn]; exact hS.1
  obtain ⟨R, hR⟩ : ∃ R, labB L = R := ⟨_, rfl⟩
  rw [hR]
  have HR := Lib.hid hR
  clear hn h hS hE hR
  go_enter Try.func59, Try.ntmps59
  go_wp2_with fail
  refine CC.out.mono ?_
  rintro e w1 ⟨rfl, hb1⟩
  have HB1 := Lib.hid hb1
  clear hb1 CC
  go_wp2_with fail
  go_loopw [3, 11] (fun s v wr => ∃ k : Nat, v = .int .i64 (k : Int) ∧ k ≤ n ∧ Hid (OwnB wr w.heap.size s (labB (L.take k))) ∧ Hid (Below w.heap.size w wr)) (fun _ v _ => n - (intOf v).toNat)
  case atStart => exact ⟨0, rfl, Nat.zero_le _, Lib.hid OwnB.nil_, HB1⟩
  clear HB1
  case round =>
    obtain ⟨k, rfl, hk, HO, HB⟩ := hrel
    obtain ⟨BA, bc, bn, rfl, hbn, hrd⟩ := HO.out.len_
    have HRd := Lib.hid hrd
    by_cases h0 : k < n
    · have hkL : k < L.length := by rw [HN.out]; exact h0
      obtain ⟨ad, rfl, hlt, c0, c1⟩ := (H.out.below HB.out).at_ hkL
      have hsz := HS.out.2 _ (List.getElem_mem hkL)
      have hlb : (labB (L.take k)).length ≤ 618 * 30 := by
        have h1 := labB_len (L.take k) (fun x hx => HS.out.2 x (List.mem_of_mem_take hx))
        have h2 : (L.take k).length ≤ 30 := by rw [List.length_take]; omega
        omega
      have hT : labB (L.take (k + 1)) = labB (L.take k) ++ (txtB L[k].1 ++ txtB L[k].2) := by rw [← List.take_append_getElem hkL, labB_snoc]
      obtain ⟨⟨x, y⟩, hxy⟩ : ∃ x, L[k] = x := ⟨_, rfl⟩
      rw [hxy] at c0 c1 hsz hT
      simp only at c0 c1 hsz hT
      obtain ⟨D, hD⟩ : ∃ D, labB (L.take k) = D := ⟨_, rfl⟩
      rw [hD] at hT hbn HRd hlb
      have HT := Lib.hid hT
      have HBn := Lib.hid hbn
      have hbn2 : bn ≤ 18540 := by omega
      have hw : IntKind.i64.wrap ((k : Int) + 1) = ((k + 1 : Nat) : Int) := by rw [IntKind.wrap_i64]; omega
      have hkI : (k : Int) < (n : Int) := by omega
      have HA := Lib.hid (below_alloc (Below.refl wr.heap.size wr) (.cells #[.string x, .string y] 76))
      have HX := Lib.hid (newB wr (.cells #[.string x, .string y] 76))
      have CT := Lib.hid (text_n (c := bc) (s := x) hbn (HRd.out.below HA.out) (by omega) (by omega))
      have HSz := Lib.hid hsz
      have hs1 : (txtB x).length ≤ 309 := by have := txtB_len (s := x) (by omega); omega
      have HS1 := Lib.hid hs1
      clear hkL hsz hlb hT hxy hD hbn hs1 hrd HO
      go_wp2_with fail
      clear c0 c1
      have d0 := cellAt (o := 0) HX.out rfl
      have d1 := cellAt (o := 1) HX.out rfl
      refine CT.out.mono ?_
      rintro e w2 ⟨v, rfl, ho2, hb2⟩
      obtain ⟨A2, c2, n2, rfl, hn2, hrd2⟩ := ho2.len_
      have HB2 := Lib.hid (HB.out.trans ((HA.out.trans (hb2.mono HA.out.size)).mono HB.out.size))
      have HX2 := Lib.hid (keepB HX.out hb2)
      have hn2b : n2 ≤ 18849 := by rw [← hn2, List.length_append, HBn.out]; have := HS1.out; omega
      have CT2 := Lib.hid (text_n (c := c2) (s := y) hn2 hrd2 (by omega) (by have := HSz.out; omega))
      clear ho2 hb2 d0 d1 CT HA HX hn2 hrd2
      have d1 := cellAt (o := 1) HX2.out rfl
      go_wp2_with fail
      refine CT2.out.mono ?_
      rintro e w3 ⟨v, rfl, ho3, hb3⟩
      have HB3 := Lib.hid (HB2.out.trans (hb3.mono HB2.out.size))
      have HO3 : Hid (OwnB w3 w.heap.size v (labB (L.take (k + 1)))) := Lib.hid (by rw [HT.out, ← List.append_assoc]; exact ho3.lower HB2.out.size)
      obtain ⟨A3, c3, n3, rfl, _, _⟩ := ho3.len_
      clear ho3 hb3 d1 CT2
      go_wp2_with fail
      go_roundw
      case rel => exact ⟨k + 1, by go_num, by omega, HO3, HB3⟩
      case measure => simp [intOf]; omega
    · have hkI : ¬ (k : Int) < (n : Int) := by omega
      have hf : L.take k = L := List.take_of_length_le (by rw [HN.out]; omega)
      rw [hf, HR.out] at HRd hbn
      have kc := conv_n (c := bc) hbn HRd.out
      clear hbn hf
      go_wp2_with fail
      go_ret
      exact ⟨rfl, HB.out⟩
/-- A series' key. -/
def keyB (m : ByteArray) (L : List Lb) : List UInt8 := txtB m ++ labB L
theorem keyB_len {m : ByteArray} {L : List Lb} (h : smallS m L) : (keyB m L).length ≤ 19000 := by
  have h1 := labB_len L h.2.2
  have h2 := txtB_len (s := m) (by have := h.1; omega)
  have := h.2.1
  have := h.1
  unfold keyB; rw [List.length_append]; omega
theorem str_app (a b : List UInt8) : (ByteArray.mk a.toArray) ++ (ByteArray.mk b.toArray) = ByteArray.mk (a ++ b).toArray := by
  apply ByteArray.ext
  simp [ByteArray.data_append]
set_option maxHeartbeats 4000000 in
set_option maxRecDepth 100000 in
theorem skey_any {m : ByteArray} {A : Option Addr} {c n : Nat} {L : List Lb} {w : World} (hn : L.length = n) (h : RdLb w A L) (hE : serE m L = 0) (hS : smallS m L) : Calls Try.prog 57 #[.agg #[.string m, .slice A n c]] w fun e w' => e = .returned (.string ⟨(keyB m L).toArray⟩) ∧ Below w.heap.size w w' := by
  have HB := Lib.hid (below_alloc (Below.refl w.heap.size w) (.cells #[.string m, .slice A n c] 31))
  have HX := Lib.hid (newB w (.cells #[.string m, .slice A n c] 31))
  have CC := Lib.hid (cser_any (m := m) (c := c) hn (h.below HB.out))
  rw [hE] at CC
  have hL : labE L = 0 := by
    unfold serE at hE
    split at hE
    · exact hE
    · cases hE
  have CK := Lib.hid (fun W (hb : Below w.heap.size w W) => lkey_any (c := c) hn (h.below hb) hL hS.2)
  have CT := Lib.hid (fun W => text_n (A := none) (c := 0) (n := 0) (l := []) (s := m) (w := W) rfl Rd.nil_ (by omega) (by have := hS.1; omega))
  simp only [List.nil_append] at CT
  have HE : Hid ((ByteArray.mk (txtB m).toArray) ++ (ByteArray.mk (labB L).toArray) = ByteArray.mk (keyB m L).toArray) := Lib.hid (str_app _ _)
  obtain ⟨K, hK⟩ : ∃ K, ByteArray.mk (keyB m L).toArray = K := ⟨_, rfl⟩
  obtain ⟨K2, hK2⟩ : ∃ K, ByteArray.mk (labB L).toArray = K := ⟨_, rfl⟩
  obtain ⟨T, hT⟩ : ∃ T, txtB m = T := ⟨_, rfl⟩
  obtain ⟨K1, hK1⟩ : ∃ K, ByteArray.mk T.toArray = K := ⟨_, rfl⟩
  rw [hT] at CT HE
  rw [hK1, hK2, hK] at HE
  rw [hK2] at CK
  rw [hK]
  have HK1 := Lib.hid hK1
  have he := HE.out
  have HSz : Hid (¬ 9223372036854775807 < K1.size + K2.size) := Lib.hid (by
    have e1 : K1.size = T.length := by rw [← hK1]; simp [ByteArray.size]
    have e2 : K2.size = (labB L).length := by rw [← hK2]; simp [ByteArray.size]
    have h1 := keyB_len hS
    unfold keyB at h1
    rw [List.length_append, hT] at h1
    omega)
  have d0 := cellAt (o := 0) HX.out rfl
  have d1 := cellAt (o := 1) HX.out rfl
  clear hn h hE hS hL hK hK2 hT hK1 HE
  go_enter Try.func57, Try.ntmps57
  go_wp2_with fail
  refine CC.out.mono ?_
  rintro e w1 ⟨rfl, hb1⟩
  have HB1 := Lib.hid (HB.out.trans (hb1.mono HB.out.size))
  have HX1 := Lib.hid (keepB HX.out hb1)
  clear hb1 d0 d1 CC
  have d0 := cellAt (o := 0) HX1.out rfl
  go_wp2_with fail
  refine (CT.out _).mono ?_
  rintro e w2 ⟨v, rfl, ho2, hb2⟩
  obtain ⟨A2, c2, n2, rfl, hn2, hrd2⟩ := ho2.len_
  have HB2 := Lib.hid (HB1.out.trans (hb2.mono HB1.out.size))
  have HX2 := Lib.hid (keepB HX1.out hb2)
  have HN2 := Lib.hid hn2
  have HR2 := Lib.hid hrd2
  clear ho2 hb2 d0 CT hn2 hrd2
  go_wp2_with fail
  refine wp_region_here 7 [(0, false), (1, false), (2, false), (3, false), (4, false), (5, false), (6, false)] (fun _ => .cells #[] 0) (by kernel_rfl) (by kernel_rfl) ?_
  repeat (first | (refine wpP_q rfl rfl rfl ?_; apply Exists.intro; refine ⟨fun w' hw' => ?_, fun K hK => ?_⟩; (focus ((have d1 := cellAt (o := 1) (keepB HX2.out hw') rfl; have kc := conv_n (c := c2) HN2.out (HR2.out.below hw'); rw [HK1.out] at kc; have hsz := HSz.out); go_simp; first | exact quiet_value | with_reducible exact quiet_enter (CK.out _ (HB2.out.trans (hw'.mono HB2.out.size))))); simp only [Act.put, List.setIfInBounds_toArray, List.set_cons_zero, List.set_cons_succ]; refine hK.out _ ?_; clear hK K) | (refine wpP_skip rfl rfl rfl (fun K hK => ?_); simp only [Act.put, List.setIfInBounds_toArray, List.set_cons_zero, List.set_cons_succ]; refine hK.out _ ?_; clear hK K))
  refine wpP_nil ?_
  intro w3 hb3
  have HB3 := Lib.hid (HB2.out.trans (hb3.mono HB2.out.size))
  clear hb3
  (try simp only [List.drop_succ_cons]); (try simp only [List.drop_zero]); (try simp only [List.drop_nil])
  go_wp2_with fail
  go_ret
  exact ⟨rfl, HB3.out⟩
end Go.Proofs.Ytjnkcgegmffncaa
