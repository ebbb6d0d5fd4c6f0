/- Text, the program's and the reference's: contracts. -/
import Derived.Test.YtboldddmknpchaaWTxt
namespace Go.Proofs.Ytboldddmknpchaa
open Go.RowKit
theorem bytesWorld_below (w : World) (s : ByteArray) : Below w.heap.size w (Lib.bytesWorld w 5 s) :=
  ⟨rfl, rfl, rfl, by rw [Lib.bytesWorld_size]; omega, fun k hk => Lib.bytesWorld_at_old w _ s k hk⟩
theorem bytesWorld_rd (w : World) (s : ByteArray) : Rd (Lib.bytesWorld w 5 s) (some ⟨w.heap.size, 0, none⟩) s.data.toList := by
  refine ⟨by simp, fun _ => ⟨_, rfl, by rw [Lib.bytesWorld_size]; simp, fun j u hu => ?_⟩⟩
  have hj : j < s.data.toList.length := by
    rcases Nat.lt_or_ge j s.data.toList.length with h | h
    · exact h
    · rw [List.getElem?_eq_none (by simpa using h)] at hu; cases hu
  rw [Addr.add_mid, Nat.zero_add, Lib.bytesWorld_cell _ _ _ _ (by simpa using hj)]
  rw [List.getElem?_map, List.getElem?_eq_getElem hj] at hu
  rw [← hu]
  simp [bv, List.getD_eq_getElem?_getD]
  simp at hj
  simp [hj]
set_option maxRecDepth 100000 in
theorem text_any (A : Option Addr) (c : Nat) (l : List UInt8) (s : ByteArray) (w : World) (hp : Rd w A l) (hl : l.length ≤ 1099510000000) (hs : s.size ≤ 1048576) :
    Calls Try.prog 6 #[.slice A l.length c, .string s] w (TupB w.heap.size w (l ++ numB s.size ++ s.data.toList) 0) := by
  have CN := Lib.hid (number_any A c l s.size (by unfold N64; omega) w hp (by omega))
  have kc := fun W => Lib.run_convert_string_bytes (P := Try.prog) W 9 22 5 s Try.underlying9 Try.underlying22 Try.underlying5
  have kz := fun W => Lib.bytesWorld_size W 5 s
  have hb9 := Lib.hid (numB_len (n := s.size) (by unfold N64; omega))
  obtain ⟨L, hL⟩ : ∃ L, l ++ numB s.size ++ s.data.toList = L := ⟨_, rfl⟩
  rw [hL]
  have HL := Lib.hid hL
  clear hp hL
  go_enter Try.func6, Try.ntmps6
  go_wp2_with fail
  refine CN.out.mono ?_
  intro e w1 hf
  obtain ⟨A1, c1, m, rfl, HM, _, HR, HO, HB⟩ := hf.named
  clear hf
  have HB2 := Lib.hid (below_alloc (HB.out.trans ((bytesWorld_below w1 s).mono HB.out.size)) (.cells #[.slice (some ⟨w1.heap.size, 0, none⟩) s.data.toList.length (grownCap w1 s.size 0 5)] 22))
  have HQ := Lib.hid (RdP.new (W := Lib.bytesWorld w1 5 s) (H := w1.heap.size + 1) (by rw [kz]) [(some ⟨w1.heap.size, 0, none⟩, grownCap w1 s.size 0 5, s.data.toList)] (fun p hp => by
      simp only [List.mem_cons, List.not_mem_nil, or_false] at hp
      subst hp
      exact bytesWorld_rd w1 s))
  have hlen : m.length ≤ 1099510000009 := by
    rw [HM.out, List.length_append]; have := hb9.out; omega
  have CP := put_any_ (A1, c1, m) (some ⟨w1.heap.size + 1, 0, none⟩) 1 [(some ⟨w1.heap.size, 0, none⟩, grownCap w1 s.size 0 5, s.data.toList)] _ (HR.out.below (below_alloc (bytesWorld_below w1 s) (.cells #[.slice (some ⟨w1.heap.size, 0, none⟩) s.data.toList.length (grownCap w1 s.size 0 5)] 22))) HQ.out (by
    simp only [allB, List.map_cons, List.map_nil, List.flatten_cons, List.flatten_nil, List.append_nil, List.length_append, Array.length_toList]
    have : s.data.size = s.size := rfl
    omega) (by simp)
  rw [show allB [(A1, c1, m), (some ⟨w1.heap.size, 0, none⟩, grownCap w1 s.size 0 5, s.data.toList)] = L by rw [← HL.out, HM.out]; simp [allB]] at CP
  have CP := Lib.hid CP
  go_wp2_with fail
  refine CP.out.mono ?_
  intro e w2 hf
  obtain ⟨v, rfl, h1, h2⟩ := hf.lift HB2.out
  have H1 := Lib.hid h1
  have H2 := Lib.hid h2
  clear h1 h2 hf CP
  go_wp2_with fail
  go_ret2
  exact ⟨_, rfl, H1.out, H2.out⟩
theorem infoB' : ∃ i, Try.prog.info? 5 = some i ∧ i.zero = some (.int .u8 0) ∧ i.size = 1 ∧ i.bytes = 1 := info_parts infoB
set_option maxRecDepth 100000 in
theorem rtext_any (base : Nat) (v : Value) (l : List UInt8) (s : ByteArray) (w : World) (ho : OwnB w base v l) (hbase : base ≤ w.heap.size) (hl : l.length ≤ 1099510000000) (hs : s.size ≤ 1048576) :
    Calls Try.prog 8 #[v, .string s] w (TupB base w (l ++ numB s.size ++ s.data.toList) 0) := by
  have CN := Lib.hid (rnumber_any base v l s.size (by unfold N64; omega) w ho hbase (by omega))
  have hb9 := Lib.hid (numB_len (n := s.size) (by unfold N64; omega))
  obtain ⟨L, hL⟩ : ∃ L, l ++ numB s.size ++ s.data.toList = L := ⟨_, rfl⟩
  rw [hL]
  have HL := Lib.hid hL
  obtain ⟨i, hi, hz, h1, h2⟩ := infoB'
  clear ho hL
  go_enter Try.func8, Try.ntmps8
  go_wp2_with fail
  refine CN.out.mono ?_
  rintro e w1 ⟨v1, rfl, ho1, hb1⟩
  have HO := Lib.hid ho1
  have HB := Lib.hid hb1
  have HS := Lib.hid (Nat.le_trans hbase HB.out.size)
  have h9 := hb9.out
  clear ho1 hb1
  go_wp2_with (at_builtin; go_loud (refine Lib.wpList_append_own_string _ rfl (.tmp 13) (.tmp 14) 22 9 rfl base 5 i undB Try.underlying9 hi hz h1 h2 v1 (l ++ numB s.size).length ((l ++ numB s.size).map bv) rfl HO.out s rfl (by unfold maxLen; simp; omega) (by simp; omega) HS.out ?o5))
  case o5 =>
    intro v2 w2 ho2 hg _
    have HB2 := Lib.hid (made_below HB.out HO.out HS.out hg)
    have HO2 : Hid (OwnB w2 base v2 L) := by
      have e1 : L.length = (l ++ numB s.size).length + s.size := by rw [← HL.out, List.length_append]; rfl
      have e2 : L.map bv = (l ++ numB s.size).map bv ++ Lib.strCells s := by rw [← HL.out, List.map_append]; rfl
      unfold OwnB
      rw [e1, e2, List.length_append, List.map_append, List.append_assoc]
      exact ho2
    clear ho2 hg
    go_wp2_with fail
    go_ret2
    exact ⟨_, rfl, HO2.out, HB2.out⟩
end Go.Proofs.Ytboldddmknpchaa
