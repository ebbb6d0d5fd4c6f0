/- WireCalls: for every input the law returns true, and its arguments read as they did. No condition. (the guards and the frame) -/
import Derived.Test.YtboldddmknpchaaWCalls
import Derived.Deep.SlicePairs
import Derived.ChangeSlices
import Derived.ChangeMaps5
namespace Go.Proofs.Ytboldddmknpchaa
open Go.ChangeShapes Go.WideShapes Go.ChangeAt Go.RowKit Go.Joins Go.Deep
set_option maxRecDepth 1000000 in
/-- Beyond the guards. -/
theorem wcalls_out (A C : Option Addr) (a b c d : Nat) (x n : Int) (s : ByteArray) (h : 5000 < a ∨ 5000 < b ∨ 5000 < s.size) (hn : a ≤ maxLen) (hm : b ≤ maxLen) (hs : s.size ≤ maxLen) (w : World) :
    Calls Try.prog 3 #[.slice A a c, .slice C b d, .int .u64 x, .int .i64 n, .string s] w fun e w' => e = .returned (.bool true) ∧ Below w.heap.size w w' := by
  unfold maxLen at hn hm hs
  have HB := Below.refl w.heap.size w
  by_cases h1 : 5000 < a
  · have e1 : (5000 : Int) < (a : Int) := by omega
    clear h
    go_enter Try.func3, Try.ntmps3
    go_wp2_with fail; refine (wlives_any _).mono ?_; rintro e w1 ⟨rfl, hb⟩; replace HB := HB.trans (hb.mono HB.size); clear hb
    go_wp2_with fail
    go_ret
    exact ⟨rfl, HB⟩
  have e1 : ¬ (5000 : Int) < (a : Int) := by omega
  by_cases h2 : 5000 < b
  · have e2 : (5000 : Int) < (b : Int) := by omega
    clear h h1
    go_enter Try.func3, Try.ntmps3
    go_wp2_with fail; refine (wlives_any _).mono ?_; rintro e w1 ⟨rfl, hb⟩; replace HB := HB.trans (hb.mono HB.size); clear hb
    go_wp2_with fail
    go_ret
    exact ⟨rfl, HB⟩
  have e2 : ¬ (5000 : Int) < (b : Int) := by omega
  have e3 : (5000 : Int) < (s.size : Int) := by omega
  clear h h1 h2
  go_enter Try.func3, Try.ntmps3
  go_wp2_with fail; refine (wlives_any _).mono ?_; rintro e w1 ⟨rfl, hb⟩; replace HB := HB.trans (hb.mono HB.size); clear hb
  go_wp2_with fail
  go_ret
  exact ⟨rfl, HB⟩
theorem cells8 : Try.prog.cellsOf 5 = 1 := by kernel_rfl
theorem cell_lt8 {w : World} {a : Addr} {v : Value} (h : w.cell? a = some v) : a.block < w.heap.size := by
  rcases Nat.lt_or_ge a.block w.heap.size with h1 | h1
  · exact h1
  · simp [World.cell?, Array.getElem?_eq_none h1] at h
theorem add_block8 (a : Addr) (n : Nat) : (a.add n).block = a.block := by unfold Addr.add; split <;> rfl
theorem bv_ofNat {z : Int} (h : (Lit.int .u8 z).wf = true) : bv (UInt8.ofNat z.toNat) = .int .u8 z := by
  simp [Lit.wf, IntKind.min, IntKind.max, IntKind.signed, IntKind.bits] at h
  simp only [bv, UInt8.toNat_ofNat']
  congr 1
  omega
section
variable {H : Type} {enc : TypeId × Value → H} {w : World} {base : Nat} {spare : Nat → Bool} {held : Bool}
/-- An argument that is a row of bytes. -/
theorem open_bytes {r : Reach} {b0 : Nat} {v : Value} {d : DataW H} {p : List MemPlace} (hv : Value.okWide Try.prog w r b0 22 v) (h : DataW.Trod enc Try.prog w base spare held 22 v d p) :
    ∃ (A : Option Addr) (l : List UInt8) (cap : Nat), v = .slice A l.length cap ∧ l.length ≤ cap ∧ cap ≤ maxLen ∧ Rd w A l := by
  obtain ⟨A, n0, c0, rfl⟩ := okWide_slice Try.underlying22 hv
  obtain ⟨fuel, hf⟩ := h
  rcases open_ints Try.underlying22 Try.underlying5 cells8 hf with ⟨hc, _⟩ | ⟨a, len, cap, zs, hc, _, hl, hm, hz, _, hx, hw⟩
  · exact ⟨none, [], 0, by simpa [Value.cells] using hc, by simp, by simp [maxLen], Rd.nil_⟩
  · have hlz : len ≤ zs.length := by rw [hz]; split <;> omega
    have hlen : ((zs.take len).map fun z => UInt8.ofNat z.toNat).length = len := by simp; omega
    refine ⟨some a, (zs.take len).map fun z => UInt8.ofNat z.toNat, cap, ?_, by omega, hm, ?_⟩
    · rw [hlen]; simpa [Value.cells] using hc
    · refine ⟨by simp, fun h0 => ⟨a, rfl, ?_, fun j u hu => ?_⟩⟩
      · rw [hlen] at h0
        have := cell_lt8 (hx 0 (by omega)); rwa [add_block8] at this
      · have hj : j < len := by
          have := (List.getElem?_eq_some_iff.1 hu).1
          simp at this; omega
        have hj' : j < zs.length := by omega
        rw [hx j hj']
        simp [hj, hj'] at hu
        rw [← hu, bv_ofNat (hw _ (List.getElem_mem hj'))]
        simp [List.getD_eq_getElem?_getD, hj']
end
theorem wcalls_any {w : World} (A C : Option Addr) (c d : Nat) (l m : List UInt8) (x : Nat) (n : Int) (s : ByteArray) (hp : Rd w A l) (hq : Rd w C m) (hx : N64 x) (hn : In64 n) (hcl : l.length ≤ c) (hclm : c ≤ maxLen) (hml : m.length ≤ maxLen) (hs : s.size ≤ maxLen) :
    Calls Try.prog 3 #[.slice A l.length c, .slice C m.length d, .int .u64 x, .int .i64 n, .string s] w fun e w' => e = .returned (.bool true) ∧ Below w.heap.size w w' := by
  by_cases h : 5000 < l.length ∨ 5000 < m.length ∨ 5000 < s.size
  · exact wcalls_out A C _ _ c d x n s h (by omega) hml hs w
  · exact wcalls_core A C c d l m x n s w hp hq (by omega) (by omega) (by omega) hx hn hcl hclm
set_option maxRecDepth 100000 in
theorem wireCalls_lifted (os : Os) (started : os.Started) (H : Type) (enc : TypeId × Value → H) :
    ReturnsInHanded {} Try.checked os 3 .any (Rows.wireCallsSpec.pre6 enc Try.prog Try.f3 Rows.wireCallsRow.domain false) (Rows.wireCallsSpec.post enc Try.prog Try.f3 false true false false) := by
  refine returnsInHanded_of_change (C := Try.checked) ownL started (by kernel_rfl) Try.func3
    (ChangeSpec.witness6 (enc := enc) (C := Try.checked) false ⟨#[], #[.slice none 0 0, .slice none 0 0, .int .u64 0, .int .i64 0, .string ⟨#[]⟩], []⟩ 8 (by kernel_rfl) (by kernel_rfl) (by kernel_rfl) (by kernel_rfl)) ?_
  intro W base args ds gs before hval0 hW hcnd _
  have hval : ∀ (j : Nat) t v, Try.f3.params[j]? = some t → args[j]? = some v → Value.okWide Try.prog W .any base t v := hval0
  have hW' := hW
  obtain ⟨p, q, hA0, hV, rfl, hfz, hnd⟩ := hW
  have hA : DataW.TrodAll enc Try.prog W 0 (fun _ => true) true Try.f3.params.toList args.toList ds p := hA0
  rw [Try.params3] at hA hval
  obtain ⟨v0, vs, d0, ds0, p0, q0, hargs, rfl, rfl, h0, hr0⟩ := trodAll_cons hA
  obtain ⟨v1, vs1, d1, ds1, p1, q1, rfl, rfl, rfl, h1, hr1⟩ := trodAll_cons hr0
  obtain ⟨v2, vs2, d2, ds2, p2, q2, rfl, rfl, rfl, h2, hr2⟩ := trodAll_cons hr1
  obtain ⟨v3, vs3, d3, ds3, p3, q3, rfl, rfl, rfl, h3, hr3⟩ := trodAll_cons hr2
  obtain ⟨v4, vs4, d4, ds4, p4, q4, rfl, rfl, rfl, h4, hr4⟩ := trodAll_cons hr3
  obtain ⟨rfl, rfl, rfl⟩ := trodAll_nil hr4
  obtain rfl : args = #[v0, v1, v2, v3, v4] := by cases args; simp_all
  obtain ⟨rfl, rfl⟩ := trodVars_none hV
  obtain ⟨A, l, c, rfl, hcl, hclm, hp⟩ := open_bytes (hval 0 22 v0 rfl rfl) h0
  obtain ⟨C, m, d, rfl, hdm, hdmm, hq⟩ := open_bytes (hval 1 22 v1 rfl rfl) h1
  obtain ⟨x, rfl, rfl, rfl, wx⟩ := open_int Try.underlying23 (hval 2 23 v2 rfl rfl) h2
  obtain ⟨n, rfl, rfl, rfl, wn⟩ := open_int Try.underlying2 (hval 3 2 v3 rfl rfl) h3
  obtain ⟨s, rfl, rfl, rfl, ws⟩ := Go.ChangeMaps.open_string Try.underlying9 (hval 4 9 v4 rfl rfl) h4
  have hn : In64 n := by
    simp [Lit.wf, IntKind.min, IntKind.max, IntKind.signed, IntKind.bits] at wn
    unfold In64; omega
  obtain ⟨k, rfl, hk⟩ : ∃ k : Nat, x = (k : Int) ∧ N64 k := by
    simp [Lit.wf, IntKind.min, IntKind.max, IntKind.signed, IntKind.bits] at wx
    exact ⟨x.toNat, by omega, by unfold N64; omega⟩
  clear hA0 hval0
  refine (wcalls_any A C c d l m k n s hp hq hk hn hcl hclm (by omega) ws).mono fun e W' ⟨he, hb⟩ => ?_
  subst he
  exact ⟨_, rfl, law_post laidOut (by kernel_rfl) rfl rfl rfl hW' (fun _ _ _ => trodAll_mk1 (shut_bool Try.underlying4 _)) hb (ok_one (by kernel_rfl) rfl (okWide_bool_mk Try.underlying4 _))⟩
theorem wireCalls_holds : Rows.WireCallsSaid :=
  OpenClaim.holds_of_wide 3 Try.f3 rfl rfl rfl rfl rfl rfl rfl ⟨rfl, rfl, rfl, rfl, rfl⟩ rfl rfl rfl rfl rfl (by kernel_rfl) Try.func3 (by kernel_rfl)
    (of_decide_eq_true (by kernel_rfl)) (by unfold Func.isWrapper; first | (rw [if_pos (by decide +kernel)]; kernel_rfl) | (rw [if_neg (by decide +kernel)]; exact ⟨rfl, rfl⟩))
    (fun os started H enc _ => wireCalls_lifted os started H enc)
#print axioms wireCalls_holds
end Go.Proofs.Ytboldddmknpchaa
