/- Parts of the proof: MkN MkQ MkX. -/
import Derived.Test.YtangcgfchalnaaaYax
import Derived.Test.YtangcgfchalnaaaYau
/- mark: what Next hands to DeleteFunc; IndexFunc. -/
namespace Go.Proofs.Ytangcgfchalnaaa
open Go.RowKit
section
variable {w w' : World} {B Ba : Nat} {ta : Int}
set_option maxRecDepth 100000 in
theorem nextF_any {m : ByteArray} {A : Option Addr} {n c : Nat} {tm x : Int} (h : w.heap[Ba]? = some (.cells #[.int .i64 ta] 2 (0, 0))) : Calls Try.prog 35 #[.agg #[.string m, .slice A n c, .int .i64 tm, .int .i64 x], .pointer (some ⟨Ba, 0, none⟩)] w fun e w' => e = .returned (.bool (decide (ta ≤ tm))) ∧ Below w.heap.size w w' := by
  have HX := Lib.hid (newB w (.cells #[.string m, .slice A n c, .int .i64 tm, .int .i64 x] 34))
  have HB := Lib.hid (below_alloc (Below.refl w.heap.size w) (.cells #[.string m, .slice A n c, .int .i64 tm, .int .i64 x] 34))
  have k0 := cellAt (o := 0) (keepA h (.cells #[.string m, .slice A n c, .int .i64 tm, .int .i64 x] 34)) rfl
  have k2 := cellAt (o := 2) HX.out rfl
  clear h
  go_enter Try.func35, Try.ntmps35
  go_wp2_with fail
  go_ret
  exact ⟨rfl, HB.out⟩
/-- A sample's cells. -/
theorem OutM.at_ {v : Value} {X : List Sm} (h : OutM w B v X) {k : Nat} (hk : k < X.length) : ∃ g c, v = .slice (some ⟨g, 0, none⟩) X.length c ∧ w.cell? ⟨g, k * 4, none⟩ = some (.string X[k].1) ∧ w.cell? ⟨g, k * 4 + 1, none⟩ = some (lsV X[k].2.1) ∧ w.cell? ⟨g, k * 4 + 2, none⟩ = some (.int .i64 X[k].2.2.1) ∧ w.cell? ⟨g, k * 4 + 3, none⟩ = some (.int .i64 X[k].2.2.2) := by
  obtain ⟨a, c, rfl⟩ := or_form h.row
  obtain ⟨g, rfl⟩ := or_addr h.row (by omega)
  refine ⟨g, c, rfl, ?_, ?_, ?_, ?_⟩
  · exact or_cell h.row (j := k * 4 + 0) (by rw [rowF_get (f := smc) (s := 4) (fun _ => rfl) X k hk 0 (by omega)]; rfl)
  · exact or_cell h.row (j := k * 4 + 1) (by rw [rowF_get (f := smc) (s := 4) (fun _ => rfl) X k hk 1 (by omega)]; rfl)
  · exact or_cell h.row (j := k * 4 + 2) (by rw [rowF_get (f := smc) (s := 4) (fun _ => rfl) X k hk 2 (by omega)]; rfl)
  · exact or_cell h.row (j := k * 4 + 3) (by rw [rowF_get (f := smc) (s := 4) (fun _ => rfl) X k hk 3 (by omega)]; rfl)
/-- The closure. -/
abbrev nxF (Ba : Nat) : Value := .func (.func 35) #[] #[.pointer (some ⟨Ba, 0, none⟩)]
set_option maxHeartbeats 4000000 in
set_option maxRecDepth 100000 in
theorem indexF_any {v : Value} {X : List Sm} {K : Nat} (h : OutM w B v X) (hB : w.heap[Ba]? = some (.cells #[.int .i64 ta] 2 (0, 0))) (hK : K < X.length) (h64 : X.length ≤ 1000000000) (hlo : ∀ j (hj : j < X.length), j < K → X[j].2.2.1 < ta) (hhi : ta ≤ X[K].2.2.1) :
    Calls Try.prog 67 #[v, nxF Ba] w fun e w' => e = .returned (.int .i64 (K : Int)) ∧ Below w.heap.size w w' := by
  obtain ⟨a, c, rfl⟩ := or_form h.row
  obtain ⟨g, rfl⟩ := or_addr h.row (by omega)
  have H := Lib.hid (And.intro h (And.intro hB (And.intro hlo hhi)))
  obtain ⟨n, hn⟩ : ∃ n, X.length = n := ⟨_, rfl⟩
  have HN := Lib.hid hn
  rw [hn] at hK h64 ⊢
  clear h hB hlo hhi hn
  go_enter Try.func67, Try.ntmps67
  go_wp2_with fail
  go_loopw [8] (fun v wr => ∃ k : Nat, v = .int .i64 (k : Int) ∧ k ≤ K ∧ Hid (Below w.heap.size w wr)) (fun v _ => K - (intOf v).toNat)
  case atStart => exact ⟨0, rfl, Nat.zero_le _, Lib.hid (Below.refl _ _)⟩
  case round =>
    obtain ⟨k, rfl, hk, HBr⟩ := hrel
    have hkX : k < X.length := by have := HN.out; omega
    obtain ⟨g', c', e', q0, q1, q2, q3⟩ := (H.out.1.below HBr.out).at_ hkX
    obtain ⟨rfl, rfl⟩ : g = g' ∧ c = c' := by simpa using e'
    obtain ⟨⟨m, ⟨la, lc, L⟩, tm, x⟩, hx⟩ : ∃ s, X[k] = s := ⟨_, rfl⟩
    rw [hx] at q0 q1 q2 q3
    simp only [lsV] at q0 q1 q2 q3
    obtain ⟨ln, hln⟩ : ∃ l, L.length = l := ⟨_, rfl⟩
    rw [hln] at q1
    have CF := Lib.hid (nextF_any (w := wr) (m := m) (A := la) (n := ln) (c := lc) (tm := tm) (x := x) (keepB H.out.2.1 HBr.out))
    have HX := Lib.hid hx
    have hkI : (k : Int) < (n : Int) := by omega
    have hkN : k < n := by omega
    have hw : IntKind.i64.wrap ((k : Int) + 1) = ((k + 1 : Nat) : Int) := by rw [IntKind.wrap_i64]; omega
    clear hx hln
    go_wp2_with fail
    refine CF.out.mono ?_
    rintro e w2 ⟨rfl, hb2⟩
    have HB2 := Lib.hid (HBr.out.trans (hb2.mono HBr.out.size))
    clear hb2 q0 q1 q2 q3 CF
    by_cases hkK : k = K
    · have hge : ta ≤ tm := by have := H.out.2.2.2; subst hkK; rw [HX.out] at this; exact this
      have hgd : decide (ta ≤ tm) = true := decide_eq_true hge
      subst hkK
      rw [hgd]
      go_wp2_with fail
      go_ret
      exact ⟨rfl, HB2.out⟩
    · have hlt : ¬ ta ≤ tm := by have := H.out.2.2.1 k hkX (by omega); rw [HX.out] at this; simp only at this; omega
      have hgd : decide (ta ≤ tm) = false := decide_eq_false hlt
      rw [hgd]
      go_wp2_with fail
      go_roundw
      case rel => exact ⟨k + 1, by go_num, by omega, HB2⟩
      case measure => simp [intOf]; omega
end
/-! ### DeleteFunc -/
def zSm : Array Value := #[.string ⟨#[]⟩, .slice none 0 0, .int .i64 0, .int .i64 0]
theorem zeroSm (W : World) : (zeroValue 34).run Try.prog W = .ok (.agg zSm) W := by
  obtain ⟨i, hi, hz, _⟩ := info_parts infoSm
  simp [zeroValue, typeInfo, hi, hz, zSm]
theorem zSm_one (n : Nat) : ∀ u ∈ (Builtin.zeroCells zSm n).toList, u.oneCell' = true := by
  intro u hu
  simp only [Builtin.zeroCells, Array.toList_map, Array.toList_range, List.mem_map] at hu
  obtain ⟨j, _, rfl⟩ := hu
  have h4 : j % zSm.size < 4 := Nat.mod_lt _ (by decide)
  obtain h | h | h | h : j % zSm.size = 0 ∨ j % zSm.size = 1 ∨ j % zSm.size = 2 ∨ j % zSm.size = 3 := by omega
  all_goals (rw [h]; rfl)
section
variable {w w' : World} {B Ba : Nat} {ta : Int}
/-- clear of a slice's end. -/
theorem clear_sm {v : Value} {X : List Sm} {k : Nat} (h : OutM w B v X) (hk : k < X.length) : ∃ g c W', v = .slice (some ⟨g, 0, none⟩) X.length c ∧ X.length ≤ c ∧ (∀ ty, (Builtin.clear_ #[22] ty #[.slice (some ⟨g, k * 4, none⟩) (X.length - k) (c - k)]).run Try.prog w = .ok (.tuple #[]) W') ∧ OutM W' B (.slice (some ⟨g, 0, none⟩) k c) (X.take k) ∧ Only (fun i => v.ownBlock = some i) w W' := by
  rcases h.row.2 with ⟨_, h0⟩ | ⟨g, c, cur, h1, h2, h3, h4, h5, h6, h7⟩
  · omega
  · have hl : ((Builtin.zeroCells zSm (X.length - k)).toList).length = (X.length - k) * 4 := by rw [Array.length_toList, size_zeroCells]; rfl
    have hst := run_storeCells_at Try.prog g (k * 4) 34 (Builtin.zeroCells zSm (X.length - k)).toList 0 cur w h3 (by rw [hl]; omega) (zSm_one _)
    simp only [Nat.add_zero] at hst
    refine ⟨g, c, w.setRow g (cur.toList.take (k * 4) ++ (Builtin.zeroCells zSm (X.length - k)).toList ++ cur.toList.drop (k * 4 + (Builtin.zeroCells zSm (X.length - k)).toList.length)).toArray, h1, h4, fun ty => ?_, ?_, ⟨rfl, rfl, rfl, by simp, fun i _ hi => setRow_other w g i _ (fun e => hi (by rw [h1, e]; rfl))⟩⟩
    · obtain ⟨m, hm⟩ : ∃ m, X.length - k = m + 1 := ⟨X.length - k - 1, by omega⟩
      rw [hm] at hst ⊢
      have e : (Builtin.clear_ #[22] ty #[.slice (some ⟨g, k * 4, none⟩) (m + 1) (c - k)]).run Try.prog w = ((storeCells ⟨g, k * 4, none⟩ (Builtin.zeroCells zSm (m + 1)).toList).run Try.prog w).andThen (fun _ w' => .ok (.tuple #[]) w') := by
        simp [Builtin.clear_, run_underlying Try.underlying22, Value.cells]
        rfl
      rw [e, hst]
      rfl
    · have hon : Only (fun i => v.ownBlock = some i) w (w.setRow g (cur.toList.take (k * 4) ++ (Builtin.zeroCells zSm (X.length - k)).toList ++ cur.toList.drop (k * 4 + (Builtin.zeroCells zSm (X.length - k)).toList.length)).toArray) := ⟨rfl, rfl, rfl, by simp, fun i _ hi => setRow_other w g i _ (fun e => hi (by rw [h1, e]; rfl))⟩
      refine ⟨?_, fun x hx => (h.lab x (List.mem_of_mem_take hx)).keep' hon (fun i hi e => ?_)⟩
      · have e : (X.take k).length = k := by rw [List.length_take]; omega
        rw [e]
        refine ⟨by rw [rowF_len (f := smc) (s := 4) (fun _ => rfl), e], .inr ⟨g, c, _, rfl, h2, setRow_heap w g cur _ _ _ h3, by omega, h5, ?_, ?_⟩⟩
        · simp only [List.size_toArray, List.length_append, List.length_take, List.length_drop, Array.length_toList, hl]
          omega
        · rw [List.append_assoc, List.take_append_of_le_length (by rw [List.length_take, Array.length_toList]; omega), List.take_take, Nat.min_self, rowF_cut (f := smc) (s := 4) (fun _ => rfl), ← h7, List.take_take, Nat.min_eq_left (by omega)]
      · obtain ⟨cu, hc⟩ := (h.lab x (List.mem_of_mem_take hx)).ty i hi
        rw [h1] at e
        cases e
        rw [h3] at hc; cases hc
set_option maxHeartbeats 4000000 in
set_option maxRecDepth 100000 in
theorem delF_any {v : Value} {X : List Sm} {K : Nat} (h : OutM w B v X) (hB : w.heap[Ba]? = some (.cells #[.int .i64 ta] 2 (0, 0))) (hK : K < X.length) (h64 : X.length ≤ 1000000000) (hlo : ∀ j (hj : j < X.length), j < K → X[j].2.2.1 < ta) (hhi : ∀ j (hj : j < X.length), K ≤ j → ta ≤ X[j].2.2.1) :
    Calls Try.prog 34 #[v, nxF Ba] w fun e w' => ∃ A c, e = .returned (.slice A K c) ∧ OutM w' B (.slice A K c) (X.take K) ∧ Only (fun i => v.ownBlock = some i) w w' := by
  have CI := Lib.hid (indexF_any h hB hK h64 hlo (hhi K hK (Nat.le_refl _)))
  obtain ⟨a, c, rfl⟩ := or_form h.row
  obtain ⟨g, rfl⟩ := or_addr h.row (by omega)
  have H := Lib.hid (And.intro h (And.intro hB hhi))
  obtain ⟨n, hn⟩ : ∃ n, X.length = n := ⟨_, rfl⟩
  have HN := Lib.hid hn
  rw [hn] at hK h64 CI ⊢
  obtain ⟨K1, hK1⟩ : ∃ k, K + 1 = k := ⟨_, rfl⟩
  have hw : IntKind.i64.wrap ((K : Int) + 1) = (K1 : Int) := by rw [IntKind.wrap_i64]; omega
  have hne : ¬ (K : Int) = -1 := by omega
  have HK1 := Lib.hid hK1
  have hK1n : K1 ≤ n := by omega
  clear h hB hlo hhi hn hK1
  go_enter Try.func34, Try.ntmps34
  go_wp2_with fail
  refine CI.out.mono ?_
  rintro e w1 ⟨rfl, hb1⟩
  have HB1 := Lib.hid hb1
  clear hb1 CI
  go_wp2_with fail
  clear hw hne
  go_loopw [5, 6] (fun iv v wr => ∃ k : Nat, iv = .int .i64 (K : Int) ∧ v = .int .i64 (k : Int) ∧ k ≤ n ∧ K1 ≤ k ∧ Hid (Below w.heap.size w wr)) (fun _ v _ => n - (intOf v).toNat)
  case atStart => exact ⟨K1, rfl, rfl, hK1n, Nat.le_refl _, HB1⟩
  case round =>
    obtain ⟨k, rfl, rfl, hk, hkK, HBr⟩ := hrel
    by_cases h0 : k < n
    · have hkX : k < X.length := by have := HN.out; omega
      obtain ⟨g', c', e', q0, q1, q2, q3⟩ := (H.out.1.below HBr.out).at_ hkX
      obtain ⟨rfl, rfl⟩ : g = g' ∧ c = c' := by simpa using e'
      obtain ⟨⟨m, ⟨la, lc, L⟩, tm, x⟩, hx⟩ : ∃ s, X[k] = s := ⟨_, rfl⟩
      rw [hx] at q0 q1 q2 q3
      simp only [lsV] at q0 q1 q2 q3
      obtain ⟨ln, hln⟩ : ∃ l, L.length = l := ⟨_, rfl⟩
      rw [hln] at q1
      have HA := Lib.hid (below_alloc (Below.refl wr.heap.size wr) (.cells #[.string m, .slice la ln lc, .int .i64 tm, .int .i64 x] 34))
      have HXn := newB wr (.cells #[.string m, .slice la ln lc, .int .i64 tm, .int .i64 x] 34)
      have y0 := cellAt (o := 0) HXn rfl
      have y1 := cellAt (o := 1) HXn rfl
      have y2 := cellAt (o := 2) HXn rfl
      have y3 := cellAt (o := 3) HXn rfl
      have CF := Lib.hid (nextF_any (w := wr.alloc (.cells #[.string m, .slice la ln lc, .int .i64 tm, .int .i64 x] 34)) (m := m) (A := la) (n := ln) (c := lc) (tm := tm) (x := x) (keepB (keepB H.out.2.1 HBr.out) HA.out))
      have hge : ta ≤ tm := by have := H.out.2.2 k hkX (by have := HK1.out; omega); rw [hx] at this; exact this
      have hgd : decide (ta ≤ tm) = true := decide_eq_true hge
      rw [hgd] at CF
      have hkI : (k : Int) < (n : Int) := by omega
      have hw : IntKind.i64.wrap ((k : Int) + 1) = ((k + 1 : Nat) : Int) := by rw [IntKind.wrap_i64]; omega
      clear hx hln HXn hge hgd
      go_wp2_with fail
      refine CF.out.mono ?_
      rintro e w2 ⟨rfl, hb2⟩
      have HB2 := Lib.hid (HBr.out.trans ((HA.out.trans (hb2.mono HA.out.size)).mono HBr.out.size))
      clear hb2 q0 q1 q2 q3 y0 y1 y2 y3 CF HA
      go_wp2_with fail
      go_roundw
      case rel =>
        exact ⟨_, _, _, _, _, _, _, _, _, _, _, _, _, _, _, _, _, _, _, _, _, _, _, ⟨k + 1, rfl, rfl, by omega, by omega, HB2⟩, rfl⟩
      case measure => simp [intOf]; omega
    · have hkI : ¬ (k : Int) < (n : Int) := by omega
      obtain ⟨g', c', W', e', hnc, hcl, hO, hOn⟩ := clear_sm (H.out.1.below HBr.out) (k := K) (by have := HN.out; omega)
      obtain ⟨rfl, rfl⟩ : g = g' ∧ c = c' := by simpa using e'
      rw [HN.out] at hcl hnc hOn
      have HF := Lib.hid (And.intro hO ((Only.of_below HBr.out).trans hOn))
      have hcl := hcl 0
      have hKI : (K : Int) ≤ (n : Int) := by omega
      have hKN : K ≤ n := by omega
      have hncI : (n : Int) ≤ (c : Int) := by omega
      have hKc : (K : Int) ≤ (c : Int) := by omega
      have hKcN : K ≤ c := by omega
      have hcK : ¬ c = K := by omega
      have hcK2 : ¬ K = c := by omega
      clear hO hOn e'
      go_wp2_with fail
      exact bodyPost_ret (v := .slice (some ⟨g, 0, none⟩) K c) (by simp only [results, Try.results34]; go_simp) rfl ⟨_, _, rfl, HF.out.1, HF.out.2⟩
end
end Go.Proofs.Ytangcgfchalnaaa

/- mark: Pass. -/
namespace Go.Proofs.Ytangcgfchalnaaa
open Go.RowKit Go.MapKept
def passE (la mo pa to : Int) : Int := if to < pa ∨ mkI la mo < to then 2 else 0
def passP (la mo pa to : Int) : Int := if to < pa ∨ mkI la mo < to then pa else to
section
variable {w : World} {F : Nat → Prop} {i : Nat} {la mo pa to : Int} {S : List SrP}
set_option maxHeartbeats 4000000 in
set_option maxRecDepth 100000 in
theorem mpass_any (h : IntO i la mo pa S w F) : Calls Try.prog 15 #[iptr i, .int .i64 to] w fun e w' => e = .returned (.int .i64 (passE la mo pa to)) ∧ Goes (IntO i la mo (passP la mo pa to) S) F w w' := by
  have HS := Lib.hid h
  obtain ⟨hk, own, t, v, bs, hC⟩ := h
  have CR := Lib.hid (mright_any hC)
  have CM := Lib.hid (mmark_c hC hk)
  have HC := Lib.hid (And.intro hC hk)
  have k2 := cellAt (o := 2) (v := .int .i64 pa) hC.box rfl
  have f2 := freeAt 2 hC.box
  obtain ⟨m, hm⟩ : ∃ m, mkI la mo = m := ⟨_, rfl⟩
  rw [hm] at CM
  obtain ⟨E, hE⟩ : ∃ E, passE la mo pa to = E := ⟨_, rfl⟩
  obtain ⟨p, hp⟩ : ∃ p, passP la mo pa to = p := ⟨_, rfl⟩
  rw [hE, hp]
  have HE : Hid ((to < pa ∨ m < to → E = 2 ∧ p = pa) ∧ (¬ (to < pa ∨ m < to) → E = 0 ∧ p = to)) := Lib.hid (by
    rw [← hE, ← hp, ← hm]
    unfold passE passP
    exact ⟨fun e => ⟨if_pos e, if_pos e⟩, fun e => ⟨if_neg e, if_neg e⟩⟩)
  have HM : Hid (m ≤ 1099511627776) := Lib.hid (by rw [← hm]; unfold mkI; have := hk.la0; have := hk.mo1; omega)
  clear hC hk hm hE hp
  by_cases h0 : to < pa
  · obtain ⟨rfl, rfl⟩ := HE.out.1 (.inl h0)
    clear HE
    go_enter Try.func15, Try.ntmps15
    go_wp2_with fail
    refine CR.out.mono ?_
    rintro e w1 ⟨rfl, rfl⟩
    go_wp2_with fail
    go_ret
    exact ⟨rfl, Goes.below (IntO.obj _ _ _ _ _) HS.out (Below.refl _ _)⟩
  · by_cases h1 : m < to
    · obtain ⟨rfl, rfl⟩ := HE.out.1 (.inr h1)
      clear HE
      go_enter Try.func15, Try.ntmps15
      go_wp2_with fail
      refine CR.out.mono ?_
      rintro e w1 ⟨rfl, rfl⟩
      go_wp2_with fail
      refine CM.out.mono ?_
      rintro e w1 ⟨rfl, hb⟩
      have HB := Lib.hid hb
      clear hb k2 f2
      go_wp2_with fail
      go_ret
      exact ⟨rfl, Goes.below (IntO.obj _ _ _ _ _) HS.out HB.out⟩
    · have HN := Lib.hid (And.intro h0 h1)
      have he := HE.out.2 (by omega)
      have HE2 := Lib.hid he
      clear he HE
      go_enter Try.func15, Try.ntmps15
      go_wp2_with fail
      refine CR.out.mono ?_
      rintro e w1 ⟨rfl, rfl⟩
      go_wp2_with fail
      refine CM.out.mono ?_
      rintro e w1 ⟨rfl, hb⟩
      have HB := Lib.hid hb
      have hbx := keepB HC.out.1.box hb
      have HBx := Lib.hid hbx
      clear hb k2 f2
      have k2 := cellAt (o := 2) hbx rfl
      have f2 := freeAt 2 hbx
      clear hbx
      go_wp2_with fail
      go_ret
      rw [HE2.out.1, HE2.out.2]
      refine ⟨rfl, ?_⟩
      obtain ⟨hC, hk⟩ := HC.out
      have hst := setCell_get (o := 2) (u := .int .i64 to) HBx.out
      have hO := Only.set w1 i 2 (.int .i64 to)
      have hD := ((hC.below HB.out).d.boxed (mo' := mo) (pa' := to) hO hst).c rfl rfl
      have hs := HB.out.size
      refine ⟨fun k => F k ∧ k < (w1.setCell ⟨i, 2, none⟩ (.int .i64 to)).heap.size, ⟨⟨hk.la0, hk.la1, hk.mo0, hk.mo1, by have := hk.pa0; have := HN.out; omega, by have := HM.out; have := HN.out; omega, hk.len⟩, own, t, v, bs, hD.weak (fun k hk h => ⟨h, hk⟩)⟩, fun k hk => ⟨.inl hk.1, hk.2⟩, (Only.of_below HB.out).then hO (fun k _ e => by rw [show k = i from e]; exact hC.inF)⟩
end
end Go.Proofs.Ytangcgfchalnaaa

/- mark: Next, of more than 0; Between, Samples. -/
namespace Go.Proofs.Ytangcgfchalnaaa
open Go.RowKit
/-- The time where Next stops. -/
def nxA (M : List Ev) (mn : Nat) : Int := (M.getD mn (0, 0, 0)).1
def nxK (M : List Ev) (mn : Nat) : Nat := M.countP (fun e => decide (e.1 < nxA M mn))
/-- What Next tells. -/
def nxL (M : List Ev) (mn : Nat) : List Ev := if M.length ≤ mn then M else M.take (nxK M mn)
def nxT (M : List Ev) (mn : Nat) (pa mk : Int) : Int := if M.length ≤ mn then mk else if nxK M mn = 0 then pa else nxA M mn - 1
theorem srt_time {M : List Ev} (h : SrtE M) {i j : Nat} (hi : i < M.length) (hj : j < M.length) (hij : i ≤ j) : M[i].1 ≤ M[j].1 := by
  rcases Nat.lt_or_eq_of_le hij with h1 | h1
  · have := (List.pairwise_iff_getElem.1 h) i j hi hj h1
    rw [ltE_iff] at this
    omega
  · subst h1; exact Int.le_refl _
/-- The events before a time are the first ones. -/
theorem srt_count (t : Int) : ∀ {M : List Ev}, SrtE M → (∀ j (hj : j < M.length), j < M.countP (fun e => decide (e.1 < t)) → M[j].1 < t) ∧ (∀ j (hj : j < M.length), M.countP (fun e => decide (e.1 < t)) ≤ j → t ≤ M[j].1)
  | [], _ => ⟨fun j hj => by simp at hj, fun j hj => by simp at hj⟩
  | a :: M, h => by
    obtain ⟨h1, h2⟩ := List.pairwise_cons.1 h
    obtain ⟨i1, i2⟩ := srt_count t h2
    by_cases ha : a.1 < t
    · have e : (a :: M).countP (fun e => decide (e.1 < t)) = M.countP (fun e => decide (e.1 < t)) + 1 := List.countP_cons_of_pos (by simpa using ha)
      rw [e]
      refine ⟨fun j hj hk => ?_, fun j hj hk => ?_⟩
      · cases j with
        | zero => exact ha
        | succ j => exact i1 j (by simpa using hj) (by omega)
      · cases j with
        | zero => omega
        | succ j => exact i2 j (by simpa using hj) (by omega)
    · have hz : M.countP (fun e => decide (e.1 < t)) = 0 := by
        rw [List.countP_eq_zero]
        intro b hb
        have := h1 b hb
        rw [ltE_iff] at this
        simp only [decide_eq_true_eq]
        omega
      have e : (a :: M).countP (fun e => decide (e.1 < t)) = 0 := by rw [List.countP_cons_of_neg (by simpa using ha), hz]
      rw [e]
      refine ⟨fun j hj hk => by omega, fun j hj _ => ?_⟩
      cases j with
      | zero => simp only [List.getElem_cons_zero]; omega
      | succ j => exact i2 j (by simpa using hj) (by rw [hz]; exact Nat.zero_le _)
theorem nxK_le {M : List Ev} (h : SrtE M) {mn : Nat} (hmn : mn < M.length) : nxK M mn ≤ mn := by
  rcases Nat.lt_or_ge mn (nxK M mn) with hlt | hge
  · have := (srt_count (nxA M mn) h).1 mn hmn hlt
    unfold nxA at this
    rw [List.getD_eq_getElem?_getD, List.getElem?_eq_getElem hmn] at this
    simp at this
  · exact hge
theorem allE_tm {f u : Int} : ∀ {k : Nat} {Q : List (List Pt)} {e : Ev}, e ∈ allE f u k Q → f < e.1 ∧ e.1 ≤ u
  | k, [], e, h => by simp [allE] at h
  | k, P :: Q, e, h => by
    simp only [allE, List.mem_append] at h
    rcases h with h | h
    · obtain ⟨q, hq, rfl⟩ := List.mem_map.1 h
      have := (List.mem_filter.1 hq).2
      simpa using this
    · exact allE_tm h
section
variable {w : World} {F : Nat → Prop} {i : Nat} {la mo pa f u : Int} {S : List SrP} {M : List Ev}
theorem evs_len {w : World} {F : Nat → Prop} (h : IntO i la mo pa S w F) (f u : Int) : (btE f u (S.map (fun y : SrP => y.2))).length ≤ 67108864 ∧ SrtE (btE f u (S.map (fun y : SrP => y.2))) := by
  obtain ⟨hk, own, t, v, bs, h⟩ := h
  have hP : ∀ P ∈ S.map (fun y : SrP => y.2), Rise P ∧ P.length ≤ 65536 := fun P hP => by
    obtain ⟨y, hy, rfl⟩ := List.mem_map.1 hP
    obtain ⟨j, hj, rfl⟩ := List.mem_iff_getElem.1 hy
    have hb := h.buf j (by rw [h.len]; exact hj) hj
    refine ⟨BufL.rise hb, ?_⟩
    obtain ⟨_, _, _, _, _, hl⟩ := hb
    exact hl
  refine ⟨?_, btE_srt (fun P hP' => (hP P hP').1)⟩
  rw [(btE_perm _ _ _).length_eq]
  have h1 := allE_len (f := f) (u := u) (k := 0) (fun P hP' => (hP P hP').2)
  have h2 : (S.map (fun y : SrP => y.2)).length * 65536 ≤ 1024 * 65536 := Nat.mul_le_mul_right _ (by rw [List.length_map]; exact hk.len)
  omega
set_option maxRecDepth 100000 in
theorem mBetween_any (h : IntO i la mo pa S w F) (hM : btE f u (S.map (fun y : SrP => y.2)) = M) : Calls Try.prog 18 #[iptr i, .int .i64 f, .int .i64 u] w (BtP w S M) := by
  have hl := (evs_len h f u).1
  rw [hM] at hl
  have CB := Lib.hid (between_any (most := 1099511627776) h (by omega) hM)
  rw [List.take_of_length_le (by omega)] at CB
  have hz : ((1099511627776 : Nat) : Int) = 1099511627776 := rfl
  rw [hz] at CB
  clear h hM hl hz
  go_enter Try.func18, Try.ntmps18
  go_wp2_with fail
  refine CB.out.mono ?_
  rintro e w1 ⟨ov, X, rfl, h1, h2, h3⟩
  have H1 := Lib.hid (And.intro h1 (And.intro h2 h3))
  clear h1 h2 h3
  go_wp2_with fail
  exact bodyPost_ret (v := ov) (by simp only [results, Try.results18]; go_simp) rfl ⟨ov, X, rfl, H1.out.1, H1.out.2.1, H1.out.2.2⟩
set_option maxRecDepth 100000 in
theorem msamples_any (h : IntO i la mo pa S w F) (hM : btE 0 1099511627776 (S.map (fun y : SrP => y.2)) = M) : Calls Try.prog 11 #[iptr i] w (BtP w S M) := by
  have hl := (evs_len h 0 1099511627776).1
  rw [hM] at hl
  have CB := Lib.hid (between_any (most := 1099511627776) h (by omega) hM)
  rw [List.take_of_length_le (by omega)] at CB
  have hz : ((1099511627776 : Nat) : Int) = 1099511627776 := rfl
  rw [hz] at CB
  clear h hM hl hz
  go_enter Try.func11, Try.ntmps11
  go_wp2_with fail
  refine CB.out.mono ?_
  rintro e w1 ⟨ov, X, rfl, h1, h2, h3⟩
  have H1 := Lib.hid (And.intro h1 (And.intro h2 h3))
  clear h1 h2 h3
  go_wp2_with fail
  exact bodyPost_ret (v := ov) (by simp only [results, Try.results11]; go_simp) rfl ⟨ov, X, rfl, H1.out.1, H1.out.2.1, H1.out.2.2⟩
/-- Next tells these samples, and a time. -/
def NxP (w : World) (S : List SrP) (L : List Ev) (t : Int) (e : Ending) (w' : World) : Prop := ∃ ov X, e = .returned (.tuple #[ov, .int .i64 t]) ∧ OutM w' w.heap.size ov X ∧ X.map smC = L.map (smE S) ∧ Below w.heap.size w w'
/-- What between tells, in a drawn region. -/
def BtF (w : World) (S : List SrP) (L : List Ev) (v : Value) (W : World) : Prop := ∃ X, OutM W w.heap.size v X ∧ X.map smC = L.map (smE S)
theorem OutM.low {w : World} {B B' : Nat} {v : Value} {X : List Sm} (h : OutM w B v X) (hB : B' ≤ B) : OutM w B' v X :=
  ⟨or_base h.row hB, fun x hx => (h.lab x hx).weak (fun _ _ hk => Nat.le_trans hB hk)⟩
set_option maxHeartbeats 8000000 in
set_option maxRecDepth 100000 in
theorem mnext_pos {mn : Nat} {mk : Int} (h : IntO i la mo pa S w F) (h0 : 0 < mn) (h40 : mn < 1099511627776) (hk : mkI la mo = mk) (hM : btE pa mk (S.map (fun y : SrP => y.2)) = M) :
    Calls Try.prog 14 #[iptr i, .int .i64 (mn : Int)] w (NxP w S (nxL M mn) (nxT M mn pa mk)) := by
  obtain ⟨hMl, hMs⟩ := evs_len h pa mk
  rw [hM] at hMl hMs
  have HMt : Hid (∀ e ∈ M, pa < e.1 ∧ e.1 ≤ mk) := Lib.hid (fun e he => by rw [← hM] at he; exact allE_tm ((btE_perm _ _ _).mem_iff.1 he))
  have HPk : Hid (0 ≤ pa ∧ mk ≤ 1099511627776) := Lib.hid ⟨h.1.pa0, by rw [← hk]; unfold mkI; have := h.1.la0; have := h.1.mo1; omega⟩
  obtain ⟨m1, hm1⟩ : ∃ m, mn + 1 = m := ⟨_, rfl⟩
  have HI := Lib.hid h
  have HMl := Lib.hid (And.intro hMl hMs)
  have CM := Lib.hid (fun W (hb : Below w.heap.size w W) => mmark_any ((IntO.obj _ _ _ _ _).below h hb))
  have CB := Lib.hid (fun W (hb : Below w.heap.size w W) => between_any (most := m1) ((IntO.obj _ _ _ _ _).below h hb) (by omega) hM)
  obtain ⟨hkk, own, t, v, bs, hC⟩ := h
  have CR := Lib.hid (mright_any hC)
  have HBx := Lib.hid hC.box
  rw [hk] at CM
  obtain ⟨L, hL⟩ : ∃ L, nxL M mn = L := ⟨_, rfl⟩
  obtain ⟨T, hT⟩ : ∃ T, nxT M mn pa mk = T := ⟨_, rfl⟩
  rw [hL, hT]
  have HLT := Lib.hid (And.intro hL hT)
  have HM1 := Lib.hid hm1
  have hmx : (0 : Int) < (mn : Int) := by omega
  have hmxN : ¬ mn = 0 := by omega
  clear hMl hMs hm1 hkk hC hk hM hL hT
  go_enter Try.func14, Try.ntmps14
  go_wp2_with fail
  refine CR.out.mono ?_
  rintro e w1 ⟨rfl, rfl⟩
  go_wp2_with fail
  have h40I : (mn : Int) < 1099511627776 := by omega
  have h40J : ¬ (1099511627776 : Int) < (mn : Int) := by omega
  have hw1 : IntKind.i64.wrap ((mn : Int) + 1) = (m1 : Int) := by rw [IntKind.wrap_i64]; have := HM1.out; omega
  refine wp_region_here 11 [(0, false), (1, false), (2, false), (3, false), (4, false), (5, false), (6, false), (7, false), (8, false), (9, false), (10, true)] (fun _ => .cells #[] 0) (by kernel_rfl) (by kernel_rfl) ?_
  repeat (first | (refine wpP_q rfl rfl rfl ?_; apply Exists.intro; refine ⟨fun w' hw' => ?_, fun K hK => ?_⟩; (focus ((have k2 := cellAt (o := 2) (v := .int .i64 pa) (keepB HBx.out hw') rfl); go_simp; first | exact quiet_value | with_reducible exact quiet_enter (CM.out _ hw'))); simp only [Act.put, List.setIfInBounds_toArray, List.set_cons_zero, List.set_cons_succ]; refine hK.out _ ?_; clear hK K) | (refine wpP_skip rfl rfl rfl (fun K hK => ?_); simp only [Act.put, List.setIfInBounds_toArray, List.set_cons_zero, List.set_cons_succ]; refine hK.out _ ?_; clear hK K))
  refine wpP_loose (fun v _ => BtF w S (M.take m1) v) (fun v _ => fun _ _ ⟨X, h1, h2⟩ hb => ⟨X, h1.below hb, h2⟩) rfl rfl rfl (fun w' hw' => ?_) (fun K hK v bs hbs => ?_)
  focus
    have HCd := Lib.hid hw'
    clear hw'
    go_simp
    exact ⟨rfl, (CB.out _ HCd.out).mono fun e w'' ⟨ov, X, h1, h2, h3, h4⟩ => ⟨_, h1, h4, [], by simp, X, h2.low HCd.out.size, h3⟩⟩
  simp only [Act.put, List.setIfInBounds_toArray, List.set_cons_zero, List.set_cons_succ]
  refine hK.out _ _ _ ?_
  clear hK K
  refine wpP_nil ?_
  rintro w2 ⟨hb2, X, hX1, hX2⟩
  obtain ⟨A, c, rfl⟩ := or_form hX1.row
  have H2 := Lib.hid (And.intro hb2 (And.intro hX1 hX2))
  obtain ⟨n, hn⟩ : ∃ n, X.length = n := ⟨_, rfl⟩
  have hnl : (M.take m1).length = n := by rw [← hn, ← List.length_map (f := smC), hX2, List.length_map]
  have HN := Lib.hid (And.intro hn hnl)
  clear hb2 hX1 hX2 hnl hw1 CB
  (try simp only [List.drop_succ_cons]); (try simp only [List.drop_zero]); (try simp only [List.drop_nil])
  rw [hn]
  by_cases hle : n ≤ mn
  · have hleI : (n : Int) ≤ (mn : Int) := by omega
    have HMe : Hid (M.length = n) := Lib.hid (by have := HN.out.2; rw [List.length_take] at this; have := HM1.out; omega)
    have HLe := Lib.hid hle
    go_wp2_with fail
    refine (CM.out _ H2.out.1).mono ?_
    rintro e w3 ⟨rfl, hb3⟩
    have H3 := Lib.hid hb3
    clear hb3
    go_wp2_with fail
    have e1 : mk = T := by rw [← HLT.out.2]; unfold nxT; rw [if_pos (by rw [HMe.out]; exact HLe.out)]
    have e2 : M = L := by rw [← HLT.out.1]; unfold nxL; rw [if_pos (by rw [HMe.out]; exact HLe.out)]
    subst e1 e2
    refine bodyPost_ret (v := .tuple #[.slice A n c, .int .i64 mk]) (by simp only [results, Try.results14]; go_simp) rfl ⟨_, X, rfl, ?_, ?_, H2.out.1.trans (H3.out.mono H2.out.1.size)⟩
    · have := H2.out.2.1.below H3.out
      rw [HN.out.1] at this
      exact this
    · have h := H2.out.2.2
      rw [List.take_of_length_le (by have := HMe.out; have := HLe.out; have := HM1.out; omega)] at h
      exact h
  · have hleI : ¬ (n : Int) ≤ (mn : Int) := by omega
    have hlen : M.length > mn := by have := HN.out.2; rw [List.length_take] at this; omega
    have hnm : n = mn + 1 := by have := HN.out.2; rw [List.length_take] at this; have := HM1.out; omega
    have hmX : mn < X.length := by omega
    -- the samples' times are the events'
    have hmap : X.map smC = (M.take m1).map (smE S) := H2.out.2.2
    have htime : ∀ j (hj : j < X.length), ∃ hj' : j < M.length, X[j].2.2.1 = M[j].1 := fun j hj => by
      have hj' : j < M.length := by omega
      refine ⟨hj', ?_⟩
      have h1 : (X.map smC)[j]'(by simpa using hj) = smC X[j] := List.getElem_map ..
      have hjt : j < (M.take m1).length := by rw [HN.out.2]; omega
      have h2 : ((M.take m1).map (smE S))[j]'(by simpa using hjt) = smE S M[j] := by rw [List.getElem_map, List.getElem_take]
      have h3 : smC X[j] = smE S M[j] := by
        rw [← h1, ← h2]
        congr 1
      have := congrArg (fun y => y.2.1) h3
      exact this
    obtain ⟨ta, hta⟩ : ∃ ta, nxA M mn = ta := ⟨_, rfl⟩
    have hta2 : M[mn].1 = ta := by rw [← hta]; unfold nxA; rw [List.getD_eq_getElem?_getD, List.getElem?_eq_getElem hlen]; rfl
    have HTa : Hid (pa < ta ∧ ta ≤ mk) := Lib.hid (by rw [← hta2]; exact HMt.out _ (List.getElem_mem _))
    obtain ⟨K, hK⟩ : ∃ K, nxK M mn = K := ⟨_, rfl⟩
    have hKm : K ≤ mn := by rw [← hK]; exact nxK_le HMl.out.2 hlen
    obtain ⟨s1, s2⟩ := srt_count ta HMl.out.2
    have hKe : M.countP (fun e => decide (e.1 < ta)) = K := by rw [← hK, ← hta]; rfl
    rw [hKe] at s1 s2
    obtain ⟨g', c', e', q0, q1, q2, q3⟩ := H2.out.2.1.at_ hmX
    obtain ⟨rfl, rfl⟩ : A = some ⟨g', 0, none⟩ ∧ c = c' := by simpa using e'
    have hq : X[mn].2.2.1 = ta := by obtain ⟨_, h⟩ := htime mn hmX; rw [h]; exact hta2
    rw [hq] at q2
    have HAl := Lib.hid (And.intro (newB w2 (.cells #[.int .i64 ta] 2)) (below_alloc (Below.refl w2.heap.size w2) (.cells #[.int .i64 ta] 2)))
    have CD := Lib.hid (delF_any (ta := ta) (H2.out.2.1.below HAl.out.2) HAl.out.1 (K := K) (by omega) (by have := HMl.out.1; omega) (fun j hj hk => by obtain ⟨h1, h2⟩ := htime j hj; rw [h2]; exact s1 j h1 hk) (fun j hj hk => by obtain ⟨h1, h2⟩ := htime j hj; rw [h2]; exact s2 j h1 hk))
    rw [hn] at CD
    have HK := Lib.hid (And.intro hK (And.intro hta (And.intro hKm hlen)))
    have hmnI : (mn : Int) < (n : Int) := by omega
    have hmnN : mn < n := by omega
    clear hlen hnm hmX hmap htime hta hta2 hK hKm s1 s2 hKe q0 q1 q3 hq e' hle
    go_wp2_with fail
    refine CD.out.mono ?_
    rintro e w3 ⟨A3, c3, rfl, hO3, hOn3⟩
    have H3 := Lib.hid (And.intro hO3 hOn3)
    have HB3 : Hid (Below w.heap.size w w3) := Lib.hid ((H2.out.1.trans (HAl.out.2.mono H2.out.1.size)).trans (hOn3.below (fun k hk => (World.ownsRow.lt H2.out.2.1.row k (by rw [hn]; exact hk)).1) (by have := H2.out.1.size; have := HAl.out.2.size; omega)))
    have HBa : Hid (w3.heap[w2.heap.size]? = some (.cells #[.int .i64 ta] 2 (0, 0))) := Lib.hid (hOn3.get HAl.out.1 (fun e => by have := (World.ownsRow.lt H2.out.2.1.row w2.heap.size (by rw [hn]; exact e)).2; omega))
    have HBx3 := Lib.hid (keepB HBx.out HB3.out)
    have HLe : Hid (¬ M.length ≤ mn) := Lib.hid (by have := HK.out.2.2.2; omega)
    clear hO3 hOn3 q2 CD
    by_cases hK0 : K = 0
    · have e1 : pa = T := by rw [← HLT.out.2]; unfold nxT; rw [if_neg HLe.out, HK.out.1, if_pos hK0]
      have e2 : [] = L := by rw [← HLT.out.1]; unfold nxL; rw [if_neg HLe.out, HK.out.1, hK0]; rfl
      subst e1 e2
      have hKI : (K : Int) = 0 := by omega
      have hKb : ((K : Int) == 0) = true := beq_iff_eq.2 hKI
      have hKd : decide ((K : Int) = 0) = true := decide_eq_true hKI
      clear HLT
      go_wp2_with fail
      refine wp_region_here 6 [(0, false), (1, false), (2, false), (3, false), (4, false), (5, false)] (fun _ => .cells #[] 0) (by kernel_rfl) (by kernel_rfl) ?_
      repeat (first | (refine wpP_q rfl rfl rfl ?_; apply Exists.intro; refine ⟨fun w' hw' => ?_, fun K hK => ?_⟩; (focus ((have k2 := cellAt (o := 2) (v := .int .i64 pa) (keepB HBx3.out hw') rfl); go_simp; first | exact quiet_value | fail)); simp only [Act.put, List.setIfInBounds_toArray, List.set_cons_zero, List.set_cons_succ]; refine hK.out _ ?_; clear hK K) | (refine wpP_skip rfl rfl rfl (fun K hK => ?_); simp only [Act.put, List.setIfInBounds_toArray, List.set_cons_zero, List.set_cons_succ]; refine hK.out _ ?_; clear hK K))
      refine wpP_nil ?_
      intro w4 hb4
      have HB4 := Lib.hid (HB3.out.trans (hb4.mono HB3.out.size))
      clear hb4
      (try simp only [List.drop_succ_cons]); (try simp only [List.drop_zero]); (try simp only [List.drop_nil])
      go_wp2_with fail
      exact bodyPost_ret (v := .tuple #[.slice none 0 0, .int .i64 pa]) (by simp only [results, Try.results14]; go_simp) rfl ⟨_, [], rfl, ⟨World.ownsRow_nil _ _ _ _, by simp⟩, by simp, HB4.out⟩
    · have e1 : ta - 1 = T := by rw [← HLT.out.2]; unfold nxT; rw [if_neg HLe.out, HK.out.1, if_neg hK0, HK.out.2.1]
      have e2 : M.take K = L := by rw [← HLT.out.1]; unfold nxL; rw [if_neg HLe.out, HK.out.1]
      have HE := Lib.hid (And.intro e1 e2)
      clear e1 e2 HLT
      have hKI : ¬ (K : Int) = 0 := by omega
      have hKb : ((K : Int) == 0) = false := beq_eq_false_iff_ne.2 hKI
      have hKd : decide ((K : Int) = 0) = false := decide_eq_false hKI
      have hwt : IntKind.i64.wrap (ta - 1) = T := by rw [IntKind.wrap_i64, ← HE.out.1]; have := HTa.out; have := HPk.out; omega
      go_wp2_with fail
      refine wp_region_here 5 [(0, false), (1, false), (2, false), (3, false), (4, false)] (fun _ => .cells #[] 0) (by kernel_rfl) (by kernel_rfl) ?_
      repeat (first | (refine wpP_q rfl rfl rfl ?_; apply Exists.intro; refine ⟨fun w' hw' => ?_, fun K hK => ?_⟩; (focus ((have k2 := cellAt (o := 0) (v := .int .i64 ta) (keepB HBa.out hw') rfl); go_simp; first | exact quiet_value | fail)); simp only [Act.put, List.setIfInBounds_toArray, List.set_cons_zero, List.set_cons_succ]; refine hK.out _ ?_; clear hK K) | (refine wpP_skip rfl rfl rfl (fun K hK => ?_); simp only [Act.put, List.setIfInBounds_toArray, List.set_cons_zero, List.set_cons_succ]; refine hK.out _ ?_; clear hK K))
      refine wpP_nil ?_
      intro w4 hb4
      have HB4 := Lib.hid (HB3.out.trans (hb4.mono HB3.out.size))
      have HO4 := Lib.hid (H3.out.1.below hb4)
      clear hb4
      (try simp only [List.drop_succ_cons]); (try simp only [List.drop_zero]); (try simp only [List.drop_nil])
      go_wp2_with fail
      refine bodyPost_ret (v := .tuple #[.slice A3 K c3, .int .i64 T]) (by simp only [results, Try.results14]; go_simp) rfl ⟨_, X.take K, rfl, HO4.out, ?_, HB4.out⟩
      rw [← HE.out.2, List.map_take, H2.out.2.2, ← List.map_take, List.take_take, Nat.min_eq_left (by have := HK.out.2.2.1; have := HM1.out; omega)]
end
end Go.Proofs.Ytangcgfchalnaaa
