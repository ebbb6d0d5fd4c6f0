/- Parts of the proof: MhD MaS Str Key. -/
import Derived.Test.YtangcgfchalnaaaYam
import Derived.Test.YtangcgfchalnaaaYab
import Derived.MapKept
import Derived.Laws.BytesString
import Derived.Laws.BytesArg
import Derived.Lib.ConvBytes
import Derived.Lib.AppendStr
import Derived.Deep.MidRow
/- container/heap over places: the dispatch; down. -/
namespace Go.Proofs.Ytangcgfchalnaaa
open Go.RowKit
theorem row_m (nm : String) (f : Nat) (h : (Try.t117.methods.find? (fun x => x.name == nm)).map (fun m => (m.path, m.func)) = some (#[], some (f, false))) : ∃ m, Try.t117.methods.find? (fun x => x.name == nm) = some m ∧ m.path = #[] ∧ m.func = some (f, false) := by
  cases hm : Try.t117.methods.find? (fun x => x.name == nm) with
  | none => rw [hm] at h; cases h
  | some m => rw [hm] at h; simp at h; exact ⟨m, rfl, h.1, h.2⟩
theorem wrap_chk (g : Nat) (a b : String) (W : World) : (Builtin.ssaWrapNilChk_ #[117] 117 #[.pointer (some ⟨g, 0, none⟩), strVal a, strVal b]).run Try.prog W = .ok (.pointer (some ⟨g, 0, none⟩)) W := by kernel_rfl
theorem lvPl (g : Nat) (v : Value) (W : World) (h : W.cell? ⟨g, 0, none⟩ = some v) : (loadVar 112 ⟨g, 0, none⟩).run Try.prog W = .ok v W := by
  simp [loadVar]
  go_simp
theorem method_pl (d : Nat) (nm : String) (f : Nat) (h : (Try.t117.methods.find? (fun x => x.name == nm)).map (fun m => (m.path, m.func)) = some (#[], some (f, false))) (g : Nat) (v : Value) (W : World) (hc : W.cell? ⟨g, 0, none⟩ = some v) : (method (d + 1) 117 (.pointer (some ⟨g, 0, none⟩)) nm).run Try.prog W = .ok (f, v) W := by
  obtain ⟨m, h1, h2, h3⟩ := row_m nm f h
  have hu := Try.underlying117
  rw [method]
  simp [h1, h2, h3, follow, receiverAt, Place.get, run_underlying hu, wrap_chk, asAddr]
  rw [lvPl g v W hc]
  rfl
abbrev plI (g : Nat) : Value := .iface 117 (.pointer (some ⟨g, 0, none⟩))
theorem m_less (g : Nat) (v : Value) (W : World) (hc : W.cell? ⟨g, 0, none⟩ = some v) : (method 277 117 (.pointer (some ⟨g, 0, none⟩)) "Less").run Try.prog W = .ok (113, v) W := method_pl 276 "Less" _ (by kernel_rfl) g v W hc
theorem m_len (g : Nat) (v : Value) (W : World) (hc : W.cell? ⟨g, 0, none⟩ = some v) : (method 277 117 (.pointer (some ⟨g, 0, none⟩)) "Len").run Try.prog W = .ok (112, v) W := method_pl 276 "Len" _ (by kernel_rfl) g v W hc
theorem m_swap (g : Nat) (v : Value) (W : World) (hc : W.cell? ⟨g, 0, none⟩ = some v) : (method 277 117 (.pointer (some ⟨g, 0, none⟩)) "Swap").run Try.prog W = .ok (114, v) W := method_pl 276 "Swap" _ (by kernel_rfl) g v W hc
theorem m_push (g : Nat) (W : World) : (method 277 117 (.pointer (some ⟨g, 0, none⟩)) "Push").run Try.prog W = .ok (119, .pointer (some ⟨g, 0, none⟩)) W := by kernel_rfl
theorem m_pop (g : Nat) (W : World) : (method 277 117 (.pointer (some ⟨g, 0, none⟩)) "Pop").run Try.prog W = .ok (118, .pointer (some ⟨g, 0, none⟩)) W := by kernel_rfl
section
variable {w w' : World} {B g i j n N : Nat} {v : Value} {A : List Plc}
set_option maxHeartbeats 8000000 in
set_option maxRecDepth 100000 in
theorem down_any (h : HpM w B g v A) (hn : n ≤ A.length) (hi : i ≤ 1000000) (h31 : A.length ≤ 1000000) (hH : HeapF ltP plD A (i + 1) n) : Calls Try.prog 85 #[plI g, .int .i64 (i : Int), .int .i64 (n : Int)] w fun e w' =>
    (∃ u, e = .returned u) ∧ ∃ A', HpM w' B g v A' ∧ A'.Perm A ∧ (∀ k, n ≤ k → A'.getD k plD = A.getD k plD) ∧ HeapF ltP plD A' i n ∧ Only (fun k => v.ownBlock = some k) w w' := by
  have H := Lib.hid (And.intro h (And.intro hn (And.intro h31 hH)))
  clear h hn hH
  have hn31 : n ≤ 1000000 := by have := H.out.2.1; omega
  go_enter Try.func85, Try.ntmps85
  go_wp2_with fail
  go_loopw [7] (fun iv wr => ∃ (i1 : Nat) (A1 : List Plc), iv = .int .i64 (i1 : Int) ∧ i ≤ i1 ∧ i1 ≤ 1000000 ∧ Hid (HpM wr B g v A1 ∧ A1.length = A.length ∧ A1.Perm A ∧ (∀ k, n ≤ k → A1.getD k plD = A.getD k plD) ∧ DownI ltP plD A1 i1 i n ∧ Only (fun k => v.ownBlock = some k) w wr)) (fun iv _ => n - (intOf iv).toNat)
  case atStart => exact ⟨i, A, rfl, Nat.le_refl _, hi, Lib.hid ⟨H.out.1, rfl, List.Perm.refl _, fun _ _ => rfl, DownI.start H.out.2.2.2, Only.refl _ _⟩⟩
  case round =>
    obtain ⟨i1, A1, rfl, hi1, hi2, HS⟩ := hrel
    obtain ⟨j1, hj1⟩ : ∃ j, 2 * i1 + 1 = j := ⟨_, rfl⟩
    have hw1 : IntKind.i64.wrap (2 * (i1 : Int)) = 2 * (i1 : Int) := by rw [IntKind.wrap_i64]; omega
    have hw2 : IntKind.i64.wrap (2 * (i1 : Int) + 1) = (j1 : Int) := by rw [IntKind.wrap_i64]; omega
    have HJ1 := Lib.hid hj1
    obtain ⟨hM, hL, hP, hD, hI, hO⟩ := HS.out
    have hn1 : n ≤ A1.length := by rw [hL]; exact H.out.2.1
    have hml := m_less g v wr (cellAt (o := 0) hM.box rfl)
    have HN1 := Lib.hid hn1
    clear hj1 hM hL hP hD hI hO hn1
    by_cases h0 : n ≤ j1
    · have h0I : (n : Int) ≤ (j1 : Int) := by omega
      clear hml
      go_wp2_with fail
      go_ret
      obtain ⟨hM, hL, hP, hD, hI, hO⟩ := HS.out
      exact ⟨⟨_, rfl⟩, A1, hM, hP, hD, hI.stop1 (by have := HJ1.out; omega), hO⟩
    · have h0I : ¬ (n : Int) ≤ (j1 : Int) := by omega
      have h00 : ¬ (j1 : Int) < 0 := by omega
      obtain ⟨j2, hj2⟩ : ∃ j, j1 + 1 = j := ⟨_, rfl⟩
      have hw3 : IntKind.i64.wrap ((j1 : Int) + 1) = (j2 : Int) := by rw [IntKind.wrap_i64]; omega
      have HJ2 := Lib.hid hj2
      have CL := Lib.hid (fun (j' i' : Nat) (h1 : j' < A1.length) (h2 : i' < A1.length) => less_any HS.out.1 h1 h2)
      by_cases h2 : j2 < n
      · have h2I : (j2 : Int) < (n : Int) := by omega
        obtain ⟨b, hb⟩ : ∃ b, ltP (A1.getD j2 plD) (A1.getD j1 plD) = b := ⟨_, rfl⟩
        have C1 := CL.out j2 j1 (by have := HN1.out; omega) (by have := HN1.out; omega)
        rw [hb] at C1
        have HC1 := Lib.hid C1
        have HBb := Lib.hid hb
        clear C1 hb hj2
        go_wp2_with fail
        refine HC1.out.mono ?_
        rintro e w2 ⟨rfl, hb2⟩
        have HS2 := Lib.hid (And.intro (HS.out.1.below hb2) hb2)
        clear hb2 hml
        have hml := m_less g v w2 (cellAt (o := 0) HS2.out.1.box rfl)
        cases b
        · obtain ⟨j, hj⟩ : ∃ j, j1 = j := ⟨_, rfl⟩
          have HCh : Hid (Child ltP plD A1 i1 n j) := Lib.hid (by
            have e1 := HJ1.out; have e2 := HJ2.out; have e3 := HBb.out
            rw [← hj, ← e1]
            refine Child.left ltP_tot (by omega) (.inr ?_)
            rw [← e2, ← e1] at e3; exact e3)
          subst hj
          have HJn : Hid (j1 < A1.length ∧ i1 < A1.length ∧ j1 < n ∧ i1 < j1) := Lib.hid (by have := HCh.out.ltn; have := HCh.out.is; have := HN1.out; omega)
          have C2 := less_any HS2.out.1 HJn.out.1 HJn.out.2.1
          obtain ⟨b2, hb2⟩ : ∃ b, ltP (A1.getD j1 plD) (A1.getD i1 plD) = b := ⟨_, rfl⟩
          rw [hb2] at C2
          have HC2 := Lib.hid C2
          have HB2 := Lib.hid hb2
          clear C2 hb2 CL
          go_wp2_with fail
          refine HC2.out.mono ?_
          rintro e w3 ⟨rfl, hb3⟩
          have HS3 := Lib.hid (And.intro (HS2.out.1.below hb3) (HS2.out.2.trans (hb3.mono HS2.out.2.size)))
          clear hb3 hml HS2 HC2
          cases b2
          · go_wp2_with fail
            go_ret
            obtain ⟨hM, hL, hP, hD, hI, hO⟩ := HS.out
            exact ⟨⟨_, rfl⟩, A1, HS3.out.1, hP, hD, hI.stop2 ltP_tot HCh.out HB2.out, hO.trans (Only.of_below HS3.out.2)⟩
          · have hms := m_swap g v w3 (cellAt (o := 0) HS3.out.1.box rfl)
            go_wp2_with fail
            refine (swap_any HS3.out.1 HJn.out.2.1 HJn.out.1).mono ?_
            rintro e w4 ⟨⟨u, rfl⟩, hM4, hO4⟩
            have HS4 := Lib.hid (And.intro hM4 hO4)
            clear hM4 hO4 hms
            go_wp2_with fail
            go_roundw
            case rel =>
              obtain ⟨hM, hL, hP, hD, hI, hO⟩ := HS.out
              obtain ⟨j1', j2', j3', j4'⟩ := HJn.out
              refine ⟨j1, swapL A1 i1 j1 plD, by go_num, by omega, by omega, Lib.hid ⟨HS4.out.1, by rw [swapL_len]; exact hL, (swapL_perm j2' j1').trans hP, fun k hk => ?_, hI.step ltP_tot HCh.out HB2.out hi1 HN1.out, (hO.trans (Only.of_below HS3.out.2)).trans HS4.out.2⟩⟩
              rw [swapL_get j2' j1', if_neg (by omega), if_neg (by omega)]
              exact hD k hk
            case measure => simp [intOf]; have := HJn.out; omega
        · have HCh : Hid (Child ltP plD A1 i1 n j2) := Lib.hid (by
            have e1 := HJ1.out; have e2 := HJ2.out; have e3 := HBb.out
            have e4 : j2 = 2 * i1 + 2 := by omega
            rw [e4]
            rw [e4, ← e1] at e3
            exact Child.right ltP_tot (by omega) e3)
          have HJn : Hid (j2 < A1.length ∧ i1 < A1.length ∧ j2 < n ∧ i1 < j2) := Lib.hid (by have := HCh.out.ltn; have := HCh.out.is; have := HN1.out; omega)
          have C2 := less_any HS2.out.1 HJn.out.1 HJn.out.2.1
          obtain ⟨b2, hb2⟩ : ∃ b, ltP (A1.getD j2 plD) (A1.getD i1 plD) = b := ⟨_, rfl⟩
          rw [hb2] at C2
          have HC2 := Lib.hid C2
          have HB2 := Lib.hid hb2
          clear C2 hb2 CL
          go_wp2_with fail
          refine HC2.out.mono ?_
          rintro e w3 ⟨rfl, hb3⟩
          have HS3 := Lib.hid (And.intro (HS2.out.1.below hb3) (HS2.out.2.trans (hb3.mono HS2.out.2.size)))
          clear hb3 hml HS2 HC2
          cases b2
          · go_wp2_with fail
            go_ret
            obtain ⟨hM, hL, hP, hD, hI, hO⟩ := HS.out
            exact ⟨⟨_, rfl⟩, A1, HS3.out.1, hP, hD, hI.stop2 ltP_tot HCh.out HB2.out, hO.trans (Only.of_below HS3.out.2)⟩
          · have hms := m_swap g v w3 (cellAt (o := 0) HS3.out.1.box rfl)
            go_wp2_with fail
            refine (swap_any HS3.out.1 HJn.out.2.1 HJn.out.1).mono ?_
            rintro e w4 ⟨⟨u, rfl⟩, hM4, hO4⟩
            have HS4 := Lib.hid (And.intro hM4 hO4)
            clear hM4 hO4 hms
            go_wp2_with fail
            go_roundw
            case rel =>
              obtain ⟨hM, hL, hP, hD, hI, hO⟩ := HS.out
              obtain ⟨j1', j2', j3', j4'⟩ := HJn.out
              refine ⟨j2, swapL A1 i1 j2 plD, by go_num, by omega, by omega, Lib.hid ⟨HS4.out.1, by rw [swapL_len]; exact hL, (swapL_perm j2' j1').trans hP, fun k hk => ?_, hI.step ltP_tot HCh.out HB2.out hi1 HN1.out, (hO.trans (Only.of_below HS3.out.2)).trans HS4.out.2⟩⟩
              rw [swapL_get j2' j1', if_neg (by omega), if_neg (by omega)]
              exact hD k hk
            case measure => simp [intOf]; have := HJn.out; omega
      · have h2I : ¬ (j2 : Int) < (n : Int) := by omega
        have HCh : Hid (Child ltP plD A1 i1 n j1) := Lib.hid (by
          have e1 := HJ1.out
          rw [← e1]
          exact Child.left ltP_tot (by omega) (.inl (by omega)))
        have HS2 := Lib.hid (And.intro HS.out.1 (Below.refl wr.heap.size wr))
        clear hj2
        have HJn : Hid (j1 < A1.length ∧ i1 < A1.length ∧ j1 < n ∧ i1 < j1) := Lib.hid (by have := HCh.out.ltn; have := HCh.out.is; have := HN1.out; omega)
        have C2 := less_any HS2.out.1 HJn.out.1 HJn.out.2.1
        obtain ⟨b2, hb2⟩ : ∃ b, ltP (A1.getD j1 plD) (A1.getD i1 plD) = b := ⟨_, rfl⟩
        rw [hb2] at C2
        have HC2 := Lib.hid C2
        have HB2 := Lib.hid hb2
        clear C2 hb2 CL
        go_wp2_with fail
        refine HC2.out.mono ?_
        rintro e w3 ⟨rfl, hb3⟩
        have HS3 := Lib.hid (And.intro (HS2.out.1.below hb3) (HS2.out.2.trans (hb3.mono HS2.out.2.size)))
        clear hb3 hml HS2 HC2
        cases b2
        · go_wp2_with fail
          go_ret
          obtain ⟨hM, hL, hP, hD, hI, hO⟩ := HS.out
          exact ⟨⟨_, rfl⟩, A1, HS3.out.1, hP, hD, hI.stop2 ltP_tot HCh.out HB2.out, hO.trans (Only.of_below HS3.out.2)⟩
        · have hms := m_swap g v w3 (cellAt (o := 0) HS3.out.1.box rfl)
          go_wp2_with fail
          refine (swap_any HS3.out.1 HJn.out.2.1 HJn.out.1).mono ?_
          rintro e w4 ⟨⟨u, rfl⟩, hM4, hO4⟩
          have HS4 := Lib.hid (And.intro hM4 hO4)
          clear hM4 hO4 hms
          go_wp2_with fail
          go_roundw
          case rel =>
            obtain ⟨hM, hL, hP, hD, hI, hO⟩ := HS.out
            obtain ⟨j1', j2', j3', j4'⟩ := HJn.out
            refine ⟨j1, swapL A1 i1 j1 plD, by go_num, by omega, by omega, Lib.hid ⟨HS4.out.1, by rw [swapL_len]; exact hL, (swapL_perm j2' j1').trans hP, fun k hk => ?_, hI.step ltP_tot HCh.out HB2.out hi1 HN1.out, (hO.trans (Only.of_below HS3.out.2)).trans HS4.out.2⟩⟩
            rw [swapL_get j2' j1', if_neg (by omega), if_neg (by omega)]
            exact hD k hk
          case measure => simp [intOf]; have := HJn.out; omega
end
end Go.Proofs.Ytangcgfchalnaaa

/- Maps with texts for keys: what a store leaves, what a look-up tells. No program. -/
namespace Go.Proofs.Ytangcgfchalnaaa
open Go.RowKit Go.MapKept
/-- A map of texts: no key twice; the value at a key has V. -/
def MapV (w : World) (r : Nat) (V : ByteArray → Value → Prop) : Prop := ∃ es c, w.heap[r]? = some (.map es c) ∧ (es.toList.map (·.key)).Nodup ∧ ∀ e ∈ es.toList, ∃ s, e.key = .string s ∧ V s e.val
theorem only_mapset {w : World} {r : Nat} {es : Array MapEntry} {c : Nat} (_h1 : w.heap[r]? = some (.map es c)) (o : Obj) : Only (fun x => x = r) w { w with heap := w.heap.setIfInBounds r o } :=
  ⟨rfl, rfl, rfl, by simp, fun i _ hi => by
    simp only [Array.getElem?_setIfInBounds]
    rw [if_neg (fun e => hi e.symm)]⟩
section
variable {P : Program} {T K E : TypeId}
theorem MapV.upd2 {w : World} {r : Nat} {V V' : ByteArray → Value → Prop} (hT : P.underlying T = some (.map K E)) (hK : P.underlying K = some .string) (h : MapV w r V) (k : ByteArray) {v : Value} (hV : ∀ s u, s ≠ k → V s u → V' s u) (hv : V' k v) :
    ∃ w', (Instr.mapUpdate T (.map (some r)) (.string k) v).run P w = .ok () w' ∧ MapV w' r V' ∧ Only (fun x => x = r) w w' ∧ ∃ es c, w'.heap[r]? = some (.map es c) ∧ ∃ e ∈ es.toList, e.key = .string k := by
  obtain ⟨es, c, h1, hnd, h2⟩ := h
  have hk : IsKey .string (.string k) := trivial
  have hks : ∀ x ∈ es.toList, IsKey .string x.key := fun x hx => by obtain ⟨s, e, _⟩ := h2 x hx; rw [e]; trivial
  have hc := fun w => run_checkKey (P := P) (w := w) hK hk false 9999
  simp only [Nat.reduceAdd] at hc
  rcases findNow_spec hk es.toList 0 hks with ⟨h3, hne⟩ | ⟨j, e, h3, h4, h5⟩
  · refine ⟨{ w with heap := w.heap.setIfInBounds r (.map (es.push { key := .string k, val := v, born := c }) (c + 1)) }, ?_, ⟨es.push { key := .string k, val := v, born := c }, c + 1, by simp [only_lt h1], ?_, fun e he => ?_⟩, only_mapset h1 _, es.push { key := .string k, val := v, born := c }, c + 1, by simp [only_lt h1], { key := .string k, val := v, born := c }, by simp, rfl⟩
    · simp [Instr.mapUpdate, run_underlying hT, hc, run_findKey hK h3, Go.MapKept.run_getObj_map h1, Go.MapKept.run_setObj_map _ h1, Result.andThen]
    · rw [Array.toList_push, List.map_append, List.nodup_append]
      refine ⟨hnd, by simp, fun a ha b hb => ?_⟩
      obtain ⟨x, hx, rfl⟩ := List.mem_map.1 ha
      simp only [List.map_cons, List.map_nil, List.mem_singleton] at hb
      subst hb
      exact hne x hx
    · simp only [Array.toList_push, List.mem_append, List.mem_singleton] at he
      rcases he with he | rfl
      · obtain ⟨s, e1, e2⟩ := h2 e he
        exact ⟨s, e1, hV s _ (fun ee => hne e he (by rw [e1, ee])) e2⟩
      · exact ⟨k, rfl, hv⟩
  · have h4' : es[j]? = some e := by rw [← Array.getElem?_toList]; exact h4
    refine ⟨{ w with heap := w.heap.setIfInBounds r (.map (es.modify j fun e => { e with key := .string k, val := v }) c) }, ?_, ⟨es.modify j fun e => { e with key := .string k, val := v }, c, by simp [only_lt h1], ?_, fun x he => ?_⟩, only_mapset h1 _, es.modify j fun e => { e with key := .string k, val := v }, c, by simp [only_lt h1], { e with key := .string k, val := v }, ?_, rfl⟩
    · have hkt := run_keyThatStays (P := P) (w := w) hk
      simp [Instr.mapUpdate, run_underlying hT, hc, run_findKey hK h3, Go.MapKept.run_getObj_map h1, Go.MapKept.run_setObj_map _ h1, Result.andThen, h4', h5, hkt]
    · rw [modify_keys j _ (fun e' he' => by rw [h4'] at he'; cases he'; exact h5.symm)]
      exact hnd
    · obtain ⟨i, hi, rfl⟩ := List.mem_iff_getElem.1 he
      have hi' : i < es.size := by simpa using hi
      simp only [Array.getElem_toList, Array.getElem_modify]
      split
      · exact ⟨k, rfl, hv⟩
      · rename_i hij
        obtain ⟨s, e1, e2⟩ := h2 es[i] (by simp)
        refine ⟨s, e1, hV s _ (fun ee => ?_) e2⟩
        have hj : j < es.size := by
          rcases Nat.lt_or_ge j es.size with h | h
          · exact h
          · rw [Array.getElem?_eq_none h] at h4'; cases h4'
        have hej : es[j] = e := by rw [Array.getElem?_eq_getElem hj] at h4'; exact Option.some.inj h4'
        have := (List.nodup_iff_pairwise_ne.1 hnd)
        rw [List.pairwise_iff_getElem] at this
        have key : ∀ a b (ha : a < es.size) (hb : b < es.size), a < b → es[a].key ≠ es[b].key := fun a b ha hb hab => by
          have h' := this a b (by simpa using ha) (by simpa using hb) hab
          rw [List.getElem_map, List.getElem_map] at h'
          exact h'
        have hee : es[i].key = es[j].key := by rw [e1, hej, h5, ee]
        rcases Nat.lt_or_gt_of_ne (fun e : i = j => hij e.symm) with hl | hl
        · exact key i j hi' hj hl hee
        · exact key j i hj hi' hl hee.symm
    · refine List.mem_of_getElem? (i := j) ?_
      rw [Array.getElem?_toList, Array.getElem?_modify, if_pos rfl, h4']
      rfl
theorem MapV.upd {w : World} {r : Nat} {V V' : ByteArray → Value → Prop} (hT : P.underlying T = some (.map K E)) (hK : P.underlying K = some .string) (h : MapV w r V) (k : ByteArray) {v : Value} (hV : ∀ s u, s ≠ k → V s u → V' s u) (hv : V' k v) :
    ∃ w', (Instr.mapUpdate T (.map (some r)) (.string k) v).run P w = .ok () w' ∧ MapV w' r V' ∧ Only (fun x => x = r) w w' := by
  obtain ⟨w', a, b, c, _⟩ := h.upd2 hT hK k hV hv
  exact ⟨w', a, b, c⟩
theorem MapV.look {w : World} {r : Nat} {V : ByteArray → Value → Prop} {z : Value} (hT : P.underlying T = some (.map K E)) (hK : P.underlying K = some .string) (hz : ∀ w, (zeroValue E).run P w = .ok z w) (h : MapV w r V) (k : ByteArray) :
    ∃ v, (Instr.lookup T (.map (some r)) (.string k) false).run P w = .ok v w ∧ (v = z ∨ V k v) := by
  obtain ⟨es, c, h1, _, h2⟩ := h
  have hk : IsKey .string (.string k) := trivial
  have hks : ∀ x ∈ es.toList, IsKey .string x.key := fun x hx => by obtain ⟨s, e, _⟩ := h2 x hx; rw [e]; trivial
  have hc := fun b w => run_checkKey (P := P) (w := w) hK hk b 9999
  simp only [Nat.reduceAdd] at hc
  rcases findNow_spec hk es.toList 0 hks with ⟨h3, _⟩ | ⟨j, e, h3, h4, h5⟩
  · exact ⟨z, by simp [Instr.lookup, run_underlying hT, hc, run_findKey hK h3, Go.MapKept.run_getObj_map h1, Result.andThen, hz], .inl rfl⟩
  · refine ⟨e.val, by simp [Instr.lookup, run_underlying hT, hc, run_findKey hK h3, Go.MapKept.run_getObj_map h1, Result.andThen], .inr ?_⟩
    obtain ⟨s, e1, e2⟩ := h2 e (List.mem_of_getElem? h4)
    rw [h5] at e1
    cases e1
    exact e2
/-! ### A map that is known -/
def MapS (w : World) (r : Nat) (l : List (ByteArray × Value)) : Prop := ∃ es c, w.heap[r]? = some (.map es c) ∧ es.toList.map (fun e => (e.key, e.val)) = l.map fun p => (Value.string p.1, p.2)
def findB (k : ByteArray) (l : List (ByteArray × Value)) : Option Value := (l.find? fun p => p.1 == k).map (·.2)
theorem findNow_B (k : ByteArray) : ∀ (es : List MapEntry) (l : List (ByteArray × Value)) (i : Nat), es.map (fun e => (e.key, e.val)) = l.map (fun p => (Value.string p.1, p.2)) → ∃ r, Instr.findNow .string (.string k) es i = some r ∧ r.map (·.2) = findB k l
  | [], [], _, _ => ⟨none, rfl, rfl⟩
  | [], _ :: _, _, h => by simp at h
  | e :: es, [], i, h => by simp at h
  | e :: es, p :: l, i, h => by
    simp only [List.map_cons, List.cons.injEq, Prod.mk.injEq] at h
    obtain ⟨⟨h1, h2⟩, h3⟩ := h
    by_cases hp : p.1 = k
    · have e1 : (k == p.1) = true := (bytes_beq _ _).2 hp.symm
      have e2 : (p.1 == k) = true := (bytes_beq _ _).2 hp
      refine ⟨some (i, e.val), by simp only [Instr.findNow, h1, Instr.sameNow, e1], ?_⟩
      simp [findB, e2, h2]
    · have e1 : (k == p.1) = false := by
        cases hh : (k == p.1)
        · rfl
        · exact absurd ((bytes_beq _ _).1 hh).symm hp
      have e2 : (p.1 == k) = false := by
        cases hh : (p.1 == k)
        · rfl
        · exact absurd ((bytes_beq _ _).1 hh) hp
      obtain ⟨r, hr, hf⟩ := findNow_B k es l (i + 1) h3
      refine ⟨r, by simp only [Instr.findNow, h1, Instr.sameNow, e1]; exact hr, ?_⟩
      rw [hf]; simp [findB, e2]
theorem MapS.ins {w : World} {r : Nat} {l : List (ByteArray × Value)} (hT : P.underlying T = some (.map K E)) (hK : P.underlying K = some .string) (h : MapS w r l) (k : ByteArray) (v : Value) (hn : findB k l = none) :
    ∃ w', (Instr.mapUpdate T (.map (some r)) (.string k) v).run P w = .ok () w' ∧ MapS w' r (l ++ [(k, v)]) ∧ Only (fun x => x = r) w w' := by
  obtain ⟨es, c, h1, h2⟩ := h
  obtain ⟨q, h3, h4⟩ := findNow_B k es.toList l 0 h2
  rw [hn] at h4
  obtain rfl : q = none := by cases q with | none => rfl | some x => cases h4
  have hc := fun w => run_checkKey (P := P) (w := w) hK (show IsKey .string (.string k) from trivial) false 9999
  simp only [Nat.reduceAdd] at hc
  refine ⟨{ w with heap := w.heap.setIfInBounds r (.map (es.push { key := .string k, val := v, born := c }) (c + 1)) }, ?_, ⟨es.push { key := .string k, val := v, born := c }, c + 1, by simp [only_lt h1], ?_⟩, only_mapset h1 _⟩
  · simp [Instr.mapUpdate, run_underlying hT, hc, run_findKey hK h3, Go.MapKept.run_getObj_map h1, Go.MapKept.run_setObj_map _ h1, Result.andThen]
  · simp [h2]
theorem MapS.look {w : World} {r : Nat} {l : List (ByteArray × Value)} {z : Value} (hT : P.underlying T = some (.map K E)) (hK : P.underlying K = some .string) (hz : ∀ w, (zeroValue E).run P w = .ok z w) (h : MapS w r l) (k : ByteArray) :
    (Instr.lookup T (.map (some r)) (.string k) true).run P w = .ok (.tuple #[(findB k l).getD z, .bool (findB k l).isSome]) w := by
  obtain ⟨es, c, h1, h2⟩ := h
  obtain ⟨q, h3, h4⟩ := findNow_B k es.toList l 0 h2
  have hc := fun b w => run_checkKey (P := P) (w := w) hK (show IsKey .string (.string k) from trivial) b 9999
  simp only [Nat.reduceAdd] at hc
  rw [← h4]
  cases q with
  | none => simp [Instr.lookup, run_underlying hT, hc, run_findKey hK h3, Go.MapKept.run_getObj_map h1, Result.andThen, hz]
  | some x => simp [Instr.lookup, run_underlying hT, hc, run_findKey hK h3, Go.MapKept.run_getObj_map h1, Result.andThen]
end
theorem MapV.new (w : World) (V : ByteArray → Value → Prop) : MapV (w.alloc (.map #[] 0)) w.heap.size V := ⟨#[], 0, newB _ _, by simp, fun _ h => by cases h⟩
theorem MapS.new (w : World) : MapS (w.alloc (.map #[] 0)) w.heap.size [] := ⟨#[], 0, newB _ _, rfl⟩
theorem MapV.keep {w w' : World} {r : Nat} {V : ByteArray → Value → Prop} {S : Nat → Prop} (h : MapV w r V) (ho : Only S w w') (hn : ¬ S r) : MapV w' r V := by
  obtain ⟨es, c, h1, h2⟩ := h
  exact ⟨es, c, ho.get h1 hn, h2⟩
theorem MapV.mono {w : World} {r : Nat} {V V' : ByteArray → Value → Prop} (h : MapV w r V) (hV : ∀ s v, V s v → V' s v) : MapV w r V' := by
  obtain ⟨es, c, h1, hnd, h2⟩ := h
  exact ⟨es, c, h1, hnd, fun e he => by obtain ⟨s, e1, e2⟩ := h2 e he; exact ⟨s, e1, hV _ _ e2⟩⟩
theorem MapS.keep {w w' : World} {r : Nat} {l : List (ByteArray × Value)} {S : Nat → Prop} (h : MapS w r l) (ho : Only S w w') (hn : ¬ S r) : MapS w' r l := by
  obtain ⟨es, c, h1, h2⟩ := h
  exact ⟨es, c, ho.get h1 hn, h2⟩
end Go.Proofs.Ytangcgfchalnaaa

/- Bytes as a text. -/
namespace Go.Proofs.Ytangcgfchalnaaa
open Go.RowKit
theorem run_loadCells_rd {w : World} {ad : Addr} {l : List UInt8} (h : ∀ j u, (l.map bv)[j]? = some u → w.cell? (ad.add j) = some u) : (loadCells ad l.length).run Try.prog w = .ok (l.map bv).toArray w := by
  have := run_firstCells_some (P := Try.prog) w 1 l.length ad l.length l.length (l.map bv) (by simp) h
  simpa [Builtin.firstCells] using this
theorem conv_rd {w : World} {A : Option Addr} {c : Nat} {l : List UInt8} (h : Rd w A l) : (convert 52 9 (.slice A l.length c)).run Try.prog w = .ok (.string ⟨l.toArray⟩) w := by
  rw [run_convert_bytes_string w 52 9 5 A l.length c Try.underlying52 Try.underlying5 Try.underlying9]
  cases A with
  | none =>
    have : l = [] := by
      rcases Nat.eq_zero_or_pos l.length with h0 | h0
      · exact List.eq_nil_of_length_eq_zero h0
      · obtain ⟨ad, e, _⟩ := h.2 h0; cases e
    subst this
    simp [Conv.bytesToString, Sem.run_pure]; rfl
  | some ad =>
    have hc : ∀ j u, (l.map bv)[j]? = some u → w.cell? (ad.add j) = some u := by
      intro j u hu
      have hj : j < l.length := by
        rcases Nat.lt_or_ge j l.length with h | h
        · exact h
        · rw [List.getElem?_eq_none (by simpa using h)] at hu; cases hu
      obtain ⟨ad', e, _, hc⟩ := h.2 (by omega)
      cases e
      exact hc j u hu
    have e : (l.map bv).toArray = ((l.map fun b => (b.toNat : Int)).map (Value.int .u8)).toArray := by simp [bv, Function.comp_def]
    have := run_bytesToString (P := Try.prog) w ad l.length c (l.map fun b => (b.toNat : Int)) (by rw [← e]; exact run_loadCells_rd hc)
    rw [this, foldl_push_bytes]
    congr 3
    simp [List.map_map, Function.comp_def]
end Go.Proofs.Ytangcgfchalnaaa

/- wire.Text; keys of labels and series; a sample's bytes. -/
namespace Go.Proofs.Ytangcgfchalnaaa
open Go.RowKit
/-- Bytes and an errno are returned. -/
def TupB (base : Nat) (w : World) (l : List UInt8) (r : Int) (e : Ending) (w' : World) : Prop := ∃ v, e = .returned (.tuple #[v, .int .i64 r]) ∧ OwnB w' base v l ∧ Below base w w'
theorem bytesWorld_below (w : World) (s : ByteArray) : Below w.heap.size w (Lib.bytesWorld w 5 s) :=
  ⟨rfl, rfl, rfl, by rw [Lib.bytesWorld_size]; omega, fun k hk => Lib.bytesWorld_at_old w _ s k hk⟩
theorem bytesWorld_rd (w : World) (s : ByteArray) : Rd (Lib.bytesWorld w 5 s) (some ⟨w.heap.size, 0, none⟩) s.data.toList := by
  refine ⟨by simp, fun _ => ⟨_, rfl, by rw [Lib.bytesWorld_size]; simp, fun j u hu => ?_⟩⟩
  have hj : j < s.data.toList.length := by
    rcases Nat.lt_or_ge j s.data.toList.length with h | h
    · exact h
    · rw [List.getElem?_eq_none (by simpa using h)] at hu; cases hu
  rw [Addr.add_mid, Nat.zero_add, Lib.bytesWorld_cell _ _ _ _ (by simpa using hj)]
  rw [List.getElem?_map, List.getElem?_eq_getElem hj] at hu
  rw [← hu]
  simp [bv, List.getD_eq_getElem?_getD]
  simp at hj
  simp [hj]
set_option maxRecDepth 100000 in
theorem text_any (A : Option Addr) (c : Nat) (l : List UInt8) (s : ByteArray) (w : World) (hp : Rd w A l) (hl : l.length ≤ 1099510000000) (hs : s.size ≤ 1048576) :
    Calls Try.prog 46 #[.slice A l.length c, .string s] w (TupB w.heap.size w (l ++ numB s.size ++ s.data.toList) 0) := by
  have CN := Lib.hid (number_any A c l s.size (by unfold N64; omega) w hp (by omega))
  have kc := fun W => Lib.run_convert_string_bytes (P := Try.prog) W 9 52 5 s Try.underlying9 Try.underlying52 Try.underlying5
  have kz := fun W => Lib.bytesWorld_size W 5 s
  have hb9 := Lib.hid (numB_len (n := s.size) (by unfold N64; omega))
  obtain ⟨L, hL⟩ : ∃ L, l ++ numB s.size ++ s.data.toList = L := ⟨_, rfl⟩
  rw [hL]
  have HL := Lib.hid hL
  clear hp hL
  go_enter Try.func46, Try.ntmps46
  go_wp2_with fail
  refine CN.out.mono ?_
  intro e w1 hf
  obtain ⟨A1, c1, m, rfl, HM, _, HR, HO, HB⟩ := hf.named
  clear hf
  have HB2 := Lib.hid (below_alloc (HB.out.trans ((bytesWorld_below w1 s).mono HB.out.size)) (.cells #[.slice (some ⟨w1.heap.size, 0, none⟩) s.data.toList.length (grownCap w1 s.size 0 5)] 52))
  have HQ := Lib.hid (RdP.new (W := Lib.bytesWorld w1 5 s) (H := w1.heap.size + 1) (by rw [kz]) [(some ⟨w1.heap.size, 0, none⟩, grownCap w1 s.size 0 5, s.data.toList)] (fun p hp => by
      simp only [List.mem_cons, List.not_mem_nil, or_false] at hp
      subst hp
      exact bytesWorld_rd w1 s))
  have hlen : m.length ≤ 1099510000009 := by
    rw [HM.out, List.length_append]; have := hb9.out; omega
  have CP := put_any_ (A1, c1, m) (some ⟨w1.heap.size + 1, 0, none⟩) 1 [(some ⟨w1.heap.size, 0, none⟩, grownCap w1 s.size 0 5, s.data.toList)] _ (HR.out.below (below_alloc (bytesWorld_below w1 s) (.cells #[.slice (some ⟨w1.heap.size, 0, none⟩) s.data.toList.length (grownCap w1 s.size 0 5)] 52))) HQ.out (by
    simp only [allB, List.map_cons, List.map_nil, List.flatten_cons, List.flatten_nil, List.append_nil, List.length_append, Array.length_toList]
    have : s.data.size = s.size := rfl
    omega) (by simp)
  rw [show allB [(A1, c1, m), (some ⟨w1.heap.size, 0, none⟩, grownCap w1 s.size 0 5, s.data.toList)] = L by rw [← HL.out, HM.out]; simp [allB]] at CP
  have CP := Lib.hid CP
  go_wp2_with fail
  refine CP.out.mono ?_
  intro e w2 hf
  obtain ⟨v, rfl, h1, h2⟩ := hf.lift HB2.out
  have H1 := Lib.hid h1
  have H2 := Lib.hid h2
  clear h1 h2 hf CP
  go_wp2_with fail
  go_ret2
  exact ⟨_, rfl, H1.out, H2.out⟩
/-- A text as bytes. -/
def txtB (s : ByteArray) : List UInt8 := numB s.size ++ s.data.toList
theorem txtB_len {s : ByteArray} (h : s.size ≤ 1048576) : (txtB s).length ≤ 9 + s.size := by
  have := numB_len (n := s.size) (by unfold N64; omega)
  have e : s.data.toList.length = s.size := rfl
  unfold txtB; rw [List.length_append, e]; omega
theorem text_n {A : Option Addr} {c n : Nat} {l : List UInt8} {s : ByteArray} {w : World} (hn : l.length = n) (hp : Rd w A l) (hl : n ≤ 1000000000) (hs : s.size ≤ 1048576) :
    Calls Try.prog 46 #[.slice A n c, .string s] w (TupB w.heap.size w (l ++ txtB s) 0) := by
  subst hn
  have := text_any A c l s w hp (by omega) hs
  rw [List.append_assoc] at this; exact this
theorem number_n {A : Option Addr} {c n : Nat} {l : List UInt8} {x : Nat} {w : World} (hn : l.length = n) (hx : N64 x) (hp : Rd w A l) (hl : n ≤ 1000000000) :
    Calls Try.prog 45 #[.slice A n c, .int .u64 x] w (FreshB w (l ++ numB x)) := by
  subst hn; exact number_any A c l x hx w hp (by omega)
theorem signed_n {A : Option Addr} {c n : Nat} {l : List UInt8} {x : Int} {w : World} (hn : l.length = n) (hx : In64 x) (hp : Rd w A l) (hl : n ≤ 1000000000) :
    Calls Try.prog 49 #[.slice A n c, .int .i64 x] w (FreshB w (l ++ numB (zz x))) := by
  subst hn; exact signed_any A c l x hx w hp (by omega)
/-- Labels as bytes. -/
def labB : List Lb → List UInt8
  | [] => []
  | x :: r => txtB x.1 ++ (txtB x.2 ++ labB r)
theorem labB_snoc (L : List Lb) (x : Lb) : labB (L ++ [x]) = labB L ++ (txtB x.1 ++ txtB x.2) := by
  induction L with
  | nil => simp [labB]
  | cons y r ih => simp only [List.cons_append, labB, ih, List.append_assoc]
theorem labB_len : ∀ (L : List Lb), (∀ x ∈ L, x.1.size ≤ 300 ∧ x.2.size ≤ 300) → (labB L).length ≤ 618 * L.length
  | [], _ => by simp [labB]
  | x :: r, h => by
    have h1 := labB_len r (fun y hy => h y (List.mem_cons_of_mem _ hy))
    have h2 := h x (by simp)
    have h3 := txtB_len (s := x.1) (by omega)
    have h4 := txtB_len (s := x.2) (by omega)
    simp only [labB, List.length_append, List.length_cons]; omega
/-- A row of bytes, with its length. -/
theorem OwnB.len_ {w : World} {b : Nat} {v : Value} {l : List UInt8} (h : OwnB w b v l) : ∃ A c n, v = .slice A n c ∧ l.length = n ∧ Rd w A l := by
  obtain ⟨A, c, e, _, _, h3⟩ := h.form
  exact ⟨A, c, _, e, rfl, h3⟩
theorem conv_n {w : World} {A : Option Addr} {c n : Nat} {l : List UInt8} (hn : l.length = n) (h : Rd w A l) : (convert 52 9 (.slice A n c)).run Try.prog w = .ok (.string ⟨l.toArray⟩) w := by
  subst hn; exact conv_rd h
set_option maxHeartbeats 4000000 in
set_option maxRecDepth 100000 in
theorem lkey_any {A : Option Addr} {c n : Nat} {L : List Lb} {w : World} (hn : L.length = n) (h : RdLb w A L) (hE : labE L = 0) (hS : smallL L) : Calls Try.prog 76 #[.slice A n c] w fun e w' => e = .returned (.string ⟨(labB L).toArray⟩) ∧ Below w.heap.size w w' := by
  have HN := Lib.hid hn
  have H := Lib.hid h
  have HS := Lib.hid hS
  have CC := Lib.hid (lcheck_n (c := c) hn h)
  rw [hE] at CC
  have hn30 : n ≤ 30 := by rw [← hn]; exact hS.1
  obtain ⟨R, hR⟩ : ∃ R, labB L = R := ⟨_, rfl⟩
  rw [hR]
  have HR := Lib.hid hR
  clear hn h hS hE hR
  go_enter Try.func76, Try.ntmps76
  go_wp2_with fail
  refine CC.out.mono ?_
  rintro e w1 ⟨rfl, hb1⟩
  have HB1 := Lib.hid hb1
  clear hb1 CC
  go_wp2_with fail
  go_loopw [3, 11] (fun s v wr => ∃ k : Nat, v = .int .i64 (k : Int) ∧ k ≤ n ∧ Hid (OwnB wr w.heap.size s (labB (L.take k))) ∧ Hid (Below w.heap.size w wr)) (fun _ v _ => n - (intOf v).toNat)
  case atStart => exact ⟨0, rfl, Nat.zero_le _, Lib.hid OwnB.nil_, HB1⟩
  clear HB1
  case round =>
    obtain ⟨k, rfl, hk, HO, HB⟩ := hrel
    obtain ⟨BA, bc, bn, rfl, hbn, hrd⟩ := HO.out.len_
    have HRd := Lib.hid hrd
    by_cases h0 : k < n
    · have hkL : k < L.length := by rw [HN.out]; exact h0
      obtain ⟨ad, rfl, hlt, c0, c1⟩ := (H.out.below HB.out).at_ hkL
      have hsz := HS.out.2 _ (List.getElem_mem hkL)
      have hlb : (labB (L.take k)).length ≤ 618 * 30 := by
        have h1 := labB_len (L.take k) (fun x hx => HS.out.2 x (List.mem_of_mem_take hx))
        have h2 : (L.take k).length ≤ 30 := by rw [List.length_take]; omega
        omega
      have hT : labB (L.take (k + 1)) = labB (L.take k) ++ (txtB L[k].1 ++ txtB L[k].2) := by rw [← List.take_append_getElem hkL, labB_snoc]
      obtain ⟨⟨x, y⟩, hxy⟩ : ∃ x, L[k] = x := ⟨_, rfl⟩
      rw [hxy] at c0 c1 hsz hT
      simp only at c0 c1 hsz hT
      obtain ⟨D, hD⟩ : ∃ D, labB (L.take k) = D := ⟨_, rfl⟩
      rw [hD] at hT hbn HRd hlb
      have HT := Lib.hid hT
      have HBn := Lib.hid hbn
      have hbn2 : bn ≤ 18540 := by omega
      have hw : IntKind.i64.wrap ((k : Int) + 1) = ((k + 1 : Nat) : Int) := by rw [IntKind.wrap_i64]; omega
      have hkI : (k : Int) < (n : Int) := by omega
      have HA := Lib.hid (below_alloc (Below.refl wr.heap.size wr) (.cells #[.string x, .string y] 90))
      have HX := Lib.hid (newB wr (.cells #[.string x, .string y] 90))
      have CT := Lib.hid (text_n (c := bc) (s := x) hbn (HRd.out.below HA.out) (by omega) (by omega))
      have HSz := Lib.hid hsz
      have hs1 : (txtB x).length ≤ 309 := by have := txtB_len (s := x) (by omega); omega
      have HS1 := Lib.hid hs1
      clear hkL hsz hlb hT hxy hD hbn hs1 hrd HO
      go_wp2_with fail
      clear c0 c1
      have d0 := cellAt (o := 0) HX.out rfl
      have d1 := cellAt (o := 1) HX.out rfl
      refine CT.out.mono ?_
      rintro e w2 ⟨v, rfl, ho2, hb2⟩
      obtain ⟨A2, c2, n2, rfl, hn2, hrd2⟩ := ho2.len_
      have HB2 := Lib.hid (HB.out.trans ((HA.out.trans (hb2.mono HA.out.size)).mono HB.out.size))
      have HX2 := Lib.hid (keepB HX.out hb2)
      have hn2b : n2 ≤ 18849 := by rw [← hn2, List.length_append, HBn.out]; have := HS1.out; omega
      have CT2 := Lib.hid (text_n (c := c2) (s := y) hn2 hrd2 (by omega) (by have := HSz.out; omega))
      clear ho2 hb2 d0 d1 CT HA HX hn2 hrd2
      have d1 := cellAt (o := 1) HX2.out rfl
      go_wp2_with fail
      refine CT2.out.mono ?_
      rintro e w3 ⟨v, rfl, ho3, hb3⟩
      have HB3 := Lib.hid (HB2.out.trans (hb3.mono HB2.out.size))
      have HO3 : Hid (OwnB w3 w.heap.size v (labB (L.take (k + 1)))) := Lib.hid (by rw [HT.out, ← List.append_assoc]; exact ho3.lower HB2.out.size)
      obtain ⟨A3, c3, n3, rfl, _, _⟩ := ho3.len_
      clear ho3 hb3 d1 CT2
      go_wp2_with fail
      go_roundw
      case rel => exact ⟨k + 1, by go_num, by omega, HO3, HB3⟩
      case measure => simp [intOf]; omega
    · have hkI : ¬ (k : Int) < (n : Int) := by omega
      have hf : L.take k = L := List.take_of_length_le (by rw [HN.out]; omega)
      rw [hf, HR.out] at HRd hbn
      have kc := conv_n (c := bc) hbn HRd.out
      clear hbn hf
      go_wp2_with fail
      go_ret
      exact ⟨rfl, HB.out⟩
/-- A series' key. -/
def keyB (m : ByteArray) (L : List Lb) : List UInt8 := txtB m ++ labB L
theorem keyB_len {m : ByteArray} {L : List Lb} (h : smallS m L) : (keyB m L).length ≤ 19000 := by
  have h1 := labB_len L h.2.2
  have h2 := txtB_len (s := m) (by have := h.1; omega)
  have := h.2.1
  have := h.1
  unfold keyB; rw [List.length_append]; omega
theorem str_app (a b : List UInt8) : (ByteArray.mk a.toArray) ++ (ByteArray.mk b.toArray) = ByteArray.mk (a ++ b).toArray := by
  apply ByteArray.ext
  simp [ByteArray.data_append]
set_option maxHeartbeats 4000000 in
set_option maxRecDepth 100000 in
theorem skey_any {m : ByteArray} {A : Option Addr} {c n : Nat} {L : List Lb} {w : World} (hn : L.length = n) (h : RdLb w A L) (hE : serE m L = 0) (hS : smallS m L) : Calls Try.prog 53 #[.agg #[.string m, .slice A n c]] w fun e w' => e = .returned (.string ⟨(keyB m L).toArray⟩) ∧ Below w.heap.size w w' := by
  have HB := Lib.hid (below_alloc (Below.refl w.heap.size w) (.cells #[.string m, .slice A n c] 32))
  have HX := Lib.hid (newB w (.cells #[.string m, .slice A n c] 32))
  have CC := Lib.hid (cser_any (m := m) (c := c) hn (h.below HB.out))
  rw [hE] at CC
  have hL : labE L = 0 := by
    unfold serE at hE
    split at hE
    · exact hE
    · cases hE
  have CK := Lib.hid (fun W (hb : Below w.heap.size w W) => lkey_any (c := c) hn (h.below hb) hL hS.2)
  have CT := Lib.hid (fun W => text_n (A := none) (c := 0) (n := 0) (l := []) (s := m) (w := W) rfl Rd.nil_ (by omega) (by have := hS.1; omega))
  simp only [List.nil_append] at CT
  have HE : Hid ((ByteArray.mk (txtB m).toArray) ++ (ByteArray.mk (labB L).toArray) = ByteArray.mk (keyB m L).toArray) := Lib.hid (str_app _ _)
  obtain ⟨K, hK⟩ : ∃ K, ByteArray.mk (keyB m L).toArray = K := ⟨_, rfl⟩
  obtain ⟨K2, hK2⟩ : ∃ K, ByteArray.mk (labB L).toArray = K := ⟨_, rfl⟩
  obtain ⟨T, hT⟩ : ∃ T, txtB m = T := ⟨_, rfl⟩
  obtain ⟨K1, hK1⟩ : ∃ K, ByteArray.mk T.toArray = K := ⟨_, rfl⟩
  rw [hT] at CT HE
  rw [hK1, hK2, hK] at HE
  rw [hK2] at CK
  rw [hK]
  have HK1 := Lib.hid hK1
  have he := HE.out
  have HSz : Hid (¬ 9223372036854775807 < K1.size + K2.size) := Lib.hid (by
    have e1 : K1.size = T.length := by rw [← hK1]; simp [ByteArray.size]
    have e2 : K2.size = (labB L).length := by rw [← hK2]; simp [ByteArray.size]
    have h1 := keyB_len hS
    unfold keyB at h1
    rw [List.length_append, hT] at h1
    omega)
  have d0 := cellAt (o := 0) HX.out rfl
  have d1 := cellAt (o := 1) HX.out rfl
  clear hn h hE hS hL hK hK2 hT hK1 HE
  go_enter Try.func53, Try.ntmps53
  go_wp2_with fail
  refine CC.out.mono ?_
  rintro e w1 ⟨rfl, hb1⟩
  have HB1 := Lib.hid (HB.out.trans (hb1.mono HB.out.size))
  have HX1 := Lib.hid (keepB HX.out hb1)
  clear hb1 d0 d1 CC
  have d0 := cellAt (o := 0) HX1.out rfl
  go_wp2_with fail
  refine (CT.out _).mono ?_
  rintro e w2 ⟨v, rfl, ho2, hb2⟩
  obtain ⟨A2, c2, n2, rfl, hn2, hrd2⟩ := ho2.len_
  have HB2 := Lib.hid (HB1.out.trans (hb2.mono HB1.out.size))
  have HX2 := Lib.hid (keepB HX1.out hb2)
  have HN2 := Lib.hid hn2
  have HR2 := Lib.hid hrd2
  clear ho2 hb2 d0 CT hn2 hrd2
  go_wp2_with fail
  refine wp_region_here 7 [(0, false), (1, false), (2, false), (3, false), (4, false), (5, false), (6, false)] (fun _ => .cells #[] 0) (by kernel_rfl) (by kernel_rfl) ?_
  repeat (first | (refine wpP_q rfl rfl rfl ?_; apply Exists.intro; refine ⟨fun w' hw' => ?_, fun K hK => ?_⟩; (focus ((have d1 := cellAt (o := 1) (keepB HX2.out hw') rfl; have kc := conv_n (c := c2) HN2.out (HR2.out.below hw'); rw [HK1.out] at kc; have hsz := HSz.out); go_simp; first | exact quiet_value | with_reducible exact quiet_enter (CK.out _ (HB2.out.trans (hw'.mono HB2.out.size))))); simp only [Act.put, List.setIfInBounds_toArray, List.set_cons_zero, List.set_cons_succ]; refine hK.out _ ?_; clear hK K) | (refine wpP_skip rfl rfl rfl (fun K hK => ?_); simp only [Act.put, List.setIfInBounds_toArray, List.set_cons_zero, List.set_cons_succ]; refine hK.out _ ?_; clear hK K))
  refine wpP_nil ?_
  intro w3 hb3
  have HB3 := Lib.hid (HB2.out.trans (hb3.mono HB2.out.size))
  clear hb3
  (try simp only [List.drop_succ_cons]); (try simp only [List.drop_zero]); (try simp only [List.drop_nil])
  go_wp2_with fail
  go_ret
  exact ⟨rfl, HB3.out⟩
end Go.Proofs.Ytangcgfchalnaaa
