/- The queue's law: its own functions. -/
import Derived.Test.YtjnkcgegmffncaaQuQ
namespace Go.Proofs.Ytjnkcgegmffncaa
open Go.RowKit
theorem pass_any (t : Int) (w : World) : Calls Try.prog 19 #[.int .i64 t] w fun e w' => e = .returned (.agg #[.int .i64 2, .string ⟨#[]⟩, .slice none 0 0, .int .i64 0, .int .i64 0, .int .i64 t, .int .i64 0, .slice none 0 0]) ∧ Below w.heap.size w w' := by
  go_enter Try.func19, Try.ntmps19
  go_wp2_with fail
  exact bodyPost_ret (v := .agg #[.int .i64 2, .string ⟨#[]⟩, .slice none 0 0, .int .i64 0, .int .i64 0, .int .i64 t, .int .i64 0, .slice none 0 0]) (by simp only [results, Try.results19]; go_simp) rfl ⟨rfl, below_alloc (Below.refl _ _) _⟩
/-- An item that is small, its numbers left out. -/
def smI0 (x : ItC) : Prop := smallS x.2.1 x.2.2.1 ∧ x.2.2.2.2.2.2.2.length ≤ 40 ∧ ∀ c ∈ x.2.2.2.2.2.2.2, smallL c.1
set_option maxHeartbeats 4000000 in
set_option maxRecDepth 100000 in
theorem small_any {k t n tm bt : Int} {m : ByteArray} {la ca : Option Addr} {ln lc cn cc : Nat} {L : List Lb} {C : List Cg} {w : World} (hn : L.length = ln) (h : RdLb w la L) (g : RdCg w ca cn C) :
    Calls Try.prog 20 #[.agg #[.int .i64 k, .string m, .slice la ln lc, .int .i64 t, .int .i64 n, .int .i64 tm, .int .i64 bt, .slice ca cn cc]] w (Tells (smI0 (k, m, L, t, n, tm, bt, C.map cgC)) w) := by
  have HB := Lib.hid (below_alloc (below_alloc (Below.refl w.heap.size w) (.cells #[.int .i64 k, .string m, .slice la ln lc, .int .i64 t, .int .i64 n, .int .i64 tm, .int .i64 bt, .slice ca cn cc] 38)) (.cells #[.string m, .slice la ln lc, .int .i64 t, .int .i64 n] 33))
  have HX := Lib.hid (keepA (newB w (.cells #[.int .i64 k, .string m, .slice la ln lc, .int .i64 t, .int .i64 n, .int .i64 tm, .int .i64 bt, .slice ca cn cc] 38)) (.cells #[.string m, .slice la ln lc, .int .i64 t, .int .i64 n] 33))
  have HY := Lib.hid (newB (w.alloc (.cells #[.int .i64 k, .string m, .slice la ln lc, .int .i64 t, .int .i64 n, .int .i64 tm, .int .i64 bt, .slice ca cn cc] 38)) (.cells #[.string m, .slice la ln lc, .int .i64 t, .int .i64 n] 33))
  have HR : Hid (RdSm ((w.alloc (.cells #[.int .i64 k, .string m, .slice la ln lc, .int .i64 t, .int .i64 n, .int .i64 tm, .int .i64 bt, .slice ca cn cc] 38)).alloc (.cells #[.string m, .slice la ln lc, .int .i64 t, .int .i64 n] 33)) (some ⟨w.heap.size + 1, 0, none⟩) 1 [(m, (la, lc, L), t, n)]) := Lib.hid (by
    have e := HY.out
    rw [alloc_size] at e
    refine ⟨rfl, ⟨rfl, fun _ => ⟨_, rfl, only_lt e, by rw [show rowF smc [(m, (la, lc, L), t, n)] = [.string m, .slice la L.length lc, .int .i64 t, .int .i64 n] from rfl, hn]; exact World.news_of_block e⟩⟩, fun x hx => ?_⟩
    rw [List.mem_singleton.1 hx]
    exact h.below HB.out)
  have CS : Hid (Calls Try.prog 35 #[.slice (some ⟨w.heap.size + 1, 0, none⟩) 1 1, .int .i64 1] _ (Tells (smallS m L) _)) := Lib.hid (lightS_any (c := 1) 1 HR.out (by decide) (P := smallS m L) (fun _ h => h (m, (la, lc, L), t, n) (by simp)))
  have CC : Hid (∀ W, Below w.heap.size w W → Calls Try.prog 36 #[.slice ca cn cc, .int .i64 40] W (Tells (C.length ≤ 40 ∧ ∀ x ∈ C, smallL x.1.2.2) W)) := Lib.hid (fun W (hb : Below w.heap.size w W) => lightC_any (c := cc) 40 (g.below hb) (by decide) (P := C.length ≤ 40 ∧ ∀ x ∈ C, smallL x.1.2.2) (fun h1 h2 => ⟨h1, h2⟩))
  have d1 := cellAt (o := 1) HX.out rfl
  have d2 := cellAt (o := 2) HX.out rfl
  have d3 := cellAt (o := 3) HX.out rfl
  have d4 := cellAt (o := 4) HX.out rfl
  clear hn h g HY HR
  go_enter Try.func20, Try.ntmps20
  go_wp2_with fail
  clear d1 d2 d3 d4
  refine CS.out.mono ?_
  rintro e w1 ⟨b, rfl, hb, hb1⟩
  have HB1 := Lib.hid (HB.out.trans (hb1.mono HB.out.size))
  have HX1 := Lib.hid (keepB HX.out hb1)
  have HP1 := Lib.hid hb
  clear hb hb1 CS HX
  have d7 := cellAt (o := 7) HX1.out rfl
  cases b
  · go_wp2_with fail
    go_ret
    exact ⟨false, rfl, fun h => (by cases h), HB1.out⟩
  · go_wp2_with fail
    refine (CC.out _ HB1.out).mono ?_
    rintro e w2 ⟨b, rfl, hb, hb2⟩
    have HB2 := Lib.hid (HB1.out.trans (hb2.mono HB1.out.size))
    have HP2 := Lib.hid hb
    clear hb hb2 CC d7
    go_wp2_with fail
    go_ret
    refine ⟨b, rfl, fun hb => ?_, HB2.out⟩
    have h1 := HP1.out (by first | rfl | trivial)
    obtain ⟨h2, h3⟩ := HP2.out hb
    exact ⟨h1, by simpa using h2, fun c hc => by obtain ⟨x, hx, rfl⟩ := List.mem_map.1 hc; exact h3 x hx⟩
/-- Items in a slice, whatever they are. -/
structure RdI0 (w : World) (G : Nat → Prop) (A : Option Addr) (n : Nat) (X : List It) : Prop where
  len : X.length = n
  row : Reads w w.heap.size 8 A n (rowF itc X)
  rowG : 0 < n → ∀ ad, A = some ad → G ad.block
  its : ∀ x ∈ X, ItIn w G x.2.2.1.1 x.2.2.1.2.2 x.2.2.2.2.2.2.2.1 x.2.2.2.2.2.2.2.2.2
theorem RdI0.its_ {w : World} {G : Nat → Prop} {A : Option Addr} {n : Nat} {X : List It} (h : RdI0 w G A n X) (hs : ∀ x ∈ X, smI (itC x)) : RdIts w G A n X := ⟨h.len, h.row, h.rowG, h.its, hs⟩
theorem RdI0.below {w w' : World} {G : Nat → Prop} {A : Option Addr} {n : Nat} {X : List It} (h : RdI0 w G A n X) (hb : Below w.heap.size w w') : RdI0 w' G A n X :=
  ⟨h.len, Reads.more (Reads.below h.row hb) hb.size, h.rowG, fun x hx => (h.its x hx).below hb⟩
theorem RdI0.some_ {w : World} {G : Nat → Prop} {A : Option Addr} {n : Nat} {X : List It} (h : RdI0 w G A n X) (h0 : 0 < n) : ∃ ad, A = some ad ∧ ad.block < w.heap.size := by
  obtain ⟨ad, e, hb, _⟩ := h.row.2 h0; exact ⟨ad, e, hb⟩
theorem RdI0.at_ {w : World} {G : Nat → Prop} {ad : Addr} {nn : Nat} {X : List It} (h : RdI0 w G (some ad) nn X) {j : Nat} (hj : j < X.length) {k t n tm bt : Int} {m : ByteArray} {la ca : Option Addr} {lc cc : Nat} {L : List Lb} {C : List Cg} (hx : X[j] = (k, m, (la, lc, L), t, n, tm, bt, ca, cc, C)) :
    w.cell? (ad.add (j * 8)) = some (.int .i64 k) ∧ w.cell? { block := (ad.add (j * 8)).block, off := (ad.add (j * 8)).off + 1 } = some (.string m) ∧ w.cell? { block := (ad.add (j * 8)).block, off := (ad.add (j * 8)).off + 2 } = some (.slice la L.length lc) ∧ w.cell? { block := (ad.add (j * 8)).block, off := (ad.add (j * 8)).off + 3 } = some (.int .i64 t) ∧
    w.cell? { block := (ad.add (j * 8)).block, off := (ad.add (j * 8)).off + 4 } = some (.int .i64 n) ∧ w.cell? { block := (ad.add (j * 8)).block, off := (ad.add (j * 8)).off + 5 } = some (.int .i64 tm) ∧ w.cell? { block := (ad.add (j * 8)).block, off := (ad.add (j * 8)).off + 6 } = some (.int .i64 bt) ∧ w.cell? { block := (ad.add (j * 8)).block, off := (ad.add (j * 8)).off + 7 } = some (.slice ca C.length cc) :=
  ⟨row_at (f := itc) (s := 8) (fun _ => rfl) h.row hj h.len (by decide) (by rw [hx]; rfl), row_atI (f := itc) (s := 8) (fun _ => rfl) h.row hj h.len 1 (by decide) (by decide) (by rw [hx]; rfl), row_atI (f := itc) (s := 8) (fun _ => rfl) h.row hj h.len 2 (by decide) (by decide) (by rw [hx]; rfl), row_atI (f := itc) (s := 8) (fun _ => rfl) h.row hj h.len 3 (by decide) (by decide) (by rw [hx]; rfl),
   row_atI (f := itc) (s := 8) (fun _ => rfl) h.row hj h.len 4 (by decide) (by decide) (by rw [hx]; rfl), row_atI (f := itc) (s := 8) (fun _ => rfl) h.row hj h.len 5 (by decide) (by decide) (by rw [hx]; rfl), row_atI (f := itc) (s := 8) (fun _ => rfl) h.row hj h.len 6 (by decide) (by decide) (by rw [hx]; rfl), row_atI (f := itc) (s := 8) (fun _ => rfl) h.row hj h.len 7 (by decide) (by decide) (by rw [hx]; rfl)⟩
set_option maxHeartbeats 8000000 in
set_option maxRecDepth 100000 in
theorem light_one {w : World} {G : Nat → Prop} {b n c : Nat} {A : Option Addr} {X : List It} (hb : w.heap[b]? = some (.cells #[.bool false, .slice A n c] 26 (0, 0))) (hX : RdI0 w G A n X) {P : Prop} (hP : n ≤ 100 → (∀ x ∈ X, smI0 (itC x)) → P) :
    Calls Try.prog 6 #[.slice (some ⟨b, 0, none⟩) 1 1] w (Tells P w) := by
  have HX := Lib.hid hX
  have HP := Lib.hid hP
  have HBk := Lib.hid hb
  clear hb hX hP
  go_enter Try.func6, Try.ntmps6
  go_wp2_with fail
  go_loopw [3, 4] (fun s v wr => ∃ i j : Nat, v = .int .i64 (i : Int) ∧ s = .int .i64 (j : Int) ∧ i ≤ 1 ∧ j ≤ 101 ∧ Hid (i = 0 → j = 0) ∧ Hid (i = 1 → j = min n 101 ∧ ∀ x ∈ X.take 101, smI0 (itC x)) ∧ Hid (Below w.heap.size w wr)) (fun _ v _ => 1 - (intOf v).toNat)
  case atStart => exact ⟨0, 0, rfl, rfl, by omega, by omega, Lib.hid (fun _ => rfl), Lib.hid (fun h => by omega), Lib.hid (Below.refl _ _)⟩
  case round =>
    obtain ⟨i, j, rfl, rfl, hi, hj, HI0, HI1, HB⟩ := hrel
    by_cases h1 : i = 0
    · subst h1
      obtain rfl : j = 0 := HI0.out rfl
      have k1 := cellAt (o := 1) (v := .slice A n c) (keepB HBk.out HB.out) rfl
      clear HI0 HI1
      rw [show (((0 : Nat)) : Int) = 0 from rfl]
      go_wp2_with fail
      go_loopw [3, 5] (fun s v wr2 => ∃ k : Nat, v = .int .i64 (k : Int) ∧ s = .int .i64 (k : Int) ∧ k ≤ n ∧ k ≤ 101 ∧ Hid (∀ x ∈ X.take k, smI0 (itC x)) ∧ Hid (Below w.heap.size w wr2)) (fun _ v _ => n - (intOf v).toNat)
      case atStart => exact ⟨0, rfl, rfl, Nat.zero_le _, by omega, Lib.hid (by simp), HB⟩
      clear HB
      case round =>
        clear k1
        obtain ⟨k, rfl, rfl, hk, hk1, HT, HB⟩ := hrel
        have k1 := cellAt (o := 1) (v := .slice A n c) (keepB HBk.out HB.out) rfl
        by_cases h0 : k < n
        · have hkI : (k : Int) < (n : Int) := by omega
          by_cases h3 : k ≤ 100
          · have h3I : (k : Int) ≤ 100 := by omega
            have hkX : k < X.length := by rw [HX.out.len]; exact h0
            obtain ⟨ad, rfl, _⟩ := HX.out.some_ (by omega)
            obtain ⟨⟨kk, m, ⟨la, lc, L⟩, t, nn, tm, bt, ca, cc, C⟩, hx⟩ : ∃ x, X[k] = x := ⟨_, rfl⟩
            have hin := (HX.out.below HB.out).its _ (List.getElem_mem hkX)
            rw [hx] at hin
            simp only at hin
            obtain ⟨c0, c1, c2, c3, c4, c5, c6, c7⟩ := (HX.out.below HB.out).at_ hkX hx
            obtain ⟨l1, hl1⟩ : ∃ n, L.length = n := ⟨_, rfl⟩
            obtain ⟨l2, hl2⟩ : ∃ n, C.length = n := ⟨_, rfl⟩
            rw [hl1] at c2
            rw [hl2] at c7
            have HT1 : Hid (X.take (k + 1) = X.take k ++ [(kk, m, (la, lc, L), t, nn, tm, bt, ca, cc, C)]) := Lib.hid (by rw [← hx]; exact (List.take_append_getElem hkX).symm)
            have hw : IntKind.i64.wrap ((k : Int) + 1) = ((k + 1 : Nat) : Int) := by rw [IntKind.wrap_i64]; omega
            have CS := Lib.hid (small_any (k := kk) (m := m) (t := t) (n := nn) (tm := tm) (bt := bt) (lc := lc) (cc := cc) hl1 hin.lab (by have := hin.chg; rw [hl2] at this; exact this))
            clear hkX hx hin hl1 hl2
            go_wp2_with fail
            refine CS.out.mono ?_
            rintro e w2 ⟨q, rfl, hq, hb2⟩
            have HB2 := Lib.hid (HB.out.trans (hb2.mono HB.out.size))
            have HQ := Lib.hid hq
            clear hq hb2 c0 c1 c2 c3 c4 c5 c6 c7 CS
            cases q
            · go_wp2_with fail
              go_ret
              exact ⟨false, rfl, fun h => (by cases h), HB2.out⟩
            · go_wp2_with fail
              go_roundw
              case rel => exact ⟨k + 1, by go_num, by go_num, by omega, by omega, Lib.hid (fun x hx => by
                rw [HT1.out] at hx
                rcases List.mem_append.1 hx with hx | hx
                · exact HT.out x hx
                · rw [List.mem_singleton.1 hx]; exact HQ.out (by first | rfl | trivial)), HB2⟩
              case measure => simp [intOf]; omega
          · have h3I : ¬ (k : Int) ≤ 100 := by omega
            have hk101 : k = 101 := by omega
            have hmin : Hid (k = min n 101 ∧ ∀ x ∈ X.take 101, smI0 (itC x)) := Lib.hid ⟨by omega, fun x hx => HT.out x (by rw [hk101]; exact hx)⟩
            clear hk101
            go_wp2_with fail
            go_roundw
            case rel => exact ⟨1, k, rfl, rfl, by omega, by omega, Lib.hid (fun h => by omega), Lib.hid (fun _ => hmin.out), HB⟩
            case measure => simp [intOf]
        · have hkI : ¬ (k : Int) < (n : Int) := by omega
          have hmin : Hid (k = min n 101 ∧ ∀ x ∈ X.take 101, smI0 (itC x)) := Lib.hid ⟨by omega, fun x hx => by
            refine HT.out x ?_
            rw [List.take_of_length_le (by rw [HX.out.len]; omega)]
            exact List.mem_of_mem_take hx⟩
          go_wp2_with fail
          go_roundw
          case rel => exact ⟨1, k, rfl, rfl, by omega, by omega, Lib.hid (fun h => by omega), Lib.hid (fun _ => hmin.out), HB⟩
          case measure => simp [intOf]
    · obtain rfl : i = 1 := by omega
      obtain ⟨hj2, hs⟩ := HI1.out rfl
      by_cases h3 : j ≤ 100
      · have h3I : (j : Int) ≤ 100 := by omega
        have h3D : decide ((j : Int) ≤ 100) = true := by simp; omega
        have HF := Lib.hid (HP.out (by omega) (fun x hx => hs x (by rw [List.take_of_length_le (by rw [HX.out.len]; omega)]; exact hx)))
        clear hj2 hs HI0 HI1
        go_wp2_with fail
        go_ret
        exact ⟨true, rfl, fun _ => HF.out, HB.out⟩
      · have h3D : decide ((j : Int) ≤ 100) = false := by simp; omega
        have h3N : decide (j ≤ 100) = false := by simpa using h3
        clear hj2 hs HI0 HI1
        go_wp2_with fail
        go_ret
        exact ⟨false, rfl, fun h => (by cases h), HB.out⟩
end Go.Proofs.Ytjnkcgegmffncaa
