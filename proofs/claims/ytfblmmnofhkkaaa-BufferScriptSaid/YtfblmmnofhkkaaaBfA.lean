/- A buffer in memory; find, at. -/
import Derived.Test.YtfblmmnofhkkaaaBfN
namespace Go.Proofs.Ytfblmmnofhkkaaa
open Go.RowKit
theorem findF_any (p : Pt) (t : Int) (w : World) : Calls Try.prog 45 #[bpv p, .int .i64 t] w fun e w' => e = .returned (.int .i64 (cmpI p.1 t)) ∧ Below w.heap.size w w' := by
  have C := Lib.hid (fun W => compare_any p.1 t W)
  have HB := Lib.hid (below_alloc (Below.refl w.heap.size w) (.cells #[.int .i64 p.1, .int .i64 p.2, .bool false] 45))
  have k0 := cellAt (o := 0) (newB w (.cells #[.int .i64 p.1, .int .i64 p.2, .bool false] 45)) rfl
  obtain ⟨a, b⟩ := p
  simp only at *
  go_enter Try.func45, Try.ntmps45
  go_wp2_with fail
  refine (C.out _).mono ?_
  rintro e w1 ⟨rfl, rfl⟩
  go_wp2_with fail
  go_ret
  exact ⟨rfl, HB.out⟩
theorem atF_any (x : Nat) (k t : Int) (w : World) (h : w.cell? ⟨x, 1, none⟩ = some (.int .i64 k)) : Calls Try.prog 39 #[.pointer (some ⟨x, 0, none⟩), .int .i64 t] w fun e w' => e = .returned (.int .i64 (cmpI k t)) ∧ Below w.heap.size w w' := by
  have C := Lib.hid (compare_any k t w)
  go_enter Try.func39, Try.ntmps39
  go_wp2_with fail
  refine C.out.mono ?_
  rintro e w1 ⟨rfl, rfl⟩
  go_wp2_with fail
  go_ret
  exact ⟨rfl, Below.refl _ _⟩
/-! ### Plain: where a time stands among rising points -/
abbrev tms (P : List Pt) : List Int := P.map (·.1)
def hasT (t : Int) (P : List Pt) : Bool := P.any (fun q => decide (q.1 = t))
theorem ksAt_tms {P : List Pt} {i : Nat} (h : i < P.length) : ksAt (tms P) i = P[i].1 := by simp [ksAt, List.getD_eq_getElem?_getD, h]
theorem tms_mono {P : List Pt} (hr : Rise P) : ∀ i j, i ≤ j → j < P.length → ksAt (tms P) i ≤ ksAt (tms P) j := by
  intro i j hij hj
  rw [ksAt_tms hj, ksAt_tms (by omega)]
  rcases Nat.lt_or_eq_of_le hij with h | rfl
  · exact Int.le_of_lt (List.pairwise_iff_getElem.1 hr i j (by omega) hj h)
  · exact Int.le_refl _
theorem cntLt_cons (t k : Int) (ks : List Int) : cntLt t (k :: ks) = cntLt t ks + if k < t then 1 else 0 := by
  unfold cntLt; rw [List.countP_cons]; simp
theorem cntLt_zero {t : Int} {ks : List Int} (h : ∀ k ∈ ks, t ≤ k) : cntLt t ks = 0 := by
  unfold cntLt; rw [List.countP_eq_zero]; intro k hk; have := h k hk; simp; omega
theorem cntLt_le (t : Int) (ks : List Int) : cntLt t ks ≤ ks.length := List.countP_le_length
/-- Rising points, cut at a time. -/
theorem rise_cut (t : Int) : ∀ {P : List Pt}, Rise P → (∀ q ∈ P.take (cntLt t (tms P)), q.1 < t) ∧ (∀ q ∈ P.drop (cntLt t (tms P)), t ≤ q.1)
  | [], _ => ⟨by simp, by simp⟩
  | p :: P, hr => by
    unfold Rise at hr
    rw [List.pairwise_cons] at hr
    obtain ⟨h1, h2⟩ := rise_cut t (P := P) hr.2
    have e : cntLt t (tms (p :: P)) = cntLt t (tms P) + if p.1 < t then 1 else 0 := cntLt_cons t p.1 _
    by_cases hp : p.1 < t
    · rw [e, if_pos hp]
      refine ⟨fun q hq => ?_, fun q hq => h2 q (by simpa using hq)⟩
      rw [List.take_succ_cons, List.mem_cons] at hq
      rcases hq with rfl | hq
      · exact hp
      · exact h1 q hq
    · have : cntLt t (tms P) = 0 := cntLt_zero (fun k hk => by obtain ⟨q, hq, rfl⟩ := List.mem_map.1 hk; have := hr.1 q hq; omega)
      rw [e, if_neg hp, this]
      refine ⟨by simp, fun q hq => ?_⟩
      simp only [Nat.add_zero, List.drop_zero, List.mem_cons] at hq
      rcases hq with rfl | hq
      · omega
      · have := hr.1 q hq; omega
theorem found_has {t : Int} {P : List Pt} (hr : Rise P) : (decide (cntLt t (tms P) < P.length) && decide (ksAt (tms P) (cntLt t (tms P)) = t)) = hasT t P := by
  obtain ⟨h1, h2⟩ := rise_cut t hr
  have hle := cntLt_le t (tms P)
  obtain ⟨k, hk⟩ : ∃ k, cntLt t (tms P) = k := ⟨_, rfl⟩
  rw [hk] at h1 h2 hle ⊢
  rw [Bool.eq_iff_iff]
  unfold hasT
  simp only [Bool.and_eq_true, decide_eq_true_eq, List.any_eq_true]
  constructor
  · rintro ⟨hl, he⟩
    exact ⟨P[k], List.getElem_mem hl, by rw [← he, ksAt_tms hl]⟩
  · rintro ⟨q, hq, he⟩
    obtain ⟨j, hj, rfl⟩ := List.getElem_of_mem hq
    have hjk : k ≤ j := Nat.le_of_not_lt fun h => by
      have := h1 P[j] (List.mem_take_iff_getElem.2 ⟨j, by omega, rfl⟩); omega
    have hkl : k < P.length := by omega
    refine ⟨hkl, ?_⟩
    have h3 := h2 P[k] (List.mem_drop_iff_getElem.2 ⟨0, by simpa using hkl, by simp⟩)
    have h4 := tms_mono hr k j hjk hj
    rw [ksAt_tms hj, ksAt_tms hkl] at h4
    rw [ksAt_tms hkl]
    omega
/-! ### find -/
theorem bfind_any {w : World} {p : Nat} {P : List Pt} (t : Int) (h : BlkW w p P) (hr : Rise P) : Calls Try.prog 33 #[.pointer (some ⟨p, 0, none⟩), .int .i64 t] w fun e w' => e = .returned (.tuple #[.int .i64 (cntLt t (tms P) : Int), .bool (hasT t P)]) ∧ Below w.heap.size w w' := by
  have hle := h.le
  have HC := Lib.hid (bpoints_any h)
  have HS : Hid (∀ W, Below w.heap.size w W → Calls Try.prog 43 #[.slice (some ⟨p, 1, none⟩) P.length 64, .int .i64 t, .func (.func 45) #[] #[]] W fun e w' =>
      e = .returned (.tuple #[.int .i64 (cntLt t (tms P) : Int), .bool (hasT t P)]) ∧ Below W.heap.size W w') := Lib.hid (fun W hW => by
    have hb := h.below hW
    have := bs_pt p 1 P.length 64 (fun i => P.getD i (0, 0)) (tms P) t W (by simp) (by omega) hb.lt (fun i hi => by
      have := hb.pt hi
      rw [List.getD_eq_getElem?_getD, List.getElem?_eq_getElem hi]; exact this) (tms_mono hr) (fun i hi W' _ => by
      have hi' : i < P.length := by simpa using hi
      have e : P.getD i (0, 0) = P[i] := by rw [List.getD_eq_getElem?_getD, List.getElem?_eq_getElem hi']; rfl
      show Calls _ _ #[bpv (P.getD i (0, 0)), _] W' _
      rw [ksAt_tms hi', e]
      exact findF_any _ t W')
    rw [found_has hr] at this
    exact this)
  obtain ⟨n, hn⟩ : ∃ n, P.length = n := ⟨_, rfl⟩
  obtain ⟨cn, hcn⟩ : ∃ n, cntLt t (tms P) = n := ⟨_, rfl⟩
  rw [hn] at HC HS
  rw [hcn] at HS ⊢
  clear h hn hcn
  go_enter Try.func33, Try.ntmps33
  go_wp2_with fail
  refine HC.out.mono ?_
  rintro e w1 ⟨rfl, hb1⟩
  have HB := Lib.hid hb1
  clear hb1
  go_wp2_with fail
  refine (HS.out _ HB.out).mono ?_
  rintro e w2 ⟨rfl, hb2⟩
  have HB2 := Lib.hid (HB.out.trans (hb2.mono HB.out.size))
  clear hb2
  go_wp2_with fail
  exact bodyPost_ret (v := .tuple #[.int .i64 (cn : Int), .bool (hasT t P)]) (by simp only [results, Try.results33]; go_simp) rfl ⟨rfl, HB2.out⟩
/-! ### A buffer -/
/-- A block: where it lies, its points. -/
abbrev Blk := Nat × List Pt
def blkPtrs (Z : List Blk) : List Value := Z.map (fun z => .pointer (some ⟨z.1, 0, none⟩))
abbrev bufC (v : Value) (fl : Int) (n : Nat) : Array Value := #[.bool true, v, .int .i64 fl, .int .i64 (n : Int)]
/-- A made buffer at b, in memory of F: its blocks, its slice of them, its floor, its count. -/
structure BufC (w : World) (F : Nat → Prop) (b : Nat) (Z : List Blk) (v : Value) (fl : Int) (n : Nat) : Prop where
  inF : F b
  buf : w.heap[b]? = some (.cells (bufC v fl n) 60 (0, 0))
  row : RowAt w F 61 1 v Z.length (blkPtrs Z)
  blks : ∀ z ∈ Z, F z.1 ∧ BlkW w z.1 z.2
  nodup : (Z.map (·.1)).Nodup
theorem blkPtrs_one (Z : List Blk) : ∀ u ∈ blkPtrs Z, u.oneCell' = true := fun u hu => by
  obtain ⟨z, _, rfl⟩ := List.mem_map.1 hu
  rfl
section
variable {w w' : World} {F : Nat → Prop} {b n : Nat} {Z : List Blk} {v : Value} {fl : Int}
theorem BufC.below (h : BufC w F b Z v fl n) (hb : Below w.heap.size w w') : BufC w' F b Z v fl n :=
  ⟨h.inF, keepB h.buf hb, h.row.below hb, fun z hz => ⟨(h.blks z hz).1, (h.blks z hz).2.below hb⟩, h.nodup⟩
theorem BufC.weak {G : Nat → Prop} (h : BufC w F b Z v fl n) (hG : ∀ k, k < w.heap.size → F k → G k) : BufC w G b Z v fl n :=
  ⟨hG b (only_lt h.buf) h.inF, h.buf, h.row.weak hG, fun z hz => ⟨hG _ (h.blks z hz).2.lt (h.blks z hz).1, (h.blks z hz).2⟩, h.nodup⟩
theorem BufC.keep {S : Nat → Prop} (h : BufC w F b Z v fl n) (ho : Only S w w') (hn : ∀ k, F k → k < w.heap.size → ¬ S k) : BufC w' F b Z v fl n :=
  ⟨h.inF, ho.get h.buf (hn b h.inF (only_lt h.buf)), h.row.keep ho hn, fun z hz => ⟨(h.blks z hz).1, (h.blks z hz).2.keep ho (hn _ (h.blks z hz).1 (h.blks z hz).2.lt)⟩, h.nodup⟩
/-- The slice of blocks, as it is read. -/
theorem BufC.form (h : BufC w F b Z v fl n) (hz : Z ≠ []) : ∃ g o c, v = .slice (some ⟨g, o, none⟩) Z.length c ∧ Z.length ≤ c ∧ c ≤ maxLen ∧ g < w.heap.size ∧ ∀ i (hi : i < Z.length), w.cell? ⟨g, o + i, none⟩ = some (.pointer (some ⟨Z[i].1, 0, none⟩)) := by
  have hl : 0 < Z.length := List.length_pos_iff.2 hz
  rcases h.row.2 with ⟨_, h0⟩ | ⟨g, o, c, cur, rfl, h2, h3, h4, h5, h6, h7⟩
  · omega
  · refine ⟨g, o, c, rfl, h4, h5, only_lt h3, fun i hi => ?_⟩
    have := row_cells h3 h7 h4 i (.pointer (some ⟨Z[i].1, 0, none⟩)) (by simp [blkPtrs, hi])
    rwa [add_mk] at this
end
/-- The place of the block for a time: of the first times of the blocks. -/
def atK (t : Int) (ks : List Int) : Nat := if (decide (cntLt t ks < ks.length) && decide (ksAt ks (cntLt t ks) = t)) = true then cntLt t ks else cntLt t ks - 1
set_option maxRecDepth 100000 in
theorem bat_any {w : World} {F : Nat → Prop} {b n : Nat} {Z : List Blk} {v : Value} {fl : Int} (t : Int) (ks : List Int) (h : BufC w F b Z v fl n) (hne : Z ≠ []) (hN : Z.length ≤ 1099511627776) (hk : ks.length = Z.length)
    (hks : ∀ i (hi : i < Z.length), w.cell? ⟨Z[i].1, 1, none⟩ = some (.int .i64 (ksAt ks i))) (hm : ∀ i j, i ≤ j → j < Z.length → ksAt ks i ≤ ksAt ks j) :
    Calls Try.prog 31 #[.pointer (some ⟨b, 0, none⟩), .int .i64 t] w fun e w' => e = .returned (.int .i64 (atK t ks : Int)) ∧ Below w.heap.size w w' := by
  obtain ⟨g, o, c, rfl, h1, h2, h3, h4⟩ := h.form hne
  have k1 := cellAt (o := 1) h.buf rfl
  have hle := cntLt_le t ks
  have HS := Lib.hid (bs_blk g o Z.length c (fun i => (Z.getD i (0, [])).1) ks t w hk hN h3 (fun i hi => by
      have e : Z.getD i (0, []) = Z[i] := by rw [List.getD_eq_getElem?_getD, List.getElem?_eq_getElem hi]; rfl
      rw [e]; exact h4 i hi) hm (fun i hi W hW => by
      rw [hk] at hi
      have e : Z.getD i (0, []) = Z[i] := by rw [List.getD_eq_getElem?_getD, List.getElem?_eq_getElem hi]; rfl
      show Calls _ _ #[.pointer (some ⟨(Z.getD i (0, [])).1, 0, none⟩), _] W _
      rw [e]
      exact atF_any _ _ t W ((hW.cell (p := ⟨Z[i].1, 1, none⟩) (h.blks _ (List.getElem_mem hi)).2.lt).trans (hks i hi))))
  unfold atK
  rw [← hk] at HS hN
  obtain ⟨cn, hcn⟩ : ∃ n, cntLt t ks = n := ⟨_, rfl⟩
  obtain ⟨fd, hfd⟩ : ∃ x, (decide (cntLt t ks < ks.length) && decide (ksAt ks (cntLt t ks) = t)) = x := ⟨_, rfl⟩
  rw [hfd, hcn] at HS
  rw [hfd, hcn]
  rw [hcn] at hle
  have hcc : cn ≤ 1099511627776 := by omega
  clear hks hm h4 h hfd hcn h2 h1
  generalize hzl : Z.length = zl at *
  have hwr : IntKind.i64.wrap ((cn : Int) - 1) = (cn : Int) - 1 := by rw [IntKind.wrap_i64]; omega
  go_enter Try.func31, Try.ntmps31
  cases fd
  · rw [if_neg (by simp)]
    by_cases h1 : (1 : Int) < cn
    · have h2 : ¬ ((cn : Int) ≤ 1) := by omega
      go_wp2_with fail
      rw [hk] at HS
      refine HS.out.mono ?_
      rintro e w1 ⟨rfl, hb1⟩
      have HB := Lib.hid hb1
      clear hb1 HS
      go_wp2_with fail
      exact bodyPost_ret (v := .int .i64 ((cn : Int) - 1)) (by simp only [results, Try.results31]; go_simp) rfl ⟨by simp; omega, HB.out⟩
    · have h2 : ((cn : Int) ≤ 1) := by omega
      go_wp2_with fail
      rw [hk] at HS
      refine HS.out.mono ?_
      rintro e w1 ⟨rfl, hb1⟩
      have HB := Lib.hid hb1
      clear hb1 HS
      go_wp2_with fail
      exact bodyPost_ret (v := .int .i64 (0)) (by simp only [results, Try.results31]; go_simp) rfl ⟨by simp; omega, HB.out⟩
  · rw [if_pos rfl]
    by_cases h1 : 0 < cn
    · skip
      go_wp2_with fail
      rw [hk] at HS
      refine HS.out.mono ?_
      rintro e w1 ⟨rfl, hb1⟩
      have HB := Lib.hid hb1
      clear hb1 HS
      go_wp2_with fail
      exact bodyPost_ret (v := .int .i64 ((cn : Int))) (by simp only [results, Try.results31]; go_simp) rfl ⟨by rfl, HB.out⟩
    · obtain rfl : cn = 0 := by omega
      go_wp2_with fail
      rw [hk] at HS
      refine HS.out.mono ?_
      rintro e w1 ⟨rfl, hb1⟩
      have HB := Lib.hid hb1
      clear hb1 HS
      go_wp2_with fail
      exact bodyPost_ret (v := .int .i64 (0)) (by simp only [results, Try.results31]; go_simp) rfl ⟨by rfl, HB.out⟩
end Go.Proofs.Ytfblmmnofhkkaaa
