/- wire.table, wire.Sum: their contracts. -/
import Derived.Test.YtboldddmknpchaaWir
import Derived.Test.YtboldddmknpchaaCrcL
import Derived.Deep.MidRow
import Derived.Laws.Rows
namespace Go.Proofs.Ytboldddmknpchaa
open Go.RowKit
theorem bits_xor32 {a b : Nat} (ha : a < 4294967296) (hb : b < 4294967296) : bits BinOp.xor IntKind.u32 (a : Int) (b : Int) = ((a ^^^ b : Nat) : Int) := by
  show IntKind.u32.wrap ((BitVec.ofInt 32 _ ^^^ BitVec.ofInt 32 _).toNat : Int) = _
  have h := xor_lt32 ha hb
  rw [IntKind.wrap_u32, BitVec.toNat_xor, BitVec.toNat_ofInt, BitVec.toNat_ofInt]
  have e1 : ((a : Int) % ((2 ^ 32 : Nat) : Int)).toNat = a := by omega
  have e2 : ((b : Int) % ((2 ^ 32 : Nat) : Int)).toNat = b := by omega
  rw [e1, e2]; omega
theorem bits_and1 {a : Nat} (ha : a < 4294967296) : bits BinOp.and IntKind.u32 (a : Int) 1 = ((a % 2 : Nat) : Int) := by
  show IntKind.u32.wrap ((BitVec.ofInt 32 _ &&& BitVec.ofInt 32 1).toNat : Int) = _
  rw [IntKind.wrap_u32, BitVec.toNat_and, BitVec.toNat_ofInt, BitVec.toNat_ofInt]
  have e1 : ((a : Int) % ((2 ^ 32 : Nat) : Int)).toNat = a := by omega
  rw [e1]
  show ((a &&& 1 : Nat) : Int) % _ = _
  rw [Nat.and_one_is_mod]; omega
theorem st_odd {y : Nat} (h : y < 4294967296) (ho : y % 2 = 1) : bits BinOp.xor IntKind.u32 ((y : Int) / 2) 2197175160 = ((st y : Nat) : Int) := by
  have h2 : st y = (y / 2) ^^^ 2197175160 := by unfold st; rw [if_pos ho]
  rw [h2, ← bits_xor32 (a := y / 2) (b := 2197175160) (by omega) (by omega)]
  rfl
theorem st_even {y : Nat} (ho : ¬ y % 2 = 1) : (y : Int) / 2 = ((st y : Nat) : Int) := by
  have h2 : st y = y / 2 := by unfold st; rw [if_neg ho]
  rw [h2]; rfl
/-- The table, its first i places reckoned. -/
def tbl (i : Nat) : Array Value := ((List.range 256).map fun j => Value.int .u32 (if j < i then ((stn 8 j : Nat) : Int) else 0)).toArray
theorem tbl_size (i : Nat) : (tbl i).size = 256 := by simp [tbl]
theorem tbl_get (i j : Nat) (h : j < 256) : (tbl i)[j]? = some (.int .u32 (if j < i then ((stn 8 j : Nat) : Int) else 0)) := by simp [tbl, h]
theorem tbl_set (i : Nat) : (tbl i).setIfInBounds i (.int .u32 ((stn 8 i : Nat) : Int)) = tbl (i + 1) := by
  apply Array.ext
  · simp [tbl_size]
  · intro j h1 h2
    simp only [tbl_size, Array.size_setIfInBounds] at h1
    rw [Array.getElem_setIfInBounds (by simpa [tbl_size] using h1)]
    by_cases e : i = j
    · subst e; simp [tbl]
    · rw [if_neg e]; simp [tbl]; congr 1; simp; omega
theorem tbl_one (i : Nat) : (tbl i).all (·.oneCell') = true := by
  simp [tbl]
  intros; rfl
theorem wpL_allocT {w : World} {ops : Array Oper} {rest : List Oper} {o : Oper} {a : Act} {Q : Exit → Act → World → Prop} (hg : o.guard = none) (ho : o.op = .alloc 53)
    (h : wpList Try.prog ops Q rest (a.put o.dst (.pointer (some ⟨w.heap.size, 0, none⟩))) (w.alloc (.cells (tbl 0) 53))) : wpList Try.prog ops Q (o :: rest) a w :=
  wpList_plain hg fun _ hK => by
    have hr : (execOp a.eval o).run Try.prog w = .ok (.value (.pointer (some ⟨w.heap.size, 0, none⟩))) (w.alloc (.cells (tbl 0) 53)) := by
      unfold execOp
      rw [ho]
      kernel_rfl
    unfold Oper.wp
    rw [hr]
    exact hK _ _ h
theorem infoT : (Try.prog.info? 53).map (·.size) = some 256 := by kernel_rfl
theorem heap_setCells_whole {t : TypeId} (g : Nat) : ∀ (vs : List Value) (o : Nat) (w : World) (c : Array Value), w.heap[g]? = some (.cells c t (0, 0)) → o + vs.length = c.size →
    (w.setCells g o vs).heap[g]? = some (.cells ((c.toList.take o ++ vs).toArray) t (0, 0))
  | [], o, w, c, h, hl => by
    simp only [World.setCells, List.append_nil]
    rw [h, List.take_of_length_le (by simp at hl; simp; omega)]
  | v :: vs, o, w, c, h, hl => by
    have h1 := heap_setCell_same w g o c t v h
    have := heap_setCells_whole g vs (o + 1) _ _ h1 (by simp at hl ⊢; omega)
    simp only [World.setCells]
    rw [this]
    simp at hl
    congr 3
    have hlt : o < (c.toList.set o v).length := by simp; omega
    rw [Array.toList_setIfInBounds, List.take_succ_eq_append_getElem hlt, List.take_set_of_le (Nat.le_refl _)]
    simp
theorem below_setCells {B g : Nat} (hg : B ≤ g) : ∀ (vs : List Value) (o : Nat) (w w' : World), Below B w w' → Below B w (w'.setCells g o vs)
  | [], _, _, _, h => h
  | v :: vs, o, w, _, h => below_setCells hg vs (o + 1) w _ (h.setCell hg v)

set_option maxRecDepth 1000000 in
set_option maxHeartbeats 1000000 in
theorem table_any (w : World) : Calls Try.prog 36 #[] w fun e w' => e = .returned (.agg (tbl 256)) ∧ Below w.heap.size w w' := by
  go_enter Try.func36, Try.ntmps36
  go_wp2_with (with_reducible refine wpL_allocT rfl rfl ?_)
  have H0 : Hid (((w.alloc (.cells (tbl 0) 53)).alloc (.cells (tbl 0) 53)).heap[w.heap.size]? = some (.cells (tbl 0) 53 (0, 0))) := Lib.hid (keepA (newB _ _) _)
  have H1 : Hid (((w.alloc (.cells (tbl 0) 53)).alloc (.cells (tbl 0) 53)).heap[w.heap.size + 1]? = some (.cells (tbl 0) 53 (0, 0))) := Lib.hid (by rw [← alloc_size]; exact newB _ _)
  have HB := Lib.hid (below_alloc (below_alloc (Below.refl w.heap.size w) (.cells (tbl 0) 53)) (.cells (tbl 0) 53))
  go_loopw [5] (fun i wr => ∃ k : Nat, k ≤ 256 ∧ i = .int .i64 k ∧ Hid (wr.heap[w.heap.size]? = some (.cells (tbl 0) 53 (0, 0))) ∧ Hid (wr.heap[w.heap.size + 1]? = some (.cells (tbl k) 53 (0, 0))) ∧ Hid (Below w.heap.size w wr)) (fun i _ => 256 - (intOf i).toNat)
  case atStart => exact ⟨0, by omega, rfl, H0, H1, HB⟩
  case round =>
    obtain ⟨k, hk, rfl, H0, H1, HB⟩ := hrel
    by_cases hlt : k < 256
    · have e1 : (k : Int) < 256 := by omega
      go_wp2_with fail
      go_loop [3, 10] (fun x i => ∃ m : Nat, m ≤ 8 ∧ i = .int .i64 m ∧ x = .int .u32 (stn m k : Nat)) (fun _ i => 8 - (intOf i).toNat)
      case atStart => exact ⟨0, by omega, rfl, rfl⟩
      case round =>
        obtain ⟨m, hm, rfl, rfl⟩ := hrel
        obtain ⟨y, hy⟩ : ∃ y, stn m k = y := ⟨_, rfl⟩
        have hyl : y < 4294967296 := by rw [← hy]; exact stn_lt (by omega) m
        by_cases hm8 : m < 8
        · have e2 : (m : Int) < 8 := by omega
          have hs : stn (m + 1) k = st y := by rw [← hy]; rfl
          have b1 := bits_and1 hyl
          rw [hy]
          have HS := Lib.hid hs
          clear hy hs
          by_cases ho : y % 2 = 1
          · have e3 : (((y % 2 : Nat) : Int) == 1) = true := by rw [ho]; rfl
            have H2 := Lib.hid (st_odd hyl ho)
            clear ho
            go_wp2_with fail
            go_round
            case rel => exact ⟨m + 1, by omega, by go_num, by rw [H2.out, HS.out]⟩
            case measure => simp [intOf]; omega
          · have e3 : (((y % 2 : Nat) : Int) == 1) = false := by simp; omega
            have H2 := Lib.hid (st_even ho)
            clear ho
            go_wp2_with fail
            go_round
            case rel => exact ⟨m + 1, by omega, by go_num, by rw [H2.out, HS.out]⟩
            case measure => simp [intOf]; omega
        · obtain rfl : m = 8 := by omega
          have HY := Lib.hid hy
          have c1 := cellAt (o := k) H1.out (tbl_get k k hlt)
          have f1 := freeAt k H1.out
          rw [hy]
          clear hy
          go_wp2_with fail
          go_roundw
          case rel =>
            have h1 := heap_setCell_same wr (w.heap.size + 1) k _ _ (.int .u32 ((y : Nat) : Int)) H1.out
            rw [← HY.out, tbl_set] at h1
            refine ⟨k + 1, by omega, by go_num, ?_, ?_, Lib.hid (HB.out.setCell (by simp) _)⟩
            · exact Lib.hid ((heap_setCell_other _ _ _ _ (by simp)).trans H0.out)
            · rw [← HY.out]; exact Lib.hid h1
          case measure => simp [intOf]; omega
    · obtain rfl : k = 256 := by omega
      have hth : wr.there w.heap.size 0 (tbl 256).size := fun j hj => by
        rw [tbl_size] at hj
        refine ⟨?_, ?_⟩
        · rw [Nat.zero_add, cellAt H0.out (tbl_get 0 j hj)]; rfl
        · exact freeAt _ H0.out
      have HT := Lib.hid hth
      clear hth
      go_wp2_with (first
        | (with_reducible refine wpList_load_row rfl 53 (.tmp 1) rfl (w.heap.size + 1) rfl 53 (tbl 256) (0, 0) _ H1.out Try.underlying53 rfl (by rw [tbl_size]; exact infoT) ?_)
        | (with_reducible refine wpList_store_mid rfl 53 (.tmp 0) (.tmp 25) rfl w.heap.size 0 (tbl 256) rfl rfl HT.out (by rw [tbl_size]; exact infoT) (tbl_one 256) ?_))
      have hh := heap_setCells_whole w.heap.size (tbl 256).toList 0 wr (tbl 0) H0.out (by rw [tbl_size]; simp [tbl_size])
      simp only [List.take_zero, List.nil_append, Array.toArray_toList] at hh
      refine bodyPost_ret (v := .agg (tbl 256)) (results_cell_row (fn := Try.f36) rfl _ _ w.heap.size _ (tbl 256) (0, 0) _ (by rfl) hh Try.underlying53 rfl (by rw [tbl_size]; exact infoT)) rfl ⟨rfl, ?_⟩
      exact below_setCells (Nat.le_refl _) _ _ _ _ HB.out

theorem u8_mod {x : Nat} : IntKind.u8.wrap (x : Int) = ((x % 256 : Nat) : Int) := by rw [IntKind.wrap_u8]; omega
theorem bits_xor8 {a b : Nat} (ha : a < 256) (hb : b < 256) : bits BinOp.xor IntKind.u8 (a : Int) (b : Int) = ((a ^^^ b : Nat) : Int) := by
  show IntKind.u8.wrap ((BitVec.ofInt 8 _ ^^^ BitVec.ofInt 8 _).toNat : Int) = _
  have h := @Nat.xor_lt_two_pow a b 8 (by simpa using ha) (by simpa using hb)
  rw [IntKind.wrap_u8, BitVec.toNat_xor, BitVec.toNat_ofInt, BitVec.toNat_ofInt]
  have e1 : ((a : Int) % ((2 ^ 8 : Nat) : Int)).toNat = a := by omega
  have e2 : ((b : Int) % ((2 ^ 8 : Nat) : Int)).toNat = b := by omega
  rw [e1, e2]; omega
theorem xor8_lt {a b : Nat} (ha : a < 256) (hb : b < 256) : a ^^^ b < 256 := by
  have := @Nat.xor_lt_two_pow a b 8 (by simpa using ha) (by simpa using hb)
  simpa using this
theorem ones32 : BitVec.ofInt 32 (IntKind.u32.max) = BitVec.allOnes 32 := by decide
theorem not32 {x : Nat} (h : x < 4294967296) : bits BinOp.xor IntKind.u32 IntKind.u32.max (x : Int) = ((4294967295 - x : Nat) : Int) := by
  show IntKind.u32.wrap ((BitVec.ofInt 32 _ ^^^ BitVec.ofInt 32 _).toNat : Int) = _
  rw [ones32, BitVec.allOnes_xor, IntKind.wrap_u32, BitVec.toNat_not, BitVec.toNat_ofInt]
  omega
/-- The state of Sum: its table. -/
structure SumW (w : World) (H : Nat) (W : World) : Prop where
  tab : W.heap[H]? = some (.cells (tbl 256) 53 (0, 0))
  below : Below w.heap.size w W
set_option maxRecDepth 1000000 in
set_option maxHeartbeats 1000000 in
theorem sum_any (A : Option Addr) (c : Nat) (ps : List Pc) (w : World) (hr : RdP w A ps) (hn : ps.length ≤ 1099511627776) (hl : ∀ p ∈ ps, p.2.2.length ≤ 1099511627776) :
    Calls Try.prog 19 #[.slice A ps.length c] w fun e w' => e = .returned (.int .u32 (crc (allB ps) : Nat)) ∧ Below w.heap.size w w' := by
  have HR := Lib.hid hr
  have HL := Lib.hid hl
  clear hr hl
  go_enter Try.func19, Try.ntmps19
  go_wp2_with fail
  refine (table_any _).mono ?_
  rintro e w1 ⟨rfl, hb1⟩
  have HB1 := Lib.hid hb1
  clear hb1
  have HA := Lib.hid (newB w1 (.cells (tbl 0) 53))
  have HT : Hid ((w1.alloc (.cells (tbl 0) 53)).there w1.heap.size 0 (tbl 256).size) := Lib.hid (fun j hj => by
    rw [tbl_size] at hj
    refine ⟨?_, ?_⟩
    · rw [Nat.zero_add, cellAt HA.out (tbl_get 0 j hj)]; rfl
    · exact freeAt _ HA.out)
  have HW : Hid (SumW w w1.heap.size ((w1.alloc (.cells (tbl 0) 53)).setCells w1.heap.size 0 (tbl 256).toList)) := by
    have hh := heap_setCells_whole w1.heap.size (tbl 256).toList 0 _ (tbl 0) HA.out (by rw [tbl_size]; simp [tbl_size])
    simp only [List.take_zero, List.nil_append, Array.toArray_toList] at hh
    exact Lib.hid ⟨hh, below_setCells HB1.out.size _ _ _ _ (below_alloc HB1.out _)⟩
  go_wp2_with (first
    | (with_reducible refine wpL_allocT rfl rfl ?_)
    | (with_reducible refine wpList_store_mid rfl 53 (.tmp 3) (.tmp 9) rfl w1.heap.size 0 (tbl 256) rfl rfl HT.out (by rw [tbl_size]; exact infoT) (tbl_one 256) ?_))
  refine wp_let (fun W => Hid (SumW w w1.heap.size W)) HW ?_
  intro W HW
  clear HA HT HB1
  generalize w1.heap.size = H at *
  go_loop [4, 12] (fun x i => ∃ k : Nat, k ≤ ps.length ∧ i = .int .i64 k ∧ x = .int .u32 (crcF 4294967295 (allB (ps.take k)) : Nat)) (fun _ i => ps.length - (intOf i).toNat)
  case atStart => exact ⟨0, Nat.zero_le _, rfl, rfl⟩
  case round =>
    obtain ⟨k, hk, rfl, rfl⟩ := hrel
    by_cases hlt : k < ps.length
    · have e1 : (k : Int) < (ps.length : Int) := by omega
      have hrw := HR.out.below HW.out.below
      obtain ⟨ad, rfl, _, hc⟩ := hrw.at_ hlt
      have HK := Lib.hid (hrw.2 _ (List.getElem_mem hlt))
      have hll := HL.out _ (List.getElem_mem hlt)
      have HE := Lib.hid (allB_take ps k hlt)
      clear hrw
      generalize ps[k] = p at *
      obtain ⟨pa, pc, pl⟩ := p
      dsimp only at hc hll HK HE
      go_wp2_with fail
      go_loop [4, 18] (fun x i => ∃ j : Nat, j ≤ pl.length ∧ i = .int .i64 j ∧ x = .int .u32 (crcF 4294967295 (allB (ps.take k) ++ pl.take j) : Nat)) (fun _ i => pl.length - (intOf i).toNat)
      case atStart => exact ⟨0, Nat.zero_le _, rfl, by simp⟩
      case round =>
        obtain ⟨j, hj, rfl, rfl⟩ := hrel
        by_cases hlj : j < pl.length
        · have e2 : (j : Int) < (pl.length : Int) := by omega
          obtain ⟨ad2, rfl, _, hc2⟩ := HK.out.at_ hlj
          obtain ⟨x, hx⟩ : ∃ x, crcF 4294967295 (allB (ps.take k) ++ pl.take j) = x := ⟨_, rfl⟩
          have hxl : x < 4294967296 := by rw [← hx]; exact crcF_lt (by omega) _
          have hnx : crcF 4294967295 (allB (ps.take k) ++ pl.take (j + 1)) = stn 8 (x ^^^ pl[j].toNat) := by
            rw [crcF_append, crcF_take _ _ hlj, ← crcF_append, hx]
          rw [hx]
          have HNX := Lib.hid hnx
          clear hx hnx
          generalize pl[j] = cb at *
          have hcb := cb.toNat_lt
          obtain ⟨n, hn⟩ : ∃ n, (x % 256) ^^^ cb.toNat = n := ⟨_, rfl⟩
          have hn2 : n < 256 := by rw [← hn]; exact xor8_lt (Nat.mod_lt _ (by omega)) (by omega)
          have u2 : bits BinOp.xor IntKind.u8 ((x : Int) % 256) (cb.toNat : Int) = (n : Int) := by
            rw [← hn, ← bits_xor8 (a := x % 256) (b := cb.toNat) (Nat.mod_lt _ (by omega)) (by omega)]; rfl
          have ct : W.cell? ⟨H, n, none⟩ = some (.int .u32 ((stn 8 n : Nat) : Int)) := by
            rw [cellAt (o := n) HW.out.tab (tbl_get 256 n hn2), if_pos hn2]
          have u3 : bits BinOp.xor IntKind.u32 ((x : Int) / 256) ((stn 8 n : Nat) : Int) = ((stn 8 (x ^^^ cb.toNat) : Nat) : Int) := by
            rw [← upd_eq, hn, ← bits_xor32 (a := x / 256) (b := stn 8 n) (by omega) (stn_lt (by omega) 8)]; rfl
          have en : (n : Int) < 256 := by omega
          clear hn
          go_wp2_with fail
          go_round
          case rel => exact ⟨j + 1, by omega, by go_num, by rw [HNX.out]⟩
          case measure => simp [intOf]; omega
        · obtain rfl : j = pl.length := by omega
          rw [List.take_length]
          go_wp2_with fail
          go_round
          case rel => exact ⟨k + 1, by omega, by go_num, by rw [HE.out]⟩
          case measure => simp [intOf]; omega
    · obtain rfl : k = ps.length := by omega
      rw [List.take_length]
      obtain ⟨x, hx⟩ : ∃ x, crcF 4294967295 (allB ps) = x := ⟨_, rfl⟩
      have hxl : x < 4294967296 := by rw [← hx]; exact crcF_lt (by omega) _
      have HX : Hid (crc (allB ps) = 4294967295 - x) := Lib.hid (by unfold crc; rw [hx])
      rw [hx]
      clear hx
      have hs : IntKind.u32.signed = false := rfl
      have hx2 := not32 hxl
      go_wp2_with fail
      go_ret
      exact ⟨by rw [HX.out]; rfl, HW.out.below⟩
end Go.Proofs.Ytboldddmknpchaa
