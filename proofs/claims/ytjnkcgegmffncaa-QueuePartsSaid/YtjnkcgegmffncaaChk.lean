/- Changes: asked one by one; cloned. -/
import Derived.Test.YtjnkcgegmffncaaChg
namespace Go.Proofs.Ytjnkcgegmffncaa
open Go.RowKit
def badC (x : Ch) : Bool := decide (chgE x ≠ 0)
theorem check1_any {A : Option Addr} {c n : Nat} {L : List Lb} {k : Int} {ov gn : Bool} {w : World} (hn : L.length = n) (h : RdLb w A L) : Calls Try.prog 30 #[.agg #[.slice A n c, .int .i64 k, .bool ov, .bool gn]] w fun e w' => e = .returned (.bool (badC (L, k, ov, gn))) ∧ Below w.heap.size w w' := by
  have HB := Lib.hid (below_alloc (Below.refl w.heap.size w) (.cells #[.slice A n c, .int .i64 k, .bool ov, .bool gn] 71))
  have HX := Lib.hid (newB w (.cells #[.slice A n c, .int .i64 k, .bool ov, .bool gn] 71))
  have CL := Lib.hid (cchg_any (c := c) (k := k) (ov := ov) (gn := gn) hn (h.below HB.out))
  have d0 := cellAt (o := 0) HX.out rfl
  have d1 := cellAt (o := 1) HX.out rfl
  have d2 := cellAt (o := 2) HX.out rfl
  have d3 := cellAt (o := 3) HX.out rfl
  unfold badC
  obtain ⟨x, hx⟩ : ∃ x, chgE (L, k, ov, gn) = x := ⟨_, rfl⟩
  rw [hx] at CL ⊢
  obtain ⟨y, hy⟩ : ∃ y, decide (x ≠ 0) = y := ⟨_, rfl⟩
  rw [hy]
  have HY := Lib.hid hy
  clear hn h hx hy
  go_enter Try.func30, Try.ntmps30
  go_wp2_with fail
  refine CL.out.mono ?_
  rintro e w1 ⟨rfl, hb1⟩
  have HB1 := Lib.hid (HB.out.trans (hb1.mono HB.out.size))
  clear hb1 d0 d1 d2 d3
  by_cases h0 : x = 0
  · subst h0
    obtain rfl : false = y := by rw [← HY.out]; rfl
    go_wp2_with fail
    go_ret
    exact ⟨rfl, HB1.out⟩
  · obtain rfl : true = y := by rw [← HY.out]; exact (decide_eq_true h0).symm
    have hx0 : (x != 0) = true := by simpa using h0
    have hx1 : (x == 0) = false := by simpa using h0
    go_wp2_with fail
    go_ret
    exact ⟨rfl, HB1.out⟩
def findC : List Ch → Nat → Int
  | [], _ => -1
  | x :: r, k => if badC x = true then (k : Int) else findC r (k + 1)
theorem findC_any : ∀ (L : List Ch) (k : Nat), decide (0 ≤ findC L k) = L.any badC
  | [], k => rfl
  | x :: r, k => by
    unfold findC
    cases h : badC x
    · rw [if_neg (by simp), findC_any r (k + 1), List.any_cons, h, Bool.false_or]
    · rw [if_pos rfl, List.any_cons, h, Bool.true_or]; simp
set_option maxHeartbeats 4000000 in
set_option maxRecDepth 100000 in
theorem index_any {A : Option Addr} {c n : Nat} {L : List Cg} {w : World} (h1 : RdCg w A n L) (hl : n ≤ 1000000) :
    Calls Try.prog 47 #[.slice A n c, .func (.func 30) #[] #[]] w fun e w' => e = .returned (.int .i64 (findC (L.map cgC) 0)) ∧ Below w.heap.size w w' := by
  obtain ⟨y, hy⟩ : ∃ b, findC (L.map cgC) 0 = b := ⟨_, rfl⟩
  rw [hy]
  have HY := Lib.hid hy
  have H1 := Lib.hid h1
  clear hy h1
  go_enter Try.func47, Try.ntmps47
  go_wp2_with fail
  go_loopw [8] (fun v wr => ∃ k : Nat, v = .int .i64 (k : Int) ∧ k ≤ n ∧ Hid (findC ((L.map cgC).drop k) k = y) ∧ Hid (Below w.heap.size w wr)) (fun v _ => n - (intOf v).toNat)
  case atStart => exact ⟨0, rfl, Nat.zero_le _, HY, Lib.hid (Below.refl _ _)⟩
  case round =>
    clear HY
    obtain ⟨k, rfl, hk, HT, HBr⟩ := hrel
    by_cases h0 : k < n
    · have hkL : k < L.length := by rw [H1.out.1]; exact h0
      obtain ⟨a1, rfl, _⟩ := H1.out.some_ (by omega)
      obtain ⟨c0, c1, c2, c3⟩ := (H1.out.below HBr.out).at_ hkL
      have HR1 := Lib.hid ((H1.out.below HBr.out).2.2 _ (List.getElem_mem hkL))
      obtain ⟨⟨⟨xa, xc, xl⟩, xn, xo, xg⟩, hx⟩ : ∃ x, L[k] = x := ⟨_, rfl⟩
      rw [hx] at c0 c1 c2 c3 HR1
      simp only [lsV] at c0 c1 c2 c3 HR1
      obtain ⟨q, hq⟩ : ∃ q, badC (xl, xn, xo, xg) = q := ⟨_, rfl⟩
      have hd : findC ((L.map cgC).drop k) k = if q = true then (k : Int) else findC ((L.map cgC).drop (k + 1)) (k + 1) := by
        rw [List.drop_eq_getElem_cons (by simpa using hkL)]
        simp only [findC, List.getElem_map, hx, cgC]
        rw [hq]
      have HD := Lib.hid hd
      have hw : IntKind.i64.wrap ((k : Int) + 1) = ((k + 1 : Nat) : Int) := by rw [IntKind.wrap_i64]; omega
      have hkI : (k : Int) < (n : Int) := by omega
      obtain ⟨xm, hxm⟩ : ∃ j, xl.length = j := ⟨_, rfl⟩
      rw [hxm] at c0
      have CS := check1_any (c := xc) (k := xn) (ov := xo) (gn := xg) hxm HR1.out
      rw [hq] at CS
      have CS := Lib.hid CS
      clear hkL hx hxm hq hd
      go_wp2_with fail
      refine CS.out.mono ?_
      rintro e w1 ⟨rfl, hb1⟩
      have HB1 := Lib.hid (HBr.out.trans (hb1.mono HBr.out.size))
      clear hb1 c0 c1 c2 c3
      cases q
      · go_wp2_with fail
        go_roundw
        case rel => exact ⟨k + 1, by go_num, by omega, Lib.hid (by have := HT.out; rw [HD.out, if_neg (by simp)] at this; exact this), HB1⟩
        case measure => simp [intOf]; omega
      · obtain rfl : (k : Int) = y := by have := HT.out; rw [HD.out, if_pos rfl] at this; exact this
        go_wp2_with fail
        go_ret
        exact ⟨rfl, HB1.out⟩
    · obtain rfl : -1 = y := by
        have := HT.out
        rw [List.drop_eq_nil_of_le (by rw [List.length_map, H1.out.1]; omega)] at this; exact this
      have hkI : ¬ (k : Int) < (n : Int) := by omega
      go_wp2_with fail
      go_ret
      exact ⟨rfl, HBr.out⟩
theorem contains_any {A : Option Addr} {c n : Nat} {L : List Cg} {w : World} (h1 : RdCg w A n L) (hl : n ≤ 1000000) :
    Calls Try.prog 29 #[.slice A n c, .func (.func 30) #[] #[]] w fun e w' => e = .returned (.bool ((L.map cgC).any badC)) ∧ Below w.heap.size w w' := by
  have CI := Lib.hid (index_any (c := c) h1 hl)
  rw [← findC_any (L.map cgC) 0]
  obtain ⟨x, hx⟩ : ∃ x, findC (L.map cgC) 0 = x := ⟨_, rfl⟩
  rw [hx] at CI ⊢
  clear h1 hx
  go_enter Try.func29, Try.ntmps29
  go_wp2_with fail
  refine CI.out.mono ?_
  rintro e w1 ⟨rfl, hb1⟩
  have HB1 := Lib.hid hb1
  clear hb1
  go_wp2_with fail
  go_ret
  exact ⟨rfl, HB1.out⟩
/-! ### Changes cloned -/
theorem chc_one : ∀ (L : List Cg), ∀ u ∈ rowF chc L, u.oneCell' = true := rowF_one (fun x u hu => by
  simp only [List.mem_cons, List.not_mem_nil, or_false] at hu
  rcases hu with rfl | rfl | rfl | rfl <;> rfl)
abbrev chF (L : List Cg) : List Value := rowF chc L
theorem infoCh : (Try.prog.info? 71).map (fun i => (i.zero, i.size, i.bytes)) = some (some (.agg #[.slice none 0 0, .int .i64 0, .bool false, .bool false]), 4, 48) := by kernel_rfl
theorem wpL_chs {w : World} {ops : Array Oper} {rest : List Oper} {o : Oper} {a : Act} {Q : Exit → Act → World → Prop} (hgd : o.guard = none) (s x : Operand)
    (ho : o.op = .call { callee := .builtin .append, args := #[s, x], argTypes := #[34, 34] }) (base : Nat)
    (v : Value) (l : List Cg) (n : Nat) (hs : a.eval s = v) (hown : w.ownsRow base 71 4 v n (chF l)) (A : Option Addr) (m c : Nat) (news : List Cg) (hx : a.eval x = .slice A m c) (hr : Reads w w.heap.size 4 A m (chF news))
    (hlen : n + m ≤ 1000000000) (hbase : base ≤ w.heap.size)
    (h : ∀ v' w', w'.ownsRow base 71 4 v' (n + m) (chF l ++ chF news) → w.grownBy w' v.ownBlock → (v'.ownBlock = v.ownBlock ∨ v'.ownBlock = some w.heap.size) → wpList Try.prog ops Q rest (a.put o.dst v') w') : wpList Try.prog ops Q (o :: rest) a w := by
  obtain ⟨i, hi, hz, h1, h2⟩ := info_parts infoCh
  exact wpList_append_any w hgd s x 34 ho base 71 i _ 4 48 Try.underlying34 hi hz h1 h2 rfl (by omega) v n (chF l) hs hown w.heap.size A m c (chF news) hx hr (chc_one _) (by unfold maxLen; omega) (by omega) hbase
    fun v' w' h3 h4 h5 => h v' w' h3 h4 h5
set_option maxRecDepth 100000 in
theorem clone_chs {A : Option Addr} {c n : Nat} {L : List Cg} {w : World} (hn : L.length = n) (hp : Reads w w.heap.size 4 A n (chF L)) (hl : n ≤ 1000000) :
    Calls Try.prog 38 #[.slice A n c] w fun e w' => ∃ v, e = .returned v ∧ w'.ownsRow w.heap.size 71 4 v n (chF L) ∧ Below w.heap.size w w' := by
  have HO : Hid ((w.alloc (.cells #[] 71)).ownsRow w.heap.size 71 4 (.slice (some ⟨w.heap.size, 0, none⟩) 0 0) 0 (chF [])) := Lib.hid (World.ownsRow_lit w #[] 0 (Nat.le_refl _) (by decide) rfl)
  have HB := Lib.hid ((Below.refl w.heap.size w).alloc (Nat.le_refl _) (.cells #[] 71))
  have HP := Lib.hid (Reads.more (hp.below HB.out) HB.out.size)
  have hq := fun (W : World) (a : Option Addr) (n c : Nat) => Lib.run_eql_slice_nil (P := Try.prog) W 34 71 a n c 0 0 Try.underlying34
  cases A with
  | none =>
    have h0 : n = 0 := by
      rcases Nat.eq_zero_or_pos n with h | h
      · exact h
      · obtain ⟨ad, e, _⟩ := hp.2 h; cases e
    subst h0
    obtain rfl := List.eq_nil_of_length_eq_zero hn
    clear hp hn
    go_enter Try.func38, Try.ntmps38
    go_wp2
    go_ret
    exact ⟨_, rfl, World.ownsRow_nil _ _ _ _, Below.refl _ _⟩
  | some ad =>
    clear hp hn
    go_enter Try.func38, Try.ntmps38
    go_wp2_with (at_builtin; go_loud (refine wpL_chs rfl _ _ rfl w.heap.size _ [] 0 rfl HO.out _ _ _ L rfl HP.out (by omega) HB.out.size ?o5))
    case o5 =>
      intro v' w' HO' hg _
      have HB' := Lib.hid ((HB.out).grown hg HB.out.size (fun k e => (World.ownsRow.lt HO.out k e).1))
      have HO2 : Hid (w'.ownsRow w.heap.size 71 4 v' n (chF L)) := Lib.hid (by have e : chF [] ++ chF L = chF L := rfl; rw [e] at HO'; exact HO')
      clear hg HO'
      go_wp2_with fail
      go_ret
      exact ⟨_, rfl, HO2.out, HB'.out⟩
end Go.Proofs.Ytjnkcgegmffncaa
