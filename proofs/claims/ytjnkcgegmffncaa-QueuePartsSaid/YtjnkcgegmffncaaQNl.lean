/- QueueNil, walked. -/
import Derived.Test.YtjnkcgegmffncaaQNi
namespace Go.Proofs.Ytjnkcgegmffncaa
open Go.RowKit
abbrev itF (L : List It) : List Value := rowF itc L
theorem infoIt2 : (Try.prog.info? 38).map (fun i => (i.zero, i.size, i.bytes)) = some (some (.agg #[.int .i64 0, .string ⟨#[]⟩, .slice none 0 0, .int .i64 0, .int .i64 0, .int .i64 0, .int .i64 0, .slice none 0 0]), 8, 104) := by kernel_rfl
theorem wpL_its {w : World} {ops : Array Oper} {rest : List Oper} {o : Oper} {a : Act} {Q : Exit → Act → World → Prop} (hgd : o.guard = none) (s x : Operand)
    (ho : o.op = .call { callee := .builtin .append, args := #[s, x], argTypes := #[22, 22] }) (base : Nat)
    (v : Value) (l : List It) (n : Nat) (hs : a.eval s = v) (hown : w.ownsRow base 38 8 v n (itF l)) (A : Option Addr) (m c : Nat) (news : List It) (hx : a.eval x = .slice A m c) (hr : Reads w w.heap.size 8 A m (itF news))
    (hlen : n + m ≤ 1000000000) (hbase : base ≤ w.heap.size)
    (h : ∀ v' w', w'.ownsRow base 38 8 v' (n + m) (itF l ++ itF news) → w.grownBy w' v.ownBlock → (v'.ownBlock = v.ownBlock ∨ v'.ownBlock = some w.heap.size) → wpList Try.prog ops Q rest (a.put o.dst v') w') : wpList Try.prog ops Q (o :: rest) a w := by
  obtain ⟨i, hi, hz, h1, h2⟩ := info_parts infoIt2
  exact wpList_append_any w hgd s x 22 ho base 38 i _ 8 104 Try.underlying22 hi hz h1 h2 rfl (by omega) v n (itF l) hs hown w.heap.size A m c (itF news) hx hr (itc_one _) (by unfold maxLen; omega) (by omega) hbase
    fun v' w' h3 h4 h5 => h v' w' h3 h4 h5
set_option maxHeartbeats 8000000 in
set_option maxRecDepth 100000 in
theorem qnil_any {w : World} {G : Nat → Prop} {n c : Nat} {A : Option Addr} {X : List It} (hX : RdI0 w G A n X) :
    Calls Try.prog 3 #[.slice A n c] w fun e w' => e = .returned (.bool true) ∧ Below w.heap.size w w' := by
  have HX := Lib.hid hX
  clear hX
  go_enter Try.func3, Try.ntmps3
  go_wp2_with fail
  refine (lives_any w).mono ?_
  rintro e w1 ⟨rfl, hb1⟩
  have HB1 := Lib.hid hb1
  clear hb1
  go_wp2_with fail
  have HBk := newB w1 (.cells #[.bool false, .slice A n c] 26)
  have HB2 := Lib.hid (below_alloc HB1.out (.cells #[.bool false, .slice A n c] 26))
  refine (light_one HBk (HX.out.below HB2.out) (P := n ≤ 100) (fun h _ => h)).mono ?_
  rintro e w3 ⟨b, rfl, hb, hb3⟩
  have HB3 := Lib.hid (HB2.out.trans (hb3.mono HB2.out.size))
  have HP := Lib.hid hb
  clear hb hb3 HBk HB2
  cases b
  · go_wp2_with fail
    go_ret
    exact ⟨rfl, HB3.out⟩
  have hn : n ≤ 100 := HP.out (by first | rfl | trivial)
  go_wp2_with fail
  refine (qtake_nil _).mono ?_
  rintro e w4 ⟨rfl, hb4⟩
  have HB4 := Lib.hid (HB3.out.trans (hb4.mono HB3.out.size))
  have HX4 := Lib.hid (newB w4 (Obj.cells #[.int .i64 0, .string ⟨#[]⟩, .slice none 0 0, .int .i64 0, .int .i64 0, .int .i64 0, .int .i64 0, .slice none 0 0] 38))
  have HB5 := Lib.hid (below_alloc HB4.out (Obj.cells #[.int .i64 0, .string ⟨#[]⟩, .slice none 0 0, .int .i64 0, .int .i64 0, .int .i64 0, .int .i64 0, .slice none 0 0] 38))
  clear hb4
  go_wp2_with fail
  obtain ⟨w5, hw5⟩ : ∃ w5, w4.alloc (Obj.cells #[.int .i64 0, .string ⟨#[]⟩, .slice none 0 0, .int .i64 0, .int .i64 0, .int .i64 0, .int .i64 0, .slice none 0 0] 38) = w5 := ⟨_, rfl⟩
  rw [hw5] at HX4 HB5 ⊢
  clear hw5
  refine (qfirst_nil _).mono ?_
  rintro e w6 ⟨rfl, hb6⟩
  have HB6 := Lib.hid (HB5.out.trans (hb6.mono HB5.out.size))
  have HX6 := Lib.hid (keepA (keepB HX4.out hb6) (Obj.cells #[.int .i64 0, .string ⟨#[]⟩, .slice none 0 0, .int .i64 0, .int .i64 0, .int .i64 0, .int .i64 0, .slice none 0 0] 38))
  have HB7 := Lib.hid (below_alloc HB6.out (Obj.cells #[.int .i64 0, .string ⟨#[]⟩, .slice none 0 0, .int .i64 0, .int .i64 0, .int .i64 0, .int .i64 0, .slice none 0 0] 38))
  clear hb6
  have HO : Hid (((w6.alloc (Obj.cells #[.int .i64 0, .string ⟨#[]⟩, .slice none 0 0, .int .i64 0, .int .i64 0, .int .i64 0, .int .i64 0, .slice none 0 0] 38)).alloc (.cells #[] 38)).ownsRow (w6.heap.size + 1) 38 8 (.slice (some ⟨w6.heap.size + 1, 0, none⟩) 0 0) 0 (itF [])) := Lib.hid (by
    have := World.ownsRow_lit (w6.alloc (Obj.cells #[.int .i64 0, .string ⟨#[]⟩, .slice none 0 0, .int .i64 0, .int .i64 0, .int .i64 0, .int .i64 0, .slice none 0 0] 38)) (base := (w6.alloc (Obj.cells #[.int .i64 0, .string ⟨#[]⟩, .slice none 0 0, .int .i64 0, .int .i64 0, .int .i64 0, .int .i64 0, .slice none 0 0] 38)).heap.size) (e := 38) (size := 8) #[] 0 (Nat.le_refl _) (by decide) rfl
    rw [alloc_size] at this
    exact this)
  have HB8 := Lib.hid (below_alloc (Below.refl (w6.alloc (Obj.cells #[.int .i64 0, .string ⟨#[]⟩, .slice none 0 0, .int .i64 0, .int .i64 0, .int .i64 0, .int .i64 0, .slice none 0 0] 38)).heap.size (w6.alloc (Obj.cells #[.int .i64 0, .string ⟨#[]⟩, .slice none 0 0, .int .i64 0, .int .i64 0, .int .i64 0, .int .i64 0, .slice none 0 0] 38))) (.cells #[] 38))
  have HRd := Lib.hid ((HX.out.below (HB7.out.trans (HB8.out.mono HB7.out.size))).row)
  have HS8 : Hid (w6.heap.size + 1 ≤ ((w6.alloc (Obj.cells #[.int .i64 0, .string ⟨#[]⟩, .slice none 0 0, .int .i64 0, .int .i64 0, .int .i64 0, .int .i64 0, .slice none 0 0] 38)).alloc (.cells #[] 38)).heap.size) := Lib.hid (by rw [alloc_size, alloc_size]; omega)
  go_wp2_with (at_builtin; go_loud (refine wpL_its rfl _ _ rfl (w6.heap.size + 1) _ [] 0 rfl HO.out _ _ _ X rfl HRd.out (by omega) HS8.out ?o5))
  case o5 =>
    intro v' w9 HO' hg _
    have HB9 := Lib.hid (HB7.out.trans ((HB8.out.grown hg HB8.out.size (fun k e => by have := (World.ownsRow.lt HO.out k e).1; rw [alloc_size]; exact this)).mono HB7.out.size))
    have HX9 : Hid (w9.heap[w4.heap.size]? = some (Obj.cells #[.int .i64 0, .string ⟨#[]⟩, .slice none 0 0, .int .i64 0, .int .i64 0, .int .i64 0, .int .i64 0, .slice none 0 0] 38)) := Lib.hid (keepB HX6.out (HB8.out.grown hg HB8.out.size (fun k e => by have := (World.ownsRow.lt HO.out k e).1; rw [alloc_size]; exact this)))
    obtain ⟨A9, c9, rfl⟩ := or_form HO'
    clear HO' hg
    go_wp2_with fail
    refine (qput_nil _).mono ?_
    rintro e w10 ⟨rfl, rfl⟩
    have d0 := cellAt (o := 0) HX9.out rfl
    have d1 := cellAt (o := 1) HX9.out rfl
    have d2 := cellAt (o := 2) HX9.out rfl
    have d3 := cellAt (o := 3) HX9.out rfl
    have d4 := cellAt (o := 4) HX9.out rfl
    have d5 := cellAt (o := 5) HX9.out rfl
    have d6 := cellAt (o := 6) HX9.out rfl
    have d7 := cellAt (o := 7) HX9.out rfl
    go_wp2_with fail
    refine (item_nil _).mono ?_
    rintro e w11 ⟨rfl, hb11⟩
    have HBE := Lib.hid (HB9.out.trans (hb11.mono HB9.out.size))
    clear hb11 d0 d1 d2 d3 d4 d5 d6 d7
    go_wp2_with fail
    refine (qlen_nil _).mono ?_
    rintro e w12 ⟨rfl, rfl⟩
    go_wp2_with fail
    refine (qroom_nil _).mono ?_
    rintro e w13 ⟨rfl, rfl⟩
    go_wp2_with fail
    refine (qitems_nil _).mono ?_
    rintro e w14 ⟨rfl, rfl⟩
    go_wp2_with fail
    refine (qbytes_nil _).mono ?_
    rintro e w15 ⟨rfl, rfl⟩
    go_wp2_with fail
    go_ret
    exact ⟨rfl, HBE.out⟩
end Go.Proofs.Ytjnkcgegmffncaa
