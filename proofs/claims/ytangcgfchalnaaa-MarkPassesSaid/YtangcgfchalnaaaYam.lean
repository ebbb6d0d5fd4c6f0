/- Parts of the proof: LbC Lgt RegV MhA MhB. -/
import Derived.Test.YtangcgfchalnaaaYal
import Derived.Test.YtangcgfchalnaaaYak
import Derived.Test.YtangcgfchalnaaaYad
import Derived.Test.YtangcgfchalnaaaYaf
import Derived.BigRegion
import Derived.Laws.OwnMore
/- Labels, changes: rows of them; cloned; compared. -/
namespace Go.Proofs.Ytangcgfchalnaaa
open Go.RowKit
theorem infoLb : (Try.prog.info? 90).map (fun i => (i.zero, i.size, i.bytes)) = some (some (.agg #[.string ⟨#[]⟩, .string ⟨#[]⟩]), 2, 32) := by kernel_rfl
theorem wpL_lbs {w : World} {ops : Array Oper} {rest : List Oper} {o : Oper} {a : Act} {Q : Exit → Act → World → Prop} (hgd : o.guard = none) (s x : Operand)
    (ho : o.op = .call { callee := .builtin .append, args := #[s, x], argTypes := #[30, 30] }) (base : Nat)
    (v : Value) (l : List Lb) (n : Nat) (hs : a.eval s = v) (hown : w.ownsRow base 90 2 v n (lbF l)) (A : Option Addr) (m c : Nat) (news : List Lb) (hx : a.eval x = .slice A m c) (hr : Reads w w.heap.size 2 A m (lbF news))
    (hlen : n + m ≤ 1000000000) (hbase : base ≤ w.heap.size)
    (h : ∀ v' w', w'.ownsRow base 90 2 v' (n + m) (lbF l ++ lbF news) → w.grownBy w' v.ownBlock → (v'.ownBlock = v.ownBlock ∨ v'.ownBlock = some w.heap.size) → wpList Try.prog ops Q rest (a.put o.dst v') w') : wpList Try.prog ops Q (o :: rest) a w := by
  obtain ⟨i, hi, hz, h1, h2⟩ := info_parts infoLb
  exact wpList_append_any w hgd s x 30 ho base 90 i _ 2 32 Try.underlying30 hi hz h1 h2 rfl (by omega) v n (lbF l) hs hown w.heap.size A m c (lbF news) hx hr (lbF_one _) (by unfold maxLen; omega) (by omega) hbase
    fun v' w' h3 h4 h5 => h v' w' h3 h4 h5
set_option maxRecDepth 100000 in
theorem clone_lbs {A : Option Addr} {c n : Nat} {L : List Lb} {w : World} (hn : L.length = n) (hp : Reads w w.heap.size 2 A n (lbF L)) (hl : n ≤ 1000000) :
    Calls Try.prog 54 #[.slice A n c] w fun e w' => ∃ v, e = .returned v ∧ w'.ownsRow w.heap.size 90 2 v n (lbF L) ∧ Below w.heap.size w w' := by
  have HO : Hid ((w.alloc (.cells #[] 90)).ownsRow w.heap.size 90 2 (.slice (some ⟨w.heap.size, 0, none⟩) 0 0) 0 (lbF [])) := Lib.hid (World.ownsRow_lit w #[] 0 (Nat.le_refl _) (by decide) rfl)
  have HB := Lib.hid ((Below.refl w.heap.size w).alloc (Nat.le_refl _) (.cells #[] 90))
  have HP := Lib.hid (Reads.more (hp.below HB.out) HB.out.size)
  have hq := fun (W : World) (a : Option Addr) (n c : Nat) => Lib.run_eql_slice_nil (P := Try.prog) W 30 90 a n c 0 0 Try.underlying30
  cases A with
  | none =>
    have h0 : n = 0 := by
      rcases Nat.eq_zero_or_pos n with h | h
      · exact h
      · obtain ⟨ad, e, _⟩ := hp.2 h; cases e
    subst h0
    obtain rfl := List.eq_nil_of_length_eq_zero hn
    clear hp hn
    go_enter Try.func54, Try.ntmps54
    go_wp2
    go_ret
    exact ⟨_, rfl, World.ownsRow_nil _ _ _ _, Below.refl _ _⟩
  | some ad =>
    clear hp hn
    go_enter Try.func54, Try.ntmps54
    go_wp2_with (at_builtin; go_loud (refine wpL_lbs rfl _ _ rfl w.heap.size _ [] 0 rfl HO.out _ _ _ L rfl HP.out (by omega) HB.out.size ?o5))
    case o5 =>
      intro v' w' HO' hg _
      have HB' := Lib.hid ((HB.out).grown hg HB.out.size (fun k e => (World.ownsRow.lt HO.out k e).1))
      have HO2 : Hid (w'.ownsRow w.heap.size 90 2 v' n (lbF L)) := Lib.hid (by have e : lbF [] ++ lbF L = lbF L := rfl; rw [e] at HO'; exact HO')
      clear hg HO'
      go_wp2_with fail
      go_ret
      exact ⟨_, rfl, HO2.out, HB'.out⟩
/-! ### A row of labels as it lies; changes -/
/-- A row of labels: address, capacity, labels. -/
abbrev Ls := Option Addr × Nat × List Lb
abbrev lsV (p : Ls) : Value := .slice p.1 p.2.2.length p.2.1
abbrev RdLs (w : World) (p : Ls) : Prop := RdLb w p.1 p.2.2
theorem toList_ne {a b : ByteArray} (h : a ≠ b) : (a.toList == b.toList) = false := by
  refine beq_eq_false_iff_ne.2 (fun e => h ?_)
  rw [ByteArray.toList_eq, ByteArray.toList_eq] at e
  exact ByteArray.ext (Array.ext' e)
/-- Whether labels are the same. -/
def eqL (L M : List Lb) : Bool := decide (L = M)
end Go.Proofs.Ytangcgfchalnaaa

/- Labels, samples, changes: rows in memory; whether they are few, and small. -/
namespace Go.Proofs.Ytangcgfchalnaaa
open Go.RowKit
/-- Few labels, and short. -/
def smallL (L : List Lb) : Prop := L.length ≤ 30 ∧ ∀ x ∈ L, x.1.size ≤ 300 ∧ x.2.size ≤ 300
/-- A truth is told, of which something follows. -/
def Tells (p : Prop) (w : World) (e : Ending) (w' : World) : Prop := ∃ b, e = .returned (.bool b) ∧ (b = true → p) ∧ Below w.heap.size w w'
set_option maxHeartbeats 2000000 in
set_option maxRecDepth 100000 in
theorem lightL_any {A : Option Addr} {c n : Nat} {L : List Lb} {w : World} (hn : L.length = n) (h : RdLb w A L) :
    Calls Try.prog 24 #[.slice A n c] w (Tells (smallL L) w) := by
  have HN := Lib.hid hn
  have H := Lib.hid h
  clear hn h
  go_enter Try.func24, Try.ntmps24
  go_wp2_with fail
  go_loopw [3] (fun v wr => ∃ k : Nat, v = .int .i64 (k : Int) ∧ k ≤ n ∧ k ≤ 31 ∧ Hid (∀ x ∈ L.take k, x.1.size ≤ 300 ∧ x.2.size ≤ 300) ∧ Hid (w = wr)) (fun v _ => n - (intOf v).toNat)
  case atStart => exact ⟨0, rfl, Nat.zero_le _, by omega, Lib.hid (by simp), Lib.hid rfl⟩
  case round =>
    obtain ⟨k, rfl, hk, hk3, HT, HW⟩ := hrel
    obtain rfl := HW.out
    by_cases h0 : k < n
    · have hkI : (k : Int) < (n : Int) := by omega
      by_cases h3 : k ≤ 30
      · have h3I : (k : Int) ≤ 30 := by omega
        have hkL : k < L.length := by rw [HN.out]; exact h0
        obtain ⟨ad, rfl, hlt, c0, c1⟩ := H.out.at_ hkL
        obtain ⟨⟨x, y⟩, hx⟩ : ∃ x, L[k] = x := ⟨_, rfl⟩
        rw [hx] at c0 c1
        simp only at c0 c1
        have HL : Hid (L.take (k + 1) = L.take k ++ [(x, y)]) := Lib.hid (by rw [← hx]; exact (List.take_append_getElem hkL).symm)
        clear hkL hx
        by_cases h4 : x.size ≤ 300
        · have h4I : ¬ (300 : Int) < (x.size : Int) := by omega
          by_cases h5 : y.size ≤ 300
          · have h5I : ¬ (300 : Int) < (y.size : Int) := by omega
            have hw : IntKind.i64.wrap ((k : Int) + 1) = ((k + 1 : Nat) : Int) := by rw [IntKind.wrap_i64]; omega
            have H45 := Lib.hid (And.intro h4 h5)
            go_wp2_with fail
            go_roundw
            case rel => exact ⟨k + 1, by go_num, by omega, by omega, Lib.hid (fun q hq => by
              rw [HL.out] at hq
              rcases List.mem_append.1 hq with hq | hq
              · exact HT.out q hq
              · obtain rfl := List.mem_singleton.1 hq; exact H45.out), Lib.hid (by first | rfl | trivial)⟩
            case measure => simp [intOf]; omega
          · have h5I : (300 : Int) < (y.size : Int) := by omega
            go_wp2_with fail
            go_ret
            exact ⟨false, rfl, fun h => (by cases h), Below.refl _ _⟩
        · have h4I : (300 : Int) < (x.size : Int) := by omega
          go_wp2_with fail
          go_ret
          exact ⟨false, rfl, fun h => (by cases h), Below.refl _ _⟩
      · have h3I : ¬ (k : Int) ≤ 30 := by omega
        have h4I : decide ((n : Int) ≤ 30) = false := by simp; omega
        go_wp2_with fail
        go_ret
        exact ⟨false, rfl, fun h => (by cases h), Below.refl _ _⟩
    · have hkI : ¬ (k : Int) < (n : Int) := by omega
      obtain rfl : k = n := by omega
      have HT2 : Hid (∀ x ∈ L, x.1.size ≤ 300 ∧ x.2.size ≤ 300) := Lib.hid (by have := HT.out; rwa [List.take_of_length_le (by rw [HN.out]; exact Nat.le_refl _)] at this)
      by_cases h3 : k ≤ 30
      · have h3I : (k : Int) ≤ 30 := by omega
        have h4I : decide ((k : Int) ≤ 30) = true := by simp; omega
        have HK := Lib.hid h3
        go_wp2_with fail
        go_ret
        exact ⟨true, rfl, fun _ => ⟨by rw [HN.out]; exact HK.out, HT2.out⟩, Below.refl _ _⟩
      · have h4I : decide ((k : Int) ≤ 30) = false := by simp; omega
        go_wp2_with fail
        go_ret
        exact ⟨false, rfl, fun h => (by cases h), Below.refl _ _⟩
/-! ### Rows of structs -/
def rowF {α : Type} (f : α → List Value) : List α → List Value
  | [] => []
  | x :: r => f x ++ rowF f r
section
variable {α : Type} {f : α → List Value} {s : Nat}
theorem rowF_len (hs : ∀ x, (f x).length = s) : ∀ L : List α, (rowF f L).length = L.length * s
  | [] => by simp [rowF]
  | x :: r => by simp only [rowF, List.length_append, hs, rowF_len hs r, List.length_cons, Nat.add_mul, Nat.one_mul]; omega
theorem rowF_get (hs : ∀ x, (f x).length = s) : ∀ (L : List α) (k : Nat) (h : k < L.length) (i : Nat), i < s → (rowF f L)[k * s + i]? = (f L[k])[i]?
  | x :: r, 0, _, i, hi => by
    simp only [rowF, Nat.zero_mul, Nat.zero_add, List.getElem_cons_zero]
    rw [List.getElem?_append_left (by rw [hs]; exact hi)]
  | x :: r, k + 1, h, i, hi => by
    have := rowF_get hs r k (by simpa using h) i hi
    simp only [rowF, List.getElem_cons_succ]
    rw [List.getElem?_append_right (by rw [hs, Nat.add_mul]; omega), hs, ← this]
    congr 1
    rw [Nat.add_mul]; omega
theorem rowF_append (L M : List α) : rowF f (L ++ M) = rowF f L ++ rowF f M := by
  induction L with
  | nil => rfl
  | cons x r ih => simp only [List.cons_append, rowF, ih, List.append_assoc]
theorem rowF_one (h : ∀ x, ∀ u ∈ f x, u.oneCell' = true) : ∀ L : List α, ∀ u ∈ rowF f L, u.oneCell' = true
  | [], _, hu => by cases hu
  | x :: r, u, hu => by
    rcases List.mem_append.1 hu with hu | hu
    · exact h x u hu
    · exact rowF_one h r u hu
theorem rowF_cut (hs : ∀ x, (f x).length = s) : ∀ (L : List α) (k : Nat), rowF f (L.take k) = (rowF f L).take (k * s)
  | [], k => by simp [rowF]
  | x :: r, 0 => by simp [rowF]
  | x :: r, k + 1 => by
    have e : (k + 1) * s = (f x).length + k * s := by rw [hs, Nat.add_mul]; omega
    simp only [List.take_succ_cons, rowF, rowF_cut hs r k]
    rw [e, List.take_length_add_append]
end
/-- A row's first cell, and another one, in the walk's spelling. -/
theorem row_at {α : Type} {f : α → List Value} {s : Nat} (hs : ∀ x, (f x).length = s) {w : World} {B : Nat} {ad : Addr} {n : Nat} {L : List α} (h : Reads w B s (some ad) n (rowF f L)) {k : Nat} (hk : k < L.length) (hn : L.length = n) (hs0 : 0 < s) {u : Value} (hu : (f L[k])[0]? = some u) :
    w.cell? (ad.add (k * s)) = some u := h.cell0 rfl (by omega) (by rw [← hu, ← rowF_get hs L k hk 0 hs0]; rfl)
theorem row_atI {α : Type} {f : α → List Value} {s : Nat} (hs : ∀ x, (f x).length = s) {w : World} {B : Nat} {ad : Addr} {n : Nat} {L : List α} (h : Reads w B s (some ad) n (rowF f L)) {k : Nat} (hk : k < L.length) (hn : L.length = n) (i : Nat) (hi : i < s) (h0 : 0 < i) {u : Value} (hu : (f L[k])[i]? = some u) :
    w.cell? { block := (ad.add (k * s)).block, off := (ad.add (k * s)).off + i } = some u := h.cellI rfl (by omega) (by rw [← hu, ← rowF_get hs L k hk i hi]) h0
/-- A sample, as it lies: its metric, its labels; time; number. -/
abbrev Sm := ByteArray × Ls × Int × Int
abbrev smc (x : Sm) : List Value := [.string x.1, lsV x.2.1, .int .i64 x.2.2.1, .int .i64 x.2.2.2]
def RdSm (w : World) (A : Option Addr) (n : Nat) (L : List Sm) : Prop := L.length = n ∧ Reads w w.heap.size 4 A n (rowF smc L) ∧ ∀ x ∈ L, RdLs w x.2.1
theorem RdSm.below {w w' : World} {A : Option Addr} {n : Nat} {L : List Sm} (h : RdSm w A n L) (hb : Below w.heap.size w w') : RdSm w' A n L :=
  ⟨h.1, Reads.more (Reads.below h.2.1 hb) hb.size, fun x hx => (h.2.2 x hx).below hb⟩
theorem RdSm.at_ {w : World} {ad : Addr} {n : Nat} {L : List Sm} (h : RdSm w (some ad) n L) {k : Nat} (hk : k < L.length) : w.cell? (ad.add (k * 4)) = some (.string L[k].1) ∧
    w.cell? { block := (ad.add (k * 4)).block, off := (ad.add (k * 4)).off + 1 } = some (lsV L[k].2.1) ∧ w.cell? { block := (ad.add (k * 4)).block, off := (ad.add (k * 4)).off + 2 } = some (.int .i64 L[k].2.2.1) ∧ w.cell? { block := (ad.add (k * 4)).block, off := (ad.add (k * 4)).off + 3 } = some (.int .i64 L[k].2.2.2) :=
  ⟨row_at (f := smc) (s := 4) (fun _ => rfl) h.2.1 hk h.1 (by decide) rfl, row_atI (f := smc) (s := 4) (fun _ => rfl) h.2.1 hk h.1 1 (by decide) (by decide) rfl, row_atI (f := smc) (s := 4) (fun _ => rfl) h.2.1 hk h.1 2 (by decide) (by decide) rfl, row_atI (f := smc) (s := 4) (fun _ => rfl) h.2.1 hk h.1 3 (by decide) (by decide) rfl⟩
theorem RdSm.some_ {w : World} {A : Option Addr} {n : Nat} {L : List Sm} (h : RdSm w A n L) (h0 : 0 < n) : ∃ ad, A = some ad ∧ ad.block < w.heap.size := by
  obtain ⟨ad, e, hb, _⟩ := h.2.1.2 h0; exact ⟨ad, e, hb⟩
/-- A small sample. -/
def smallS (m : ByteArray) (L : List Lb) : Prop := m.size ≤ 300 ∧ smallL L
set_option maxHeartbeats 4000000 in
set_option maxRecDepth 100000 in
theorem lightS_any {A : Option Addr} {c n : Nat} {L : List Sm} {w : World} (most : Nat) (h : RdSm w A n L) (hm : most ≤ 1000000000000) {P : Prop} (hP : L.length ≤ most → (∀ x ∈ L, smallS x.1 x.2.1.2.2) → P) :
    Calls Try.prog 7 #[.slice A n c, .int .i64 (most : Int)] w (Tells P w) := by
  have H := Lib.hid h
  have HP := Lib.hid hP
  clear h hP
  go_enter Try.func7, Try.ntmps7
  go_wp2_with fail
  go_loopw [5] (fun v wr => ∃ k : Nat, v = .int .i64 (k : Int) ∧ k ≤ n ∧ k ≤ most + 1 ∧ Hid (∀ x ∈ L.take k, smallS x.1 x.2.1.2.2) ∧ Hid (Below w.heap.size w wr)) (fun v _ => n - (intOf v).toNat)
  case atStart => exact ⟨0, rfl, Nat.zero_le _, by omega, Lib.hid (by simp), Lib.hid (Below.refl _ _)⟩
  case round =>
    obtain ⟨k, rfl, hk, hk3, HT, HB⟩ := hrel
    by_cases h0 : k < n
    · have hkI : (k : Int) < (n : Int) := by omega
      by_cases h3 : k ≤ most
      · have h3I : (k : Int) ≤ (most : Int) := by omega
        obtain ⟨ad, rfl, hlt⟩ := H.out.some_ (by omega)
        have hkL : k < L.length := by rw [H.out.1]; exact h0
        have hin := List.getElem_mem hkL
        have HRl := Lib.hid (((H.out.below HB.out).2.2 _ hin))
        obtain ⟨c0, c1, c2, c3⟩ := (H.out.below HB.out).at_ (k := k) hkL
        try clear c2 c3
        obtain ⟨x, hx⟩ : ∃ x, L[k] = x := ⟨_, rfl⟩
        have HS : Hid (L.take (k + 1) = L.take k ++ [x]) := Lib.hid (by rw [← hx]; exact (List.take_append_getElem hkL).symm)
        simp only [hx] at HRl c0 c1
        clear hkL hx hin
        by_cases h6 : (300 : Int) < (x.1.size : Int)
        · go_wp2_with fail
          go_ret
          exact ⟨false, rfl, fun h => (by cases h), HB.out⟩
        have H6 : Hid (x.1.size ≤ 300) := Lib.hid (by omega)
        go_wp2_with fail
        refine (lightL_any rfl HRl.out).mono ?_
        rintro e w1 ⟨b, rfl, hb, hb1⟩
        have HS1 := Lib.hid hb
        have HB1 := Lib.hid (HB.out.trans (hb1.mono HB.out.size))
        clear hb hb1
        cases b
        · go_wp2_with fail
          go_ret
          exact ⟨false, rfl, fun h => (by cases h), HB1.out⟩
        · have hw : IntKind.i64.wrap ((k : Int) + 1) = ((k + 1 : Nat) : Int) := by rw [IntKind.wrap_i64]; omega
          go_wp2_with fail
          go_roundw
          case rel => exact ⟨k + 1, by go_num, by omega, by omega, Lib.hid (fun q hq => by
            rw [HS.out] at hq
            rcases List.mem_append.1 hq with hq | hq
            · exact HT.out q hq
            · obtain rfl := List.mem_singleton.1 hq; exact ⟨H6.out, HS1.out (by first | rfl | trivial)⟩), HB1⟩
          case measure => simp [intOf]; omega
      · have h3I : ¬ (k : Int) ≤ (most : Int) := by omega
        have h4I : decide ((n : Int) ≤ (most : Int)) = false := by simp; omega
        have h5I : decide (n ≤ most) = false := by simp; omega
        go_wp2_with fail
        go_ret
        exact ⟨false, rfl, fun h => (by cases h), HB.out⟩
    · have hkI : ¬ (k : Int) < (n : Int) := by omega
      obtain rfl : k = n := by omega
      have HT2 : Hid (∀ x ∈ L, smallS x.1 x.2.1.2.2) := Lib.hid (by have := HT.out; rwa [List.take_of_length_le (by rw [H.out.1]; exact Nat.le_refl _)] at this)
      by_cases h3 : k ≤ most
      · have h3I : (k : Int) ≤ (most : Int) := by omega
        have h4I : decide ((k : Int) ≤ (most : Int)) = true := by simp; omega
        have h5I : decide (k ≤ most) = true := by simp; omega
        have HK := Lib.hid h3
        go_wp2_with fail
        go_ret
        exact ⟨true, rfl, fun _ => HP.out (by rw [H.out.1]; exact HK.out) HT2.out, HB.out⟩
      · have h4I : decide ((k : Int) ≤ (most : Int)) = false := by simp; omega
        have h5I : decide (k ≤ most) = false := by simp; omega
        go_wp2_with fail
        go_ret
        exact ⟨false, rfl, fun h => (by cases h), HB.out⟩
end Go.Proofs.Ytangcgfchalnaaa

/- A region whose order is open: a step of which the value is known. No program. -/
namespace Go.Proofs.Ytangcgfchalnaaa
open Go.RowKit
section
variable {P : Program} {Φ : Phi} {ops : Array Oper}
theorem wpT_void {E : (World → Prop) → (World → Prop) → Act → Prop} (hE : ∀ C D a, (∀ w, ¬ C w) → E C D a) : ∀ (r : List (Nat × Bool)) (C D : World → Prop) (a : Act), (∀ w, ¬ C w) → (r.all fun p => !p.2 && decide (p.1 < ops.size)) = true → wpT Φ P ops E r C D a
  | [], C, D, a, hC, _ => hE C D a hC
  | (i, k) :: r, C, D, a, hC, h => by
    simp only [List.all_cons, Bool.and_eq_true, Bool.not_eq_true', decide_eq_true_eq] at h
    obtain ⟨⟨hk, hi⟩, hr⟩ := h
    have hk : k = false := hk
    subst hk
    unfold wpT
    rw [Array.getElem?_eq_getElem hi]
    simp only
    refine ⟨undef, ?_, wpT_void hE r C D _ hC hr⟩
    unfold YQ
    cases hw : Region.wanted ops[i] (yielded ops a.tmps) with
    | true => exact .inl ⟨rfl, fun w hw => (hC w hw).elim⟩
    | false => exact .inr ⟨rfl, rfl⟩
variable {ts : List Value} {df : List Deferred} {r : List (Nat × Bool)} {C D : World → Prop} {i : Nat} {o : Oper} {l : List Oper} {Q : List Oper} {E : (World → Prop) → (World → Prop) → Act → Prop}
def stepV (C : World → Prop) (D : World → Prop) (v0 v : Value) (w : World) : Prop := v = v0 ∧ C w ∧ D w
theorem stepRes_mono {R R' : Value → World → Prop} {x : Result Next} (h : stepRes P R x) (hm : ∀ v w, R v w → R' v w) : stepRes P R' x := by
  cases x with
  | ok nx w' =>
    cases nx <;> simp only [stepRes] at h ⊢
    case value u => exact hm _ _ h
    case enter f args => exact h.mono fun e w'' ⟨v, he, hr⟩ => ⟨v, he, hm _ _ hr⟩
  | halt x w' => simp only [stepRes] at h
/-- A step whose value is known. -/
theorem wt_stepV (hφ : Φ i = none) (v0 : Value) (D' : World → Prop) (hD : Stab D') (ho : nthO l i = some o) (hw : wantB l ts o.guard = true) (hr : (r.all fun p => !p.2 && decide (p.1 < l.toArray.size)) = true) (hE : ∀ C D a, (∀ w, ¬ C w) → E C D a)
    (hl : ∀ w, C w → D w → stepRes P (stepV C D' v0) ((execOp (Act.eval { tmps := ts.toArray, defers := df }) o).run P w))
    (h : ∀ K : (World → Prop) → (World → Prop) → Act → Prop, Shut (∀ C D a, WpT Φ P l E r C D a → K C D a) → K C D' (Act.put { tmps := ts.toArray, defers := df } o.dst v0)) :
    WpT Φ P l E ((i, true) :: r) C D { tmps := ts.toArray, defers := df } := by
  refine wt_step hφ (fun v _ => v = v0) (fun _ => D') (fun _ _ _ h _ => h) (fun _ => hD) ho hw (fun w hc hd => stepRes_mono (hl w hc hd) (fun v w ⟨h1, h2, h3⟩ => ⟨h2, h1, h3⟩)) (fun K hK v => ?_)
  by_cases hv : v = v0
  · subst hv
    have e : (fun w => C w ∧ v = v) = C := funext fun w => propext ⟨fun h => h.1, fun h => ⟨h, rfl⟩⟩
    rw [e]
    exact h K hK
  · exact hK _ _ _ ⟨wpT_void hE r _ _ _ (fun w hw => hv hw.2) hr⟩
end
end Go.Proofs.Ytangcgfchalnaaa

/- mark: places in memory; Less. -/
namespace Go.Proofs.Ytangcgfchalnaaa
open Go.RowKit
/-- A place: its number, its points. -/
abbrev Plc := Nat × Value × List Pt
abbrev plc (x : Plc) : List Value := [.int .i64 (x.1 : Int), x.2.1]
def plT (x : Plc) : Int := (x.2.2.headD (0, 0)).1
def plD : Plc := (0, .slice none 0 0, [])
/-- The lesser place. -/
def ltP (x y : Plc) : Bool := decide (plT x < plT y) || (decide (plT x = plT y) && decide (x.1 < y.1))
theorem ltP_tot : Tot ltP := by
  refine ⟨fun a b h => ?_, fun a b c h1 h2 => ?_⟩
  · unfold ltP at *
    simp only [Bool.or_eq_true, Bool.and_eq_true, decide_eq_true_eq] at h
    rw [Bool.eq_false_iff]
    intro h'
    simp only [Bool.or_eq_true, Bool.and_eq_true, decide_eq_true_eq] at h'
    omega
  · unfold ltP at *
    rw [Bool.eq_false_iff] at *
    simp only [ne_eq, Bool.or_eq_true, Bool.and_eq_true, decide_eq_true_eq] at *
    omega
structure HpM (w : World) (B g : Nat) (v : Value) (A : List Plc) : Prop where
  gB : B ≤ g
  box : w.heap[g]? = some (.cells #[v] 112 (0, 0))
  row : w.ownsRow B 115 2 v A.length (rowF plc A)
  rest : ∀ x ∈ A, 0 < x.2.2.length ∧ RowAt w (fun k => B ≤ k) 86 3 x.2.1 x.2.2.length (pcs x.2.2)
section
variable {w w' : World} {B g : Nat} {v : Value} {A : List Plc}
theorem HpM.below (h : HpM w B g v A) (hb : Below w.heap.size w w') : HpM w' B g v A :=
  ⟨h.gB, keepB h.box hb, or_below h.row hb, fun x hx => ⟨(h.rest x hx).1, (h.rest x hx).2.below hb⟩⟩
/-- A place in memory: its cells, and those of its first point. -/
theorem HpM.at_ (h : HpM w B g v A) {k : Nat} (hk : k < A.length) : ∃ g0 c0 gx ox nx cx, v = .slice (some ⟨g0, 0, none⟩) A.length c0 ∧ (A.getD k plD).2.1 = .slice (some ⟨gx, ox, none⟩) nx cx ∧ 0 < nx ∧ nx = (A.getD k plD).2.2.length ∧
    w.cell? ⟨g0, k * 2, none⟩ = some (.int .i64 ((A.getD k plD).1 : Int)) ∧ w.cell? ⟨g0, k * 2 + 1, none⟩ = some (.slice (some ⟨gx, ox, none⟩) nx cx) ∧
    w.cell? ⟨gx, ox, none⟩ = some (.int .i64 (plT (A.getD k plD))) ∧ w.cell? ⟨gx, ox + 1, none⟩ = some (.int .i64 ((A.getD k plD).2.2.headD (0, 0)).2) := by
  obtain ⟨a, c0, rfl⟩ := or_form h.row
  obtain ⟨g0, rfl⟩ := or_addr h.row (by omega)
  have e : A.getD k plD = A[k] := by rw [List.getD_eq_getElem?_getD, List.getElem?_eq_getElem hk]; rfl
  rw [e]
  obtain ⟨hpos, hr⟩ := h.rest A[k] (List.getElem_mem hk)
  have r0 := or_cell h.row (j := k * 2 + 0) (by rw [rowF_get (f := plc) (s := 2) (fun _ => rfl) A k hk 0 (by omega)]; rfl)
  have r1 := or_cell h.row (j := k * 2 + 1) (by rw [rowF_get (f := plc) (s := 2) (fun _ => rfl) A k hk 1 (by omega)]; rfl)
  rcases hr.2 with ⟨_, h0⟩ | ⟨gx, ox, cx, cur, h1, _, h3, h4, _, _, h7⟩
  · omega
  · refine ⟨g0, c0, gx, ox, _, cx, rfl, h1, hpos, rfl, r0, by rw [← h1]; exact r1, ?_, ?_⟩
    · obtain ⟨q, L, hq⟩ : ∃ q L, A[k].2.2 = q :: L := by cases hh : A[k].2.2 with | nil => rw [hh] at hpos; cases hpos | cons q L => exact ⟨q, L, rfl⟩
      have := row_cells h3 h7 h4 0 (.int .i64 q.1) (by rw [hq]; rfl)
      have hadd : (⟨gx, ox, none⟩ : Addr).add 0 = ⟨gx, ox, none⟩ := by unfold Addr.add; split <;> simp_all
      rw [hadd] at this
      unfold plT
      rw [hq]; exact this
    · obtain ⟨q, L, hq⟩ : ∃ q L, A[k].2.2 = q :: L := by cases hh : A[k].2.2 with | nil => rw [hh] at hpos; cases hpos | cons q L => exact ⟨q, L, rfl⟩
      have := row_cells h3 h7 h4 1 (.int .i64 q.2) (by rw [hq]; rfl)
      have hadd : (⟨gx, ox, none⟩ : Addr).add 1 = ⟨gx, ox + 1, none⟩ := by unfold Addr.add; split <;> simp_all
      rw [hadd] at this
      rw [hq]; exact this
end
/-! ### cmp -/
theorem isNaNI_any (a : Int) (w : World) : Calls Try.prog 117 #[.int .i64 a] w fun e w' => e = .returned (.bool false) ∧ w = w' := by
  go_enter Try.func117, Try.ntmps117
  go_wp2_with fail
  go_ret
  exact ⟨rfl, rfl⟩
set_option maxRecDepth 100000 in
theorem compareI_any (a b : Int) (w : World) : Calls Try.prog 116 #[.int .i64 a, .int .i64 b] w fun e w' => e = .returned (.int .i64 (cmpI a b)) ∧ w = w' := by
  have N1 := Lib.hid (isNaNI_any a w)
  have N2 := Lib.hid (isNaNI_any b w)
  by_cases h1 : a < b
  · rw [show cmpI a b = -1 from if_pos h1]
    go_enter Try.func116, Try.ntmps116
    go_wp2_with (first | (refine N1.out.mono ?_; rintro e w1 ⟨rfl, rfl⟩) | (refine N2.out.mono ?_; rintro e w1 ⟨rfl, rfl⟩))
    go_ret
    exact ⟨rfl, rfl⟩
  · by_cases h2 : b < a
    · rw [show cmpI a b = 1 from (if_neg h1).trans (if_pos h2)]
      go_enter Try.func116, Try.ntmps116
      go_wp2_with (first | (refine N1.out.mono ?_; rintro e w1 ⟨rfl, rfl⟩) | (refine N2.out.mono ?_; rintro e w1 ⟨rfl, rfl⟩))
      go_ret
      exact ⟨rfl, rfl⟩
    · rw [show cmpI a b = 0 from (if_neg h1).trans (if_neg h2)]
      go_enter Try.func116, Try.ntmps116
      go_wp2_with (first | (refine N1.out.mono ?_; rintro e w1 ⟨rfl, rfl⟩) | (refine N2.out.mono ?_; rintro e w1 ⟨rfl, rfl⟩))
      go_ret
      exact ⟨rfl, rfl⟩
def OrR (a b : Int) (k : Nat) : Prop := (1 ≤ k → a = 0) ∧ (2 ≤ k → b = 0)
/-- The first that is not 0, of two. -/
def orI (a b : Int) : Int := if a = 0 then b else a
set_option maxRecDepth 100000 in
theorem or2_any {w : World} {H : Nat} {a b : Int} (h : w.heap[H]? = some (.cells #[.int .i64 a, .int .i64 b] 3 (0, 0))) : Calls Try.prog 115 #[.slice (some ⟨H, 0, none⟩) 2 2] w fun e w' => e = .returned (.int .i64 (orI a b)) ∧ w = w' := by
  have HH := Lib.hid h
  obtain ⟨r, hr⟩ : ∃ r, orI a b = r := ⟨_, rfl⟩
  rw [hr]
  have HR : Hid ((a = 0 → b = r) ∧ (¬ a = 0 → a = r)) := Lib.hid (by
    rw [← hr]; unfold orI
    exact ⟨fun e => (by rw [if_pos e]), fun e => (by rw [if_neg e])⟩)
  clear h hr
  go_enter Try.func115, Try.ntmps115
  go_wp2_with fail
  go_loopw [8] (fun v wr => ∃ k : Nat, v = .int .i64 (k : Int) ∧ k ≤ 2 ∧ Hid (OrR a b k) ∧ w = wr) (fun v _ => 2 - (intOf v).toNat)
  case atStart => exact ⟨0, rfl, by omega, Lib.hid ⟨fun h => by omega, fun h => by omega⟩, rfl⟩
  case round =>
    obtain ⟨k, rfl, hk, HZ, rfl⟩ := hrel
    obtain rfl | rfl | rfl : k = 0 ∨ k = 1 ∨ k = 2 := by omega
    · have q := cellAt (o := 0) HH.out rfl
      by_cases hz : a = 0
      · subst hz
        clear HR
        go_wp2_with fail
        refine ⟨⟨1, by go_num, by omega, Lib.hid ⟨fun _ => rfl, fun h => by omega⟩, trivial⟩, ?_⟩
        simp [intOf]
      · have hzd : decide (a = 0) = false := decide_eq_false hz
        have e := HR.out.2 hz
        subst e
        clear HR
        go_wp2_with fail
        go_ret
        exact ⟨rfl, rfl⟩
    · have q := cellAt (o := 1) HH.out rfl
      have e := HR.out.1 (HZ.out.1 (by omega))
      subst e
      by_cases hz : b = 0
      · subst hz
        clear HR
        go_wp2_with fail
        refine ⟨⟨2, by go_num, by omega, Lib.hid ⟨fun _ => HZ.out.1 (by omega), fun _ => rfl⟩, trivial⟩, ?_⟩
        simp [intOf]
      · have hzd : decide (b = 0) = false := decide_eq_false hz
        clear HR
        go_wp2_with fail
        go_ret
        exact ⟨rfl, rfl⟩
    · have e := HR.out.1 (HZ.out.1 (by omega))
      have e2 := HZ.out.2 (by omega)
      rw [e2] at e
      subst e
      clear HR
      go_wp2_with fail
      go_ret
      exact ⟨rfl, rfl⟩
end Go.Proofs.Ytangcgfchalnaaa

/- mark: places: Less, Len, Swap. -/
namespace Go.Proofs.Ytangcgfchalnaaa
open Go.RowKit
/-- Two numbers as a row. -/
def TwoI (a b : Int) (v : Value) (W : World) : Prop := ∃ H, v = .slice (some ⟨H, 0, none⟩) 2 2 ∧ W.heap[H]? = some (.cells #[.int .i64 a, .int .i64 b] 3 (0, 0))
theorem TwoI.stab (a b : Int) (v : Value) : Stab (TwoI a b v) := fun _ _ ⟨H, h1, h2⟩ hb => ⟨H, h1, keepB h2 hb⟩
theorem ltP_or (x y : Plc) : decide (orI (cmpI (plT x) (plT y)) (cmpI (x.1 : Int) (y.1 : Int)) < 0) = ltP x y := by
  unfold orI cmpI ltP
  by_cases h1 : plT x < plT y
  · rw [if_pos h1]; simp [h1]
  · rw [if_neg h1]
    by_cases h2 : plT y < plT x
    · rw [if_pos h2]
      have : ¬ plT x = plT y := by omega
      simp [h1, this]
    · rw [if_neg h2]
      have e : plT x = plT y := by omega
      by_cases h3 : x.1 < y.1
      · have : (x.1 : Int) < (y.1 : Int) := by omega
        simp [e, h3]
      · by_cases h4 : y.1 < x.1
        · simp [e, h3, h4]
        · simp [e, h3, h4]
section
variable {w w' : World} {B g i j n : Nat} {v : Value} {A : List Plc}
set_option maxHeartbeats 4000000 in
set_option maxRecDepth 100000 in
theorem less_any (h : HpM w B g v A) (hi : i < A.length) (hj : j < A.length) : Calls Try.prog 113 #[v, .int .i64 (i : Int), .int .i64 (j : Int)] w fun e w' => e = .returned (.bool (ltP (A.getD i plD) (A.getD j plD))) ∧ Below w.heap.size w w' := by
  have HQ := Lib.hid (fun W (hb : Below w.heap.size w W) => (h.below hb).at_ hi)
  have HR := Lib.hid (fun W (hb : Below w.heap.size w W) => (h.below hb).at_ hj)
  obtain ⟨g0, c0, gx, ox, nx, cx, rfl, hx1, hx0, hxl, _⟩ := h.at_ hi
  obtain ⟨_, _, gy, oy, ny, cy, _, hy1, hy0, hyl, _⟩ := h.at_ hj
  rw [← ltP_or]
  obtain ⟨tx, htx⟩ : ∃ t, plT (A.getD i plD) = t := ⟨_, rfl⟩
  obtain ⟨ty, hty⟩ : ∃ t, plT (A.getD j plD) = t := ⟨_, rfl⟩
  obtain ⟨kx, hkx⟩ : ∃ t, (A.getD i plD).1 = t := ⟨_, rfl⟩
  obtain ⟨ky, hky⟩ : ∃ t, (A.getD j plD).1 = t := ⟨_, rfl⟩
  have HX : Hid (∀ W, Below w.heap.size w W → W.cell? ⟨g0, i * 2, none⟩ = some (.int .i64 (kx : Int)) ∧ W.cell? ⟨g0, i * 2 + 1, none⟩ = some (.slice (some ⟨gx, ox, none⟩) nx cx) ∧ W.cell? ⟨gx, ox, none⟩ = some (.int .i64 tx)) := Lib.hid (fun W hb => by
    obtain ⟨_, _, _, _, _, _, e1, e2, _, _, p0, p1, p2, _⟩ := HQ.out W hb
    rw [hx1] at e2; cases e1; cases e2
    exact ⟨by rw [← hkx]; exact p0, p1, by rw [← htx]; exact p2⟩)
  have HY : Hid (∀ W, Below w.heap.size w W → W.cell? ⟨g0, j * 2, none⟩ = some (.int .i64 (ky : Int)) ∧ W.cell? ⟨g0, j * 2 + 1, none⟩ = some (.slice (some ⟨gy, oy, none⟩) ny cy) ∧ W.cell? ⟨gy, oy, none⟩ = some (.int .i64 ty)) := Lib.hid (fun W hb => by
    obtain ⟨_, _, _, _, _, _, e1, e2, _, _, p0, p1, p2, _⟩ := HR.out W hb
    rw [hy1] at e2; cases e1; cases e2
    exact ⟨by rw [← hky]; exact p0, p1, by rw [← hty]; exact p2⟩)
  rw [htx, hty, hkx, hky]
  obtain ⟨c1, hc1⟩ : ∃ c, cmpI tx ty = c := ⟨_, rfl⟩
  obtain ⟨c2, hc2⟩ : ∃ c, cmpI (kx : Int) (ky : Int) = c := ⟨_, rfl⟩
  have C1 := Lib.hid (fun W => compare_any tx ty W)
  have C2 := Lib.hid (fun W => compareI_any (kx : Int) (ky : Int) W)
  rw [hc1] at C1
  rw [hc2] at C2
  rw [hc1, hc2]
  obtain ⟨r, hr⟩ : ∃ r, orI c1 c2 = r := ⟨_, rfl⟩
  have C3 := Lib.hid (fun (W : World) (H : Nat) (h : W.heap[H]? = some (.cells #[.int .i64 c1, .int .i64 c2] 3 (0, 0))) => or2_any h)
  rw [hr] at C3
  rw [hr]
  obtain ⟨N, hN⟩ : ∃ N, A.length = N := ⟨_, rfl⟩
  rw [hN] at hi hj ⊢
  have hiI : (i : Int) < (N : Int) := by omega
  have hjI : (j : Int) < (N : Int) := by omega
  clear h hx1 hy1 hxl hyl htx hty hkx hky hc1 hc2 hr HQ HR hN
  go_enter Try.func113, Try.ntmps113
  go_wp2_with fail
  refine wp_region_two 32 [(0, false), (1, false), (2, false), (3, false), (4, false), (5, false), (6, false), (7, false), (8, false), (9, false), (10, false), (11, false), (12, false), (13, false), (14, false), (15, false), (16, false), (17, false), (18, false), (19, false), (20, false), (21, false), (22, false), (23, false), (24, false), (25, false), (26, false), (27, false), (28, true), (29, true), (30, false), (31, false)] [] [] rfl (Below w.heap.size w) Triv (by kernel_rfl) (by kernel_rfl) (Stab.below _ _ (Nat.le_refl _)) (fun _ _ _ _ => triv _) ((Below.refl _ _).drew) (triv _) ?_
  repeat (first | (refine wt_q rfl rfl ?_; apply Exists.intro; refine ⟨fun w' hw' => ?_, fun K hK => ?_⟩; (focus ((obtain ⟨p0, p1, p2⟩ := HX.out w' hw'; obtain ⟨q0, q1, q2⟩ := HY.out w' hw'); go_simp; first | exact quiet_value | first | with_reducible exact quiet_enter ((C1.out _).mono fun e w'' ⟨h1, h2⟩ => ⟨h1, h2 ▸ Below.refl _ _⟩) | with_reducible exact quiet_enter ((C2.out _).mono fun e w'' ⟨h1, h2⟩ => ⟨h1, h2 ▸ Below.refl _ _⟩))); simp only [Act.put, List.setIfInBounds_toArray, List.set_cons_zero, List.set_cons_succ]; refine hK.out _ ?_; clear hK K) | (refine wt_skip rfl rfl (fun K hK => ?_); simp only [Act.put, List.setIfInBounds_toArray, List.set_cons_zero, List.set_cons_succ]; refine hK.out _ ?_; clear hK K))
  refine wt_step rfl (TwoI c1 c2) (fun _ => Triv) (TwoI.stab _ _) (fun _ _ _ _ _ => triv _) rfl rfl (fun w' hc hd => ?_) (fun K hK vv => ?_)
  focus
    have HCd := Lib.hid hc
    clear hc hd
    go_simp
    exact ⟨below_alloc HCd.out _, ⟨_, rfl, newB _ _⟩, triv _⟩
  simp only [Act.put, List.setIfInBounds_toArray, List.set_cons_zero, List.set_cons_succ]
  refine hK.out _ _ _ ?_
  clear hK K
  refine wt_stepV rfl (.int .i64 r) Triv (fun _ _ _ _ => triv _) rfl rfl (by kernel_rfl) (fun _ _ _ hC w' hw => (hC w' hw).elim) (fun w' hc hd => ?_) (fun K hK => ?_)
  focus
    obtain ⟨hb, H, rfl, hH⟩ := hc
    have HCd := Lib.hid (And.intro hb hH)
    clear hb hd hH
    go_simp
    refine st_enter ?_
    exact (C3.out _ _ HCd.out.2).mono fun e W' ⟨h1, h2⟩ => ⟨_, h1, rfl, h2 ▸ ⟨HCd.out.1, H, rfl, HCd.out.2⟩, triv _⟩
  simp only [Act.put, List.setIfInBounds_toArray, List.set_cons_zero, List.set_cons_succ]
  refine hK.out _ _ _ ?_
  clear hK K
  repeat (first | (refine wt_q rfl rfl ?_; apply Exists.intro; refine ⟨fun w' hw' => ?_, fun K hK => ?_⟩; (focus ((skip); go_simp; first | exact quiet_value | fail)); simp only [Act.put, List.setIfInBounds_toArray, List.set_cons_zero, List.set_cons_succ]; refine hK.out _ ?_; clear hK K) | (refine wt_skip rfl rfl (fun K hK => ?_); simp only [Act.put, List.setIfInBounds_toArray, List.set_cons_zero, List.set_cons_succ]; refine hK.out _ ?_; clear hK K))
  refine wt_nil ?_
  rintro w3 ⟨hb3, _⟩ _
  have HB3 := Lib.hid hb3
  clear hb3
  try simp only [List.drop_succ_cons, List.drop_zero]
  go_wp2_with fail
  go_ret
  exact ⟨rfl, HB3.out⟩
set_option maxRecDepth 100000 in
theorem plen_any {N : Nat} (hN : A.length = N) (h : HpM w B g v A) : Calls Try.prog 112 #[v] w fun e w' => e = .returned (.int .i64 (N : Int)) ∧ w = w' := by
  obtain ⟨a, c0, rfl⟩ := or_form h.row
  rw [hN]
  clear h hN
  go_enter Try.func112, Try.ntmps112
  go_wp2_with fail
  go_ret
  exact ⟨rfl, rfl⟩
theorem rowP_set (A : List Plc) (i : Nat) (hi : i < A.length) (e : Plc) : ((rowF plc A).set (i * 2) (.int .i64 (e.1 : Int))).set (i * 2 + 1) e.2.1 = rowF plc (A.set i e) := by
  apply List.ext_getElem?
  intro k
  rw [List.getElem?_set, List.getElem?_set, List.length_set, rowF_len (f := plc) (s := 2) (fun _ => rfl)]
  have hk : k = (k / 2) * 2 + k % 2 := by omega
  by_cases hlt : k / 2 < A.length
  · have h2 : k / 2 < (A.set i e).length := by simpa using hlt
    have e1 := rowF_get (f := plc) (s := 2) (fun _ => rfl) A (k / 2) hlt (k % 2) (by omega)
    have e2 := rowF_get (f := plc) (s := 2) (fun _ => rfl) (A.set i e) (k / 2) h2 (k % 2) (by omega)
    rw [← hk] at e1 e2
    rw [e1, e2, List.getElem_set]
    by_cases hki : i = k / 2
    · rw [if_pos hki]
      by_cases hm : k % 2 = 0
      · rw [if_neg (by omega), if_pos (by omega), if_pos (by omega), hm]; rfl
      · have hm1 : k % 2 = 1 := by omega
        rw [if_pos (by omega), if_pos (by omega), hm1]; rfl
    · rw [if_neg hki, if_neg (by omega), if_neg (by omega)]
  · have n1 : (rowF plc A)[k]? = none := List.getElem?_eq_none (by rw [rowF_len (f := plc) (s := 2) (fun _ => rfl)]; omega)
    have n2 : (rowF plc (A.set i e))[k]? = none := List.getElem?_eq_none (by rw [rowF_len (f := plc) (s := 2) (fun _ => rfl), List.length_set]; omega)
    rw [n1, n2, if_neg (by omega), if_neg (by omega)]
theorem plc_put {g0 cap : Nat} (h : w.ownsRow B 115 2 (.slice (some ⟨g0, 0, none⟩) n cap) n (rowF plc A)) (i : Nat) (hi : i < A.length) (e : Plc) :
    ((w.setCell ⟨g0, i * 2, none⟩ (.int .i64 (e.1 : Int))).setCell ⟨g0, i * 2 + 1, none⟩ e.2.1).ownsRow B 115 2 (.slice (some ⟨g0, 0, none⟩) n cap) n (rowF plc (A.set i e)) := by
  have h1 := (World.ownsRow.stored h (i * 2) (.int .i64 (e.1 : Int))).1
  have h2 := (World.ownsRow.stored h1 (i * 2 + 1) e.2.1).1
  rw [rowP_set A i hi e] at h2
  exact h2
theorem setP_only (w : World) (g0 i : Nat) (e : Plc) : Only (fun k => k = g0) w ((w.setCell ⟨g0, i * 2, none⟩ (.int .i64 (e.1 : Int))).setCell ⟨g0, i * 2 + 1, none⟩ e.2.1) :=
  (Only.set w g0 (i * 2) _).trans (Only.set _ g0 (i * 2 + 1) _)
theorem HpM.row_keep {v' : Value} {A' : List Plc} (h : HpM w B g v A) (ho : Only (fun k => v.ownBlock = some k) w w') (hr : w'.ownsRow B 115 2 v' A'.length (rowF plc A')) (hA : ∀ x ∈ A', x ∈ A) (hb : w'.heap[g]? = some (.cells #[v'] 112 (0, 0))) : HpM w' B g v' A' where
  gB := h.gB
  box := hb
  row := hr
  rest := fun x hx => ⟨(h.rest x (hA x hx)).1, (h.rest x (hA x hx)).2.keep' ho (fun k hk e => by
    rcases (h.rest x (hA x hx)).2.2 with ⟨h1, _⟩ | ⟨g1, o1, c1, cu1, h1, _, h3, _⟩
    · rw [h1] at hk; cases hk
    · rw [h1] at hk; cases hk
      rcases h.row.2 with ⟨h4, _⟩ | ⟨g2, c2, cu2, h4, _, h6, _⟩
      · rw [h4] at e; cases e
      · rw [h4] at e; cases e
        rw [h3] at h6; cases h6)⟩
set_option maxHeartbeats 4000000 in
set_option maxRecDepth 100000 in
theorem swap_any (h : HpM w B g v A) (hi : i < A.length) (hj : j < A.length) : Calls Try.prog 114 #[v, .int .i64 (i : Int), .int .i64 (j : Int)] w fun e w' => (∃ u, e = .returned u) ∧ HpM w' B g v (swapL A i j plD) ∧ Only (fun k => v.ownBlock = some k) w w' := by
  obtain ⟨a, c0, rfl⟩ := or_form h.row
  obtain ⟨g0, rfl⟩ := or_addr h.row (by omega)
  obtain ⟨x, hx⟩ : ∃ x, A.getD i plD = x := ⟨_, rfl⟩
  obtain ⟨y, hy⟩ : ∃ x, A.getD j plD = x := ⟨_, rfl⟩
  have hxi : A[i] = x := by rw [← hx, List.getD_eq_getElem?_getD, List.getElem?_eq_getElem hi]; rfl
  have hyj : A[j] = y := by rw [← hy, List.getD_eq_getElem?_getD, List.getElem?_eq_getElem hj]; rfl
  have hS : swapL A i j plD = (A.set i y).set j x := by unfold swapL; rw [hx, hy]
  rw [hS]
  have HM : Hid (∀ w3, Only (fun k => (Value.slice (some ⟨g0, 0, none⟩) A.length c0).ownBlock = some k) w w3 → w3.ownsRow B 115 2 (.slice (some ⟨g0, 0, none⟩) A.length c0) A.length (rowF plc ((A.set i y).set j x)) → HpM w3 B g (.slice (some ⟨g0, 0, none⟩) A.length c0) ((A.set i y).set j x)) := Lib.hid (fun w3 ho hr => by
    refine h.row_keep ho (by rw [List.length_set, List.length_set]; exact hr) (fun z hz => ?_) (ho.get h.box (fun e => by
      rcases h.row.2 with ⟨h4, _⟩ | ⟨g2, c2, cu2, h4, _, h6, _⟩
      · cases h4
      · cases h4
        have e : g0 = g := by simpa [Value.ownBlock] using e
        rw [e, h.box] at h6; cases h6))
    rw [← hS] at hz
    exact (swapL_perm hi hj).mem_iff.1 hz)
  have p0 := or_cell h.row (j := i * 2 + 0) (by rw [rowF_get (f := plc) (s := 2) (fun _ => rfl) A i hi 0 (by omega), hxi]; rfl)
  have p1 := or_cell h.row (j := i * 2 + 1) (by rw [rowF_get (f := plc) (s := 2) (fun _ => rfl) A i hi 1 (by omega), hxi]; rfl)
  have q0 := or_cell h.row (j := j * 2 + 0) (by rw [rowF_get (f := plc) (s := 2) (fun _ => rfl) A j hj 0 (by omega), hyj]; rfl)
  have q1 := or_cell h.row (j := j * 2 + 1) (by rw [rowF_get (f := plc) (s := 2) (fun _ => rfl) A j hj 1 (by omega), hyj]; rfl)
  have f0 := World.ownsRow.frozenAt h.row (i * 2)
  have f1 := World.ownsRow.frozenAt h.row (i * 2 + 1)
  have O1 := plc_put h.row i hi y
  have hj' : j < (A.set i y).length := by simpa using hj
  have hyj2 : (A.set i y)[j] = y := by
    rw [List.getElem_set]
    split
    · rfl
    · exact hyj
  have q2 := or_cell O1 (j := j * 2 + 0) (by rw [rowF_get (f := plc) (s := 2) (fun _ => rfl) (A.set i y) j hj' 0 (by omega), hyj2]; rfl)
  have q3 := or_cell O1 (j := j * 2 + 1) (by rw [rowF_get (f := plc) (s := 2) (fun _ => rfl) (A.set i y) j hj' 1 (by omega), hyj2]; rfl)
  have f2 := World.ownsRow.frozenAt h.row (j * 2)
  have f3 := World.ownsRow.frozenAt h.row (j * 2 + 1)
  have O2 := plc_put O1 j hj' x
  have HO2 := Lib.hid O2
  have HOn := Lib.hid ((setP_only w g0 i y).trans (setP_only _ g0 j x))
  obtain ⟨gx, ox, nx, cx, hx1⟩ : ∃ gx ox nx cx, (A.getD i plD).2.1 = .slice (some ⟨gx, ox, none⟩) nx cx := by
    obtain ⟨_, _, gx, ox, nx, cx, _, hx1, _⟩ := h.at_ hi
    exact ⟨gx, ox, nx, cx, hx1⟩
  obtain ⟨gy, oy, ny, cy, hy1⟩ : ∃ gx ox nx cx, (A.getD j plD).2.1 = .slice (some ⟨gx, ox, none⟩) nx cx := by
    obtain ⟨_, _, gx, ox, nx, cx, _, hx1, _⟩ := h.at_ hj
    exact ⟨gx, ox, nx, cx, hx1⟩
  rw [hx] at hx1
  rw [hy] at hy1
  obtain ⟨x1, x2, x3⟩ := x
  obtain ⟨y1, y2, y3⟩ := y
  simp only at hx1 hy1
  subst hx1 hy1
  simp only [Nat.add_zero] at p0 p1 q0 q1 q2 q3 f0 f1 f2 f3
  obtain ⟨N, hN⟩ : ∃ N, A.length = N := ⟨_, rfl⟩
  rw [hN] at HM HO2 hi hj ⊢
  have hiI : (i : Int) < (N : Int) := by omega
  have hjI : (j : Int) < (N : Int) := by omega
  clear h hx hy hxi hyj hS O1 hj' hyj2 O2 hN
  go_enter Try.func114, Try.ntmps114
  go_wp2_with fail
  go_region
  clear p0 p1 q0 q1 q2 q3 f0 f1 f2 f3
  go_wp2_with fail
  go_end0
  have hon : Only (fun k => (Value.slice (some ⟨g0, 0, none⟩) N c0).ownBlock = some k) w _ := (HOn.out.mono (fun k _ e => by rw [show k = g0 from e]; rfl)).drew
  exact ⟨⟨_, rfl⟩, HM.out _ hon (or_below HO2.out ((Below.refl _ _).drew)), hon⟩
end
end Go.Proofs.Ytangcgfchalnaaa
