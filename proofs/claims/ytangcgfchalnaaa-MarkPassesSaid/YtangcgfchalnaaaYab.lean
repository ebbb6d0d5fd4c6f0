/- Parts of the proof: Byt Wir Onl. -/
import Derived.Test.YtangcgfchalnaaaProg
import Derived.Test.YtangcgfchalnaaaYaa
import Derived.Below
import Derived.Laws.OwnMore
import Derived.Deep.AppendLies
import Derived.Deep.Draws
import Derived.Maps.AppendAt
import Derived.OwnWalk
import Derived.KernelRfl
import Derived.WalkKit
import Derived.WalkSpells
import Derived.WalkLawsBesides
import Derived.Lib.Hide
import Derived.Lib.AppendZerosOnto
import Derived.Lib.AppendZeros
import Derived.IntWalk
/- Bytes in memory: a slice that reads as bytes, nil let in; a row of bytes of the call's own; append onto it. No program but the types' rows. -/
namespace Go.Proofs.Ytangcgfchalnaaa
open Go.RowKit
theorem block_of_add (a : Addr) (n : Nat) : (a.add n).block = a.block := by unfold Addr.add; split <;> rfl
theorem add_of_add (a : Addr) (i j : Nat) : (a.add i).add j = a.add (i + j) := by
  unfold Addr.add
  by_cases hi : i = 0 <;> by_cases hj : j = 0 <;> simp [hi, hj, Nat.add_assoc]
theorem add_zero_ (a : Addr) : a.add 0 = a := by unfold Addr.add; simp

/-- The slice value's cells, nil let in: they lie below block B. -/
def Reads (w : World) (B size : Nat) (A : Option Addr) (n : Nat) (xs : List Value) : Prop :=
  xs.length = n * size ∧ (0 < n → ∃ ad, A = some ad ∧ ad.block < B ∧ ∀ j u, xs[j]? = some u → w.cell? (ad.add j) = some u)

section
variable {w w' : World} {B B' size n : Nat} {A : Option Addr} {xs : List Value}
theorem Reads.none_ : Reads w B size A 0 [] := ⟨by simp, fun h => absurd h (by omega)⟩
theorem Reads.at_ {k : Nat} (h : Reads w B 1 A n xs) (hk : k < n) : ∃ ad u, A = some ad ∧ ad.block < B ∧ xs[k]? = some u ∧ w.cell? (ad.add k) = some u := by
  obtain ⟨ad, e, hb, hc⟩ := h.2 (by omega)
  have hl : k < xs.length := by have := h.1; omega
  exact ⟨ad, xs[k], e, hb, List.getElem?_eq_getElem hl, hc k _ (List.getElem?_eq_getElem hl)⟩
theorem Reads.keep (h : Reads w B size A n xs) (hk : ∀ p : Addr, p.block < B → w'.cell? p = w.cell? p) : Reads w' B size A n xs :=
  ⟨h.1, fun hn => by
    obtain ⟨ad, e, hb, hc⟩ := h.2 hn
    exact ⟨ad, e, hb, fun j u hu => (hk _ (by rw [block_of_add]; exact hb)).trans (hc j u hu)⟩⟩
theorem Reads.more (h : Reads w B size A n xs) (hB : B ≤ B') : Reads w B' size A n xs :=
  ⟨h.1, fun hn => by
    obtain ⟨ad, e, hb, hc⟩ := h.2 hn
    exact ⟨ad, e, by omega, hc⟩⟩
theorem Reads.below (h : Reads w B size A n xs) (hb : Below B w w') : Reads w' B size A n xs := h.keep fun _ hp => hb.cell hp
theorem Reads.grown (h : Reads w B size A n xs) {row : Option Nat} (hg : w.grownBy w' row) (hB : B ≤ w.heap.size) (hr : ∀ g, row = some g → B ≤ g) : Reads w' B size A n xs :=
  h.keep fun p hp => World.cell?_of_block (hg.block p.block (by omega) (fun e => by have := hr _ e.symm; omega))
theorem Reads.cut (h : Reads w B size A n xs) {k cap : Nat} (hk : k ≤ n) (hc : n ≤ cap) :
    Reads w B size (if cap = k then A else A.map (·.add (k * size))) (n - k) (xs.drop (k * size)) := by
  refine ⟨by rw [List.length_drop, h.1, Nat.sub_mul], fun hn => ?_⟩
  obtain ⟨ad, rfl, hb, hcell⟩ := h.2 (by omega)
  rw [if_neg (by omega)]
  refine ⟨ad.add (k * size), rfl, by rw [block_of_add]; exact hb, fun j u hu => ?_⟩
  rw [add_of_add]
  exact hcell _ u (by rw [← hu, List.getElem?_drop])
theorem Reads.of_own {base : Nat} {e : TypeId} {c : Nat} (h : w.ownsRow base e size (.slice A n c) n xs) : Reads w w.heap.size size A n xs := by
  refine ⟨h.1, fun hn => ?_⟩
  obtain ⟨g, cap, hv, _, hlt⟩ := h.form hn
  have hA : A = some ⟨g, 0, none⟩ := by injection hv
  subst hA
  exact ⟨_, rfl, hlt, h.cells (g := g) rfl⟩
end

/-! ### append onto a row of the call's own, the source nil, empty or not -/
section
variable {P : Program} (w : World)
theorem run_append_of_nil (base : Nat) (t ty e : TypeId) (i : TypeInfo) (size : Nat) (ht : P.underlying t = some (.slice e)) (hi : P.info? e = some i)
    (v : Value) (n : Nat) (xs : List Value) (hown : w.ownsRow base e size v n xs) (c : Nat) : (Builtin.append_ #[t, t] ty #[v, .slice none 0 c]).run P w = .ok v w := by
  rcases hown.2 with ⟨rfl, rfl⟩ | ⟨g, cap, cur, rfl, _, _, hnc, _⟩
  · simp [Builtin.append_, run_underlying ht, sizeOf, typeInfo, hi, Builtin.lenOf, Builtin.firstCells]
  · simp [Builtin.append_, run_underlying ht, sizeOf, typeInfo, hi, Builtin.lenOf, Builtin.firstCells, hnc, storeCells]
theorem run_append_any (base : Nat) (t ty e : TypeId) (i : TypeInfo) (z : Value) (size bytes : Nat) (ht : P.underlying t = some (.slice e)) (hi : P.info? e = some i) (hz : i.zero = some z)
    (hsize : i.size = size) (hby : i.bytes = bytes) (hzs : z.cells.size = size) (hsz : 0 < size)
    (v : Value) (n : Nat) (xs : List Value) (hown : w.ownsRow base e size v n xs)
    (B : Nat) (A : Option Addr) (m c : Nat) (news : List Value) (hr : Reads w B size A m news) (h1 : ∀ u ∈ news, u.oneCell' = true)
    (h63 : n + m ≤ maxLen) (hbytes : (n + m) * bytes ≤ 140737488355328) (hbase : base ≤ w.heap.size) :
    ∃ v' w', (Builtin.append_ #[t, t] ty #[v, .slice A m c]).run P w = .ok v' w' ∧ w'.ownsRow base e size v' (n + m) (xs ++ news) ∧ w.grownBy w' v.ownBlock ∧
      (v'.ownBlock = v.ownBlock ∨ v'.ownBlock = some w.heap.size) := by
  rcases A with _ | ad
  · have hm : m = 0 := by
      rcases Nat.eq_zero_or_pos m with h0 | h0
      · exact h0
      · obtain ⟨ad, h, _⟩ := hr.2 h0
        cases h
    subst hm
    have hn : news = [] := List.eq_nil_of_length_eq_zero (by simpa using hr.1)
    subst hn
    exact ⟨v, w, run_append_of_nil w base t ty e i size ht hi v n xs hown c, by simpa using hown, World.grownBy.refl w _, .inl rfl⟩
  · have hcells : ∀ j u, news[j]? = some u → w.cell? (ad.add j) = some u := by
      intro j u hu
      rcases Nat.eq_zero_or_pos m with h0 | h0
      · subst h0
        have hn : news = [] := List.eq_nil_of_length_eq_zero (by simpa using hr.1)
        subst hn
        simp at hu
      · obtain ⟨ad', h, _, hc⟩ := hr.2 h0
        injection h with h
        subst h
        exact hc j u hu
    obtain ⟨v', w', hrun, h2, h3, _, h5⟩ := run_append_own_at (P := P) w base t ty e i z size bytes ht hi hz hsize hby hzs hsz v n xs hown ad m c news hr.1 hcells h1 h63 hbytes hbase
    exact ⟨v', w', hrun, h2, h3, h5⟩
theorem wp_append_any {o : Oper} {a : Act} {K : Act → World → Prop} {Q : Exit → Act → World → Prop} (s x : Operand) (t : TypeId)
    (ho : o.op = .call { callee := .builtin .append, args := #[s, x], argTypes := #[t, t] })
    (base : Nat) (e : TypeId) (i : TypeInfo) (z : Value) (size bytes : Nat) (ht : P.underlying t = some (.slice e)) (hi : P.info? e = some i) (hz : i.zero = some z)
    (hsize : i.size = size) (hby : i.bytes = bytes) (hzs : z.cells.size = size) (hsz : 0 < size)
    (v : Value) (n : Nat) (xs : List Value) (hs : a.eval s = v) (hown : w.ownsRow base e size v n xs)
    (B : Nat) (A : Option Addr) (m c : Nat) (news : List Value) (hx : a.eval x = .slice A m c) (hr : Reads w B size A m news) (h1 : ∀ u ∈ news, u.oneCell' = true)
    (h63 : n + m ≤ maxLen) (hbytes : (n + m) * bytes ≤ 140737488355328) (hbase : base ≤ w.heap.size)
    (h : ∀ v' w', w'.ownsRow base e size v' (n + m) (xs ++ news) → w.grownBy w' v.ownBlock → (v'.ownBlock = v.ownBlock ∨ v'.ownBlock = some w.heap.size) → K (a.put o.dst v') w') : o.wp P a w K Q := by
  obtain ⟨v', w', hrun, h2, h3, h4⟩ := run_append_any (P := P) w base t o.type e i z size bytes ht hi hz hsize hby hzs hsz v n xs hown B A m c news hr h1 h63 hbytes hbase
  unfold Oper.wp execOp
  simp only [ho, resolve, invoke, builtin, Sem.run_bind, Sem.run_pure, Result.andThen_ok, List.map_toArray, List.map_cons, List.map_nil, hs, hx, hrun]
  exact h v' w' h2 h3 h4
theorem wpList_append_any {ops : Array Oper} {rest : List Oper} {o : Oper} {a : Act} {Q : Exit → Act → World → Prop} (hgd : o.guard = none) (s x : Operand) (t : TypeId)
    (ho : o.op = .call { callee := .builtin .append, args := #[s, x], argTypes := #[t, t] })
    (base : Nat) (e : TypeId) (i : TypeInfo) (z : Value) (size bytes : Nat) (ht : P.underlying t = some (.slice e)) (hi : P.info? e = some i) (hz : i.zero = some z)
    (hsize : i.size = size) (hby : i.bytes = bytes) (hzs : z.cells.size = size) (hsz : 0 < size)
    (v : Value) (n : Nat) (xs : List Value) (hs : a.eval s = v) (hown : w.ownsRow base e size v n xs)
    (B : Nat) (A : Option Addr) (m c : Nat) (news : List Value) (hx : a.eval x = .slice A m c) (hr : Reads w B size A m news) (h1 : ∀ u ∈ news, u.oneCell' = true)
    (h63 : n + m ≤ maxLen) (hbytes : (n + m) * bytes ≤ 140737488355328) (hbase : base ≤ w.heap.size)
    (h : ∀ v' w', w'.ownsRow base e size v' (n + m) (xs ++ news) → w.grownBy w' v.ownBlock → (v'.ownBlock = v.ownBlock ∨ v'.ownBlock = some w.heap.size) → wpList P ops Q rest (a.put o.dst v') w') : wpList P ops Q (o :: rest) a w :=
  wpList_plain hgd fun _ hK => wp_append_any w s x t ho base e i z size bytes ht hi hz hsize hby hzs hsz v n xs hs hown B A m c news hx hr h1 h63 hbytes hbase fun v' w' h2 h3 h4 => hK _ _ (h v' w' h2 h3 h4)
end

/-! ### Bytes -/
def bv (b : UInt8) : Value := .int .u8 (b.toNat : Int)
theorem bv_one (l : List UInt8) : ∀ u ∈ l.map bv, u.oneCell' = true := by
  intro u h
  obtain ⟨b, _, rfl⟩ := List.mem_map.1 h
  rfl
/-- The slice at A reads as these bytes. -/
def Rd (w : World) (A : Option Addr) (l : List UInt8) : Prop := Reads w w.heap.size 1 A l.length (l.map bv)
/-- A row of bytes of the call's own, from block base on. -/
def OwnB (w : World) (base : Nat) (v : Value) (l : List UInt8) : Prop := w.ownsRow base 5 1 v l.length (l.map bv)
section
variable {w w' : World} {A : Option Addr} {l m : List UInt8} {base : Nat} {v : Value} {c : Nat}
theorem Rd.below (h : Rd w A l) (hb : Below w.heap.size w w') : Rd w' A l := Reads.more (Reads.below h hb) hb.size
theorem Rd.nil_ : Rd w A [] := Reads.none_
theorem Rd.at_ {k : Nat} (h : Rd w A l) (hk : k < l.length) : ∃ ad, A = some ad ∧ ad.block < w.heap.size ∧ w.cell? (ad.add k) = some (.int .u8 (l[k].toNat : Int)) := by
  obtain ⟨ad, u, h1, h2, h3, h4⟩ := Reads.at_ h hk
  refine ⟨ad, h1, h2, ?_⟩
  simp [hk] at h3
  rw [h4, ← h3]; rfl
theorem OwnB.form (h : OwnB w base v l) : ∃ A c, v = .slice A l.length c ∧ l.length ≤ c ∧ c ≤ maxLen ∧ Rd w A l := by
  rcases h.2 with ⟨rfl, h0⟩ | ⟨g, cap, cur, rfl, h1, h2, h3, h4, h5⟩
  · exact ⟨none, 0, by rw [h0], by omega, by simp, by rw [List.eq_nil_of_length_eq_zero h0]; exact Rd.nil_⟩
  · exact ⟨_, cap, rfl, h3, h4, Reads.of_own h⟩
theorem OwnB.nil_ : OwnB w base (.slice none 0 0) [] := World.ownsRow_nil w base 5 1
theorem OwnB.kept {row : Option Nat} (h : OwnB w base v l) (hg : w.grownBy w' row) (hne : v.ownBlock = none ∨ v.ownBlock ≠ row) : OwnB w' base v l := World.ownsRow.kept h hg hne
theorem grown_of_below' (h : Below w.heap.size w w') : w.grownBy w' none := ⟨h.os, h.tape, h.output, h.size, fun k hk _ => h.block k hk⟩
theorem OwnB.below (h : OwnB w base v l) (hb : Below w.heap.size w w') : OwnB w' base v l := by
  cases hv : v.ownBlock with
  | none => exact h.kept (grown_of_below' hb) (.inl hv)
  | some g => exact h.kept (grown_of_below' hb) (.inr (by rw [hv]; simp))
theorem OwnB.lt (h : OwnB w base v l) : ∀ k, v.ownBlock = some k → base ≤ k ∧ k < w.heap.size := World.ownsRow.lt h
end
theorem infoB : (Try.prog.info? 5).map (fun i => (i.zero, i.size, i.bytes)) = some (some (.int .u8 0), 1, 1) := by kernel_rfl
theorem undB : Try.prog.underlying 52 = some (.slice 5) := by kernel_rfl
/-- append of bytes onto a row of the call's own. -/
theorem wpL_ap {w : World} {ops : Array Oper} {rest : List Oper} {o : Oper} {a : Act} {Q : Exit → Act → World → Prop} (hgd : o.guard = none) (s x : Operand)
    (ho : o.op = .call { callee := .builtin .append, args := #[s, x], argTypes := #[52, 52] }) (base : Nat)
    (v : Value) (l : List UInt8) (hs : a.eval s = v) (hown : OwnB w base v l) (A : Option Addr) (m c : Nat) (news : List UInt8) (hx : a.eval x = .slice A m c) (hm : m = news.length) (hr : Rd w A news)
    (hlen : l.length + news.length ≤ 1099511627776) (hbase : base ≤ w.heap.size)
    (h : ∀ v' w', OwnB w' base v' (l ++ news) → w.grownBy w' v.ownBlock → (v'.ownBlock = v.ownBlock ∨ v'.ownBlock = some w.heap.size) → wpList Try.prog ops Q rest (a.put o.dst v') w') : wpList Try.prog ops Q (o :: rest) a w := by
  subst hm
  obtain ⟨i, hi, hz, h1, h2⟩ := info_parts infoB
  refine wpList_append_any w hgd s x 52 ho base 5 i (.int .u8 0) 1 1 undB hi hz h1 h2 rfl (by omega) v l.length (l.map bv) hs hown w.heap.size A news.length c (news.map bv) hx hr (bv_one _) (by unfold maxLen; omega) (by omega) hbase
    fun v' w' h3 h4 h5 => h v' w' ?_ h4 h5
  unfold OwnB
  rw [List.length_append, List.map_append]
  exact h3
/-- The bytes of a new block, read. -/
theorem Rd.new (w : World) (l : List UInt8) : Rd (w.alloc (.cells (l.map bv).toArray 5)) (some ⟨w.heap.size, 0, none⟩) l := by
  refine ⟨by simp, fun _ => ⟨_, rfl, by simp, fun j u hu => ?_⟩⟩
  exact World.news_of_block (w := w.alloc (.cells (l.map bv).toArray 5)) (heap_alloc_new w _) j u (by simpa using hu)
/-- A number's bytes, the lowest first. -/
def leB (n : Nat) : List UInt8 := if h : n = 0 then [] else UInt8.ofNat n :: leB (n / 256)
theorem leB_zero : leB 0 = [] := by rw [leB]; simp
theorem leB_pos {n : Nat} (h : 0 < n) : leB n = UInt8.ofNat n :: leB (n / 256) := by rw [leB]; rw [dif_neg (by omega)]
theorem leB_len (k : Nat) : ∀ n, n < 256 ^ k → (leB n).length ≤ k := by
  induction k with
  | zero => intro n h; have : n = 0 := by simpa using h
            subst this; rw [leB_zero]; simp
  | succ k ih =>
    intro n h
    rcases Nat.eq_zero_or_pos n with rfl | h0
    · rw [leB_zero]; simp
    · rw [leB_pos h0]
      have := ih (n / 256) (by rw [Nat.pow_succ] at h; omega)
      simp; omega
/-- The world behind a fact, its spelling forgotten. -/
theorem wp_let {P : Program} {c : Code} {Q : Exit → Act → World → Prop} {a : Act} {w : World} (R : World → Prop) (hR : R w) (h : ∀ w', R w' → c.wp P Q a w') : c.wp P Q a w := h w hR
end Go.Proofs.Ytangcgfchalnaaa

/- Contracts of the wire package's functions that put bytes. -/
namespace Go.Proofs.Ytangcgfchalnaaa
open Go.RowKit
theorem OwnB.lower {w : World} {b b' : Nat} {v : Value} {l : List UInt8} (h : OwnB w b v l) (hb : b' ≤ b) : OwnB w b' v l :=
  ⟨h.1, h.2.imp id fun ⟨g, cap, cur, h1, h2, h3⟩ => ⟨g, cap, cur, h1, Nat.le_trans hb h2, h3⟩⟩
/-- A call that returns a row of bytes of its own. -/
def FreshB (w : World) (l : List UInt8) (e : Ending) (w' : World) : Prop := ∃ v, e = .returned v ∧ OwnB w' w.heap.size v l ∧ Below w.heap.size w w'
/-- The same, as it is read by a caller. -/
theorem FreshB.read {w : World} {l : List UInt8} {e : Ending} {w' : World} (h : FreshB w l e w') : ∃ A c, e = .returned (.slice A l.length c) ∧ l.length ≤ c ∧ c ≤ maxLen ∧ Rd w' A l ∧ OwnB w' w.heap.size (.slice A l.length c) l ∧ Below w.heap.size w w' := by
  obtain ⟨v, rfl, ho, hb⟩ := h
  obtain ⟨A, c, rfl, h1, h2, h3⟩ := ho.form
  exact ⟨A, c, rfl, h1, h2, h3, ho, hb⟩
/-- The same, the bytes behind a letter. -/
theorem FreshB.named {w : World} {L : List UInt8} {e : Ending} {w' : World} (h : FreshB w L e w') : ∃ A c m, e = .returned (.slice A (List.length m) c) ∧ Hid (m = L) ∧ Hid (m.length ≤ c ∧ c ≤ maxLen) ∧ Hid (Rd w' A m) ∧ Hid (OwnB w' w.heap.size (.slice A m.length c) m) ∧ Hid (Below w.heap.size w w') := by
  obtain ⟨A, c, h1, h2, h3, h4, h5, h6⟩ := h.read
  exact ⟨A, c, L, h1, rfl, ⟨h2, h3⟩, h4, h5, h6⟩
/-- A byte of a number. -/
theorem u8_of (n : Nat) : IntKind.u8.wrap (n : Int) = ((UInt8.ofNat n).toNat : Int) := by
  have : (UInt8.ofNat n).toNat = n % 256 := by simp [UInt8.toNat_ofNat']
  rw [this, IntKind.wrap_u8]; omega
theorem own_block_below {w0 w w' : World} {v : Value} {l : List UInt8} (hb : Below w0.heap.size w0 w) (ho : OwnB w w0.heap.size v l) (hg : w.grownBy w' v.ownBlock) : Below w0.heap.size w0 w' :=
  hb.grown hg hb.size (fun k e => (ho.lt k e).1)

/-- A number of 64 bits without a sign. -/
def N64 (x : Nat) : Prop := x < 18446744073709551616
set_option maxRecDepth 100000 in
theorem groups_any (x : Nat) (hx : N64 x) (w : World) : Calls Try.prog 70 #[.int .u64 x] w (FreshB w (leB x)) := by
  have HX := Lib.hid (leB_len 8 x hx)
  clear hx
  go_enter Try.func70, Try.ntmps70
  go_wp2_with fail
  go_loopw [0, 3] (fun y v wr => ∃ (n : Nat) (done : List UInt8), n ≤ x ∧ y = .int .u64 n ∧ Hid (done ++ leB n = leB x) ∧ Hid (OwnB wr w.heap.size v done) ∧ Hid (Below w.heap.size w wr) ) (fun y _ _ => (intOf y).toNat)
  case atStart => exact ⟨x, [], Nat.le_refl _, rfl, Lib.hid rfl, Lib.hid OwnB.nil_, Lib.hid (Below.refl _ _)⟩
  case round =>
    obtain ⟨n, done, hn, rfl, HD, HO, HB⟩ := hrel
    by_cases h0 : 0 < n
    · have e0 : (0 : Int) < (n : Int) := by omega
      have hu := u8_of n
      obtain ⟨b, hb⟩ : ∃ b, UInt8.ofNat n = b := ⟨_, rfl⟩
      rw [hb] at hu
      have HU := Lib.hid hb
      clear hb
      have hA : wr.heap.size < (wr.alloc (.cells #[.int .u8 (b.toNat : Int)] 5)).heap.size := by simp
      have HA := Lib.hid ((Below.refl wr.heap.size wr).alloc (Nat.le_refl _) (.cells #[.int .u8 (b.toNat : Int)] 5))
      go_wp2_with (at_builtin; go_loud (refine wpL_ap rfl _ _ rfl w.heap.size _ done rfl (HO.out.below HA.out) _ 1 1 [b] rfl rfl (Rd.new _ [b]) ?o3 (HB.out.alloc HB.out.size _).size ?o5))
      case o3 =>
        have h1 := congrArg List.length HD.out
        have h2 := HX.out
        simp only [List.length_append, List.length_cons, List.length_nil] at *
        omega
      case o5 =>
        intro v' w' HO' hg _
        go_wp2_with fail
        go_roundw
        case rel =>
          have hb' : Below w.heap.size w w' := own_block_below (HB.out.alloc HB.out.size _) (HO.out.below HA.out) hg
          refine ⟨n / 256, done ++ [b], by omega, by simp, Lib.hid ?_, Lib.hid HO', Lib.hid hb'⟩
          rw [List.append_assoc, ← HD.out, leB_pos h0, HU.out]
          rfl
        case measure => simp [intOf]; omega
    · have e0 : ¬ ((0 : Int) < (n : Int)) := by omega
      obtain rfl : n = 0 := by omega
      go_wp2_with fail
      go_ret
      have h := HD.out
      rw [leB_zero, List.append_nil] at h
      rw [← h]
      exact ⟨_, rfl, HO.out, HB.out⟩

/-! ### slices.Grow of nil, slices.Concat -/
theorem run_grow0 (n : Nat) (h0 : 0 < n) (hn : n ≤ 1099511627776) (w : World) : ∃ (G : Nat) (C : Array Value), n ≤ G ∧ G ≤ maxLen ∧ C.size = G ∧
    ∀ ty, (Builtin.append_ #[52, 3] ty #[.slice none 0 0, .int .i64 n]).run Try.prog w = .ok (.slice (some ⟨w.heap.size, 0, none⟩) n G) (w.drew.alloc (.cells C 5)) := by
  obtain ⟨i, hi, hz, h1, h2⟩ := info_parts infoB
  have hg := grownCap_ge w n 0 5
  refine ⟨grownCap w n 0 5, #[] ++ Builtin.zeroCells (Value.int .u8 0).cells n ++ Builtin.zeroCells (Value.int .u8 0).cells (grownCap w n 0 5 - n), hg, grownCap_le_maxLen w n 0 5 (by unfold maxLen; omega), ?_, fun ty => ?_⟩
  · simp only [Array.size_append, size_zeroCells, Value.cells]; simp; omega
  · have h := Lib.run_append_grow_zeros w 52 3 ty 5 i (.int .u8 0) .i64 .i64 undB Try.underlying3 hi hz none 0 0 [] (run_firstCells_none w.drew i.size 0 0 0) n h0 (by omega) (by omega) (by omega) (by rw [h2]; omega)
      (by exact growslice_fits (by omega) (by rw [h2]; omega))
    simpa using h
theorem grow_nil (n : Nat) (hn : n ≤ 1099511627776) (w : World) : Calls Try.prog 93 #[.slice none 0 0, .int .i64 n] w (FreshB w []) := by
  rcases Nat.eq_zero_or_pos n with rfl | h0
  · go_enter Try.func93, Try.ntmps93
    go_wp2
    go_ret
    exact ⟨_, rfl, OwnB.nil_, Below.refl _ _⟩
  · obtain ⟨G, C, h1, h2, h3, hrz⟩ := run_grow0 n h0 hn w
    have e0 : (0 : Int) < (n : Int) := by omega
    unfold maxLen at h2
    have H3 := Lib.hid h3
    clear h3
    go_enter Try.func93, Try.ntmps93
    go_wp2_with (at_builtin; refine Lib.wpList_append_run _ rfl _ _ _ _ rfl _ _ rfl rfl _ _ (hrz _) ?_)
    go_ret
    exact ⟨_, rfl, World.ownsRow_made w.drew C G (Nat.le_refl _) (by unfold maxLen; omega) (by rw [H3.out]; omega), ((Below.refl _ _).drew).alloc (Nat.le_refl _) _⟩

/-- A slice of bytes as it lies: address, capacity, bytes. -/
abbrev Pc := Option Addr × Nat × List UInt8
def slV (p : Pc) : Value := .slice p.1 p.2.2.length p.2.1
def allB (ps : List Pc) : List UInt8 := (ps.map (·.2.2)).flatten
/-- A slice of slices of bytes. -/
def RdP (w : World) (A : Option Addr) (ps : List Pc) : Prop := Reads w w.heap.size 1 A ps.length (ps.map slV) ∧ ∀ p ∈ ps, Rd w p.1 p.2.2
theorem RdP.below {w w' : World} {A : Option Addr} {ps : List Pc} (h : RdP w A ps) (hb : Below w.heap.size w w') : RdP w' A ps :=
  ⟨Reads.more (Reads.below h.1 hb) hb.size, fun p hp => (h.2 p hp).below hb⟩
theorem RdP.at_ {w : World} {A : Option Addr} {ps : List Pc} (h : RdP w A ps) {k : Nat} (hk : k < ps.length) : ∃ ad, A = some ad ∧ ad.block < w.heap.size ∧ w.cell? (ad.add k) = some (.slice ps[k].1 ps[k].2.2.length ps[k].2.1) := by
  obtain ⟨ad, u, h1, h2, h3, h4⟩ := Reads.at_ h.1 hk
  refine ⟨ad, h1, h2, ?_⟩
  simp [hk] at h3
  rw [h4, ← h3]; rfl
theorem allB_take (ps : List Pc) (k : Nat) (h : k < ps.length) : allB (ps.take (k + 1)) = allB (ps.take k) ++ ps[k].2.2 := by
  unfold allB
  rw [← List.take_append_getElem h, List.map_append, List.flatten_append]
  simp
theorem allB_le (ps : List Pc) (k : Nat) : (allB (ps.take k)).length ≤ (allB ps).length := by
  have h : allB ps = allB (ps.take k) ++ allB (ps.drop k) := by
    unfold allB
    rw [← List.flatten_append, ← List.map_append, List.take_append_drop]
  rw [h, List.length_append]; omega
set_option maxRecDepth 100000 in
theorem concat_any (A : Option Addr) (c : Nat) (ps : List Pc) (w : World) (hr : RdP w A ps) (hl : (allB ps).length ≤ 1099511627776) (hn : ps.length ≤ 1099511627776) :
    Calls Try.prog 88 #[.slice A ps.length c] w (FreshB w (allB ps)) := by
  have HR := Lib.hid hr
  have HL := Lib.hid hl
  clear hr hl
  go_enter Try.func88, Try.ntmps88
  go_wp2_with fail
  go_loop [3, 11] (fun s i => ∃ k : Nat, k ≤ ps.length ∧ i = .int .i64 k ∧ s = .int .i64 (allB (ps.take k)).length) (fun _ i => ps.length - (intOf i).toNat)
  case atStart => exact ⟨0, Nat.zero_le _, rfl, rfl⟩
  case round =>
    obtain ⟨k, hk, rfl, rfl⟩ := hrel
    by_cases hlt : k < ps.length
    · have e1 : (k : Int) < (ps.length : Int) := by omega
      obtain ⟨ad, rfl, _, hc⟩ := HR.out.at_ hlt
      have l1 : (allB (ps.take k)).length + ps[k].2.2.length ≤ 1099511627776 := by
        have h := allB_le ps (k + 1)
        rw [allB_take ps k hlt, List.length_append] at h
        have := HL.out; omega
      go_wp2_with fail
      go_round
      case rel => exact ⟨k + 1, by omega, by go_num, by rw [allB_take ps k hlt, List.length_append]; go_num⟩
      case measure => simp [intOf]; omega
    · obtain rfl : k = ps.length := by omega
      rw [List.take_length]
      have e1 : ¬ ((ps.length : Int) < (ps.length : Int)) := by omega
      go_wp2_with fail
      refine (grow_nil _ HL.out _).mono ?_
      rintro e w1 ⟨v, rfl, HO, hb⟩
      have HO := Lib.hid HO
      have HB := Lib.hid hb
      clear hb
      go_wp2_with fail
      go_loopw [6, 27] (fun v i wr => ∃ k : Nat, k ≤ ps.length ∧ i = .int .i64 k ∧ Hid (OwnB wr w.heap.size v (allB (ps.take k))) ∧ Hid (Below w.heap.size w wr)) (fun _ i _ => ps.length - (intOf i).toNat)
      case atStart => exact ⟨0, Nat.zero_le _, rfl, HO, HB⟩
      case round =>
        obtain ⟨k, hk, rfl, HO, HB⟩ := hrel
        by_cases hlt : k < ps.length
        · have e1 : (k : Int) < (ps.length : Int) := by omega
          have hrw := HR.out.below HB.out
          obtain ⟨ad, rfl, _, hc⟩ := hrw.at_ hlt
          have HK := Lib.hid (hrw.2 _ (List.getElem_mem hlt))
          clear hrw
          have l1 : (allB (ps.take k)).length + ps[k].2.2.length ≤ 1099511627776 := by
            have h := allB_le ps (k + 1)
            rw [allB_take ps k hlt, List.length_append] at h
            have := HL.out; omega
          go_wp2_with (at_builtin; go_loud (refine wpL_ap rfl _ _ rfl w.heap.size _ _ rfl HO.out _ _ _ _ rfl rfl HK.out l1 HB.out.size ?o5))
          case o5 =>
            intro v' w' HO' hg _
            rw [← allB_take ps k hlt] at HO'
            have HB' := Lib.hid (own_block_below HB.out HO.out hg)
            have HO' := Lib.hid HO'
            clear hg
            go_wp2_with fail
            go_roundw
            case rel => exact ⟨k + 1, by omega, by go_num, HO', HB'⟩
            case measure => simp [intOf]; omega
        · obtain rfl : k = ps.length := by omega
          rw [List.take_length] at HO
          go_wp2_with fail
          go_ret
          exact ⟨_, rfl, HO.out, HB.out⟩

/-! ### put, Number, Signed, Truth -/
theorem infoS : (Try.prog.info? 52).map (fun i => (i.zero, i.size, i.bytes)) = some (some (.slice none 0 0), 1, 24) := by kernel_rfl
theorem undS : Try.prog.underlying 150 = some (.slice 52) := by kernel_rfl
theorem slV_one (ps : List Pc) : ∀ u ∈ ps.map slV, u.oneCell' = true := by
  intro u h
  obtain ⟨b, _, rfl⟩ := List.mem_map.1 h
  rfl
/-- append of slices of bytes onto a row of the call's own. -/
theorem wpL_apS {w : World} {ops : Array Oper} {rest : List Oper} {o : Oper} {a : Act} {Q : Exit → Act → World → Prop} (hgd : o.guard = none) (s x : Operand)
    (ho : o.op = .call { callee := .builtin .append, args := #[s, x], argTypes := #[150, 150] }) (base : Nat)
    (v : Value) (l : List Pc) (hs : a.eval s = v) (hown : w.ownsRow base 52 1 v l.length (l.map slV)) (A : Option Addr) (m c : Nat) (news : List Pc) (hx : a.eval x = .slice A m c) (hm : m = news.length)
    (hr : Reads w w.heap.size 1 A news.length (news.map slV)) (hlen : l.length + news.length ≤ 4294967296) (hbase : base ≤ w.heap.size)
    (h : ∀ v' w', w'.ownsRow base 52 1 v' (l ++ news).length ((l ++ news).map slV) → w.grownBy w' v.ownBlock → (v'.ownBlock = v.ownBlock ∨ v'.ownBlock = some w.heap.size) → wpList Try.prog ops Q rest (a.put o.dst v') w') : wpList Try.prog ops Q (o :: rest) a w := by
  subst hm
  obtain ⟨i, hi, hz, h1, h2⟩ := info_parts infoS
  refine wpList_append_any w hgd s x 150 ho base 52 i (.slice none 0 0) 1 24 undS hi hz h1 h2 rfl (by omega) v l.length (l.map slV) hs hown w.heap.size A news.length c (news.map slV) hx hr (slV_one _) (by unfold maxLen; omega) (by omega) hbase
    fun v' w' h3 h4 h5 => h v' w' ?_ h4 h5
  rw [List.length_append, List.map_append]
  exact h3
/-- The call's row of slices, read. -/
theorem ownS_read {w : World} {base : Nat} {v : Value} {ps : List Pc} (h : w.ownsRow base 52 1 v ps.length (ps.map slV)) : ∃ A c, v = .slice A ps.length c ∧ Reads w w.heap.size 1 A ps.length (ps.map slV) := by
  rcases h.2 with ⟨rfl, h0⟩ | ⟨g, cap, cur, rfl, h1, h2, h3, h4, h5⟩
  · exact ⟨none, 0, by rw [h0], by rw [h0, List.eq_nil_of_length_eq_zero h0]; exact Reads.none_⟩
  · exact ⟨_, cap, rfl, Reads.of_own h⟩
set_option maxRecDepth 100000 in
theorem put_any_ (p : Pc) (A : Option Addr) (c : Nat) (ps : List Pc) (w : World) (hp : Rd w p.1 p.2.2) (hr : RdP w A ps) (hl : (allB (p :: ps)).length ≤ 1099511627776) (hn : ps.length ≤ 1000000) :
    Calls Try.prog 71 #[.slice p.1 p.2.2.length p.2.1, .slice A ps.length c] w (FreshB w (allB (p :: ps))) := by
  have HR := Lib.hid hr
  have HL := Lib.hid hl
  have HP := Lib.hid hp
  obtain ⟨pa, pc, pl⟩ := p
  clear hr hl hp
  have HB := Lib.hid ((Below.refl w.heap.size w).alloc (Nat.le_refl _) (.cells #[.slice pa pl.length pc] 52))
  have HO : Hid ((w.alloc (.cells #[.slice pa pl.length pc] 52)).ownsRow w.heap.size 52 1 (.slice (some ⟨w.heap.size, 0, none⟩) 1 1) [(pa, pc, pl)].length ([(pa, pc, pl)].map slV)) :=
    Lib.hid (World.ownsRow_lit w #[.slice pa pl.length pc] 1 (Nat.le_refl _) (by decide) rfl)
  go_enter Try.func71, Try.ntmps71
  go_wp2_with (at_builtin; go_loud (refine wpL_apS rfl _ _ rfl w.heap.size _ [(pa, pc, pl)] rfl HO.out _ _ _ ps rfl rfl (HR.out.below HB.out).1 ?o3 HB.out.size ?o5))
  case o3 => first | omega | (simp; omega)
  case o5 =>
    intro v' w' HO' hg _
    have hb' : Below w.heap.size w w' := HB.out.grown hg HB.out.size (fun k e => by simp [Value.ownBlock] at e; omega)
    obtain ⟨A', c', rfl, hr'⟩ := ownS_read (ps := (pa, pc, pl) :: ps) HO'
    have HR' : Hid (RdP w' A' ((pa, pc, pl) :: ps)) := Lib.hid ⟨hr', fun q hq => by
      rcases List.mem_cons.1 hq with rfl | hq
      · exact HP.out.below hb'
      · exact (HR.out.2 q hq).below hb'⟩
    have HB' := Lib.hid hb'
    clear HO' hg hr' hb'
    go_wp2_with fail
    refine (concat_any _ _ ((pa, pc, pl) :: ps) _ HR'.out HL.out (by simp; omega)).mono ?_
    rintro e w1 ⟨v, rfl, HO1, hb1⟩
    have HO1 := Lib.hid HO1
    have HB1 := Lib.hid (HB'.out.trans (hb1.mono HB'.out.size))
    have HS := Lib.hid HB'.out.size
    clear hb1
    go_wp2_with fail
    go_ret
    exact ⟨_, rfl, HO1.out.lower HS.out, HB1.out⟩

/-- A literal row of slices, read. -/
theorem RdP.new {W : World} {H : Nat} (hH : H = W.heap.size) (ps : List Pc) (h : ∀ p ∈ ps, Rd W p.1 p.2.2) : RdP (W.alloc (.cells (ps.map slV).toArray 52)) (some ⟨H, 0, none⟩) ps := by
  subst hH
  refine ⟨⟨by simp, fun _ => ⟨_, rfl, by simp, fun j u hu => ?_⟩⟩, fun p hp => (h p hp).below ((Below.refl _ _).alloc (Nat.le_refl _) _)⟩
  exact World.news_of_block (w := W.alloc (.cells (ps.map slV).toArray 52)) (heap_alloc_new W _) j u (by simpa using hu)
theorem FreshB.lift {w0 w : World} {l : List UInt8} {e : Ending} {w' : World} (h : FreshB w l e w') (hb : Below w0.heap.size w0 w) : FreshB w0 l e w' := by
  obtain ⟨v, rfl, ho, hb'⟩ := h
  exact ⟨v, rfl, ho.lower hb.size, hb.trans (hb'.mono hb.size)⟩
/-- A number as bytes. -/
def numB (n : Nat) : List UInt8 := UInt8.ofNat (leB n).length :: leB n
theorem numB_len {n : Nat} (h : N64 n) : (numB n).length ≤ 9 := by
  have := leB_len 8 n h
  simp [numB]; omega
set_option maxRecDepth 100000 in
theorem number_any (A : Option Addr) (c : Nat) (l : List UInt8) (x : Nat) (hx : N64 x) (w : World) (hp : Rd w A l) (hl : l.length ≤ 1099511000000) :
    Calls Try.prog 45 #[.slice A l.length c, .int .u64 x] w (FreshB w (l ++ numB x)) := by
  have HP := Lib.hid hp
  have HX := Lib.hid hx
  have HX8 := Lib.hid (leB_len 8 x hx)
  clear hp hx
  go_enter Try.func45, Try.ntmps45
  go_wp2_with fail
  refine (groups_any x HX.out _).mono ?_
  intro e w1 hf
  obtain ⟨A1, c1, rfl, h1, h2, h3, h4, h5⟩ := hf.read
  clear hf
  have hu := u8_of (leB x).length
  obtain ⟨b, hb⟩ : ∃ b, UInt8.ofNat (leB x).length = b := ⟨_, rfl⟩
  rw [hb] at hu
  have HU := Lib.hid hb
  have H3 := Lib.hid h3
  have H5 := Lib.hid h5
  have hw8 := HX8.out
  clear hb h1 h2 h3 h4 h5
  have HQ : Hid (RdP ((w1.alloc (.cells #[.int .u8 (b.toNat : Int)] 5)).alloc (.cells #[.slice (some ⟨w1.heap.size, 0, none⟩) 1 1, .slice A1 (leB x).length c1] 52)) (some ⟨w1.heap.size + 1, 0, none⟩) [(some ⟨w1.heap.size, 0, none⟩, 1, [b]), (A1, c1, leB x)]) :=
    Lib.hid (RdP.new (W := w1.alloc (.cells #[.int .u8 (b.toNat : Int)] 5)) (by rw [alloc_size]) [(some ⟨w1.heap.size, 0, none⟩, 1, [b]), (A1, c1, leB x)] (fun p hp => by
      simp only [List.mem_cons, List.not_mem_nil, or_false] at hp
      rcases hp with rfl | rfl
      · exact Rd.new w1 [b]
      · exact H3.out.below ((Below.refl _ _).alloc (Nat.le_refl _) _)))
  have HB2 := Lib.hid (below_alloc (below_alloc H5.out (.cells #[.int .u8 (b.toNat : Int)] 5)) (.cells #[.slice (some ⟨w1.heap.size, 0, none⟩) 1 1, .slice A1 (leB x).length c1] 52))
  go_wp2_with fail
  refine (put_any_ (A, c, l) (some ⟨w1.heap.size + 1, 0, none⟩) 2 [(some ⟨w1.heap.size, 0, none⟩, 1, [b]), (A1, c1, leB x)] _ (HP.out.below HB2.out) HQ.out (by simp [allB]; omega) (by simp)).mono ?_
  intro e w2 hf
  have hf := hf.lift HB2.out
  have e9 : allB [(A, c, l), (some ⟨w1.heap.size, 0, none⟩, 1, [b]), (A1, c1, leB x)] = l ++ numB x := by simp [allB, numB, HU.out]
  rw [e9] at hf
  obtain ⟨v, rfl, h1, h2⟩ := hf
  have H1 := Lib.hid h1
  have H2 := Lib.hid h2
  clear e9 h1 h2
  go_wp2_with fail
  go_ret
  exact ⟨_, rfl, H1.out, H2.out⟩

/-- A signed number, as it is put. -/
def zz (x : Int) : Nat := if x < 0 then (-2 * x - 1).toNat else (2 * x).toNat
theorem zz_64 {x : Int} (h1 : -9223372036854775808 ≤ x) (h2 : x ≤ 9223372036854775807) : N64 (zz x) := by unfold N64 zz; split <;> omega
def In64 (x : Int) : Prop := -9223372036854775808 ≤ x ∧ x ≤ 9223372036854775807
theorem ones64 : BitVec.ofInt 64 18446744073709551615 = BitVec.allOnes 64 := by decide
theorem zz_eq {x : Int} (h : In64 x) : bits BinOp.xor IntKind.u64 (IntKind.u64.wrap (IntKind.u64.wrap x * 2)) (IntKind.u64.wrap (x / 9223372036854775808)) = (zz x : Int) := by
  obtain ⟨h1, h2⟩ := h
  show IntKind.u64.wrap ((BitVec.ofInt 64 _ ^^^ BitVec.ofInt 64 _).toNat : Int) = _
  by_cases h0 : x < 0
  · have e : IntKind.u64.wrap (x / 9223372036854775808) = 18446744073709551615 := by rw [IntKind.wrap_u64]; omega
    rw [e, ones64, BitVec.xor_allOnes, IntKind.wrap_u64, BitVec.toNat_not, BitVec.toNat_ofInt]
    simp only [IntKind.wrap_u64]
    unfold zz
    rw [if_pos h0]
    omega
  · have e : IntKind.u64.wrap (x / 9223372036854775808) = 0 := by rw [IntKind.wrap_u64]; omega
    rw [e]
    simp only [BitVec.ofInt_ofNat, IntKind.wrap_u64]
    rw [BitVec.xor_zero, BitVec.toNat_ofInt]
    unfold zz
    rw [if_neg h0]
    omega
theorem signed_any (A : Option Addr) (c : Nat) (l : List UInt8) (x : Int) (hx : In64 x) (w : World) (hp : Rd w A l) (hl : l.length ≤ 1099511000000) :
    Calls Try.prog 49 #[.slice A l.length c, .int .i64 x] w (FreshB w (l ++ numB (zz x))) := by
  have CN := Lib.hid (number_any A c l (zz x) (zz_64 hx.1 hx.2) w hp hl)
  have HZ := Lib.hid (zz_eq hx)
  clear hx hp hl
  go_enter Try.func49, Try.ntmps49
  go_wp2_with fail
  rw [HZ.out]
  refine CN.out.mono ?_
  rintro e w2 ⟨v, rfl, h1, h2⟩
  have H1 := Lib.hid h1
  have H2 := Lib.hid h2
  clear h1 h2
  go_wp2_with fail
  go_ret
  exact ⟨_, rfl, H1.out, H2.out⟩
end Go.Proofs.Ytangcgfchalnaaa

/- A step that writes to some blocks alone; memory that objects own. No program. -/
namespace Go.Proofs.Ytangcgfchalnaaa
open Go.RowKit
/-- Of what was there, blocks of S alone may have turned. -/
structure Only (S : Nat → Prop) (w w' : World) : Prop where
  os : w'.os = w.os
  tape : w'.tape = w.tape
  output : w'.output = w.output
  size : w.heap.size ≤ w'.heap.size
  block : ∀ k, k < w.heap.size → ¬ S k → w'.heap[k]? = w.heap[k]?
section
variable {S T : Nat → Prop} {w w' w'' w0 : World} {B : Nat}
theorem Only.refl (S : Nat → Prop) (w : World) : Only S w w := ⟨rfl, rfl, rfl, Nat.le_refl _, fun _ _ _ => rfl⟩
theorem Only.trans (h : Only S w w') (k : Only S w' w'') : Only S w w'' :=
  ⟨k.os.trans h.os, k.tape.trans h.tape, k.output.trans h.output, Nat.le_trans h.size k.size, fun i hi hn => (k.block i (Nat.lt_of_lt_of_le hi h.size) hn).trans (h.block i hi hn)⟩
theorem Only.mono (h : Only S w w') (hS : ∀ k, k < w.heap.size → S k → T k) : Only T w w' := ⟨h.os, h.tape, h.output, h.size, fun k hk hn => h.block k hk (fun hs => hn (hS k hk hs))⟩
/-- Two steps, of which the second writes to blocks of S or to new ones. -/
theorem Only.then (h : Only S w w') (k : Only T w' w'') (hT : ∀ i, i < w.heap.size → T i → S i) : Only S w w'' :=
  ⟨k.os.trans h.os, k.tape.trans h.tape, k.output.trans h.output, Nat.le_trans h.size k.size, fun i hi hn => (k.block i (Nat.lt_of_lt_of_le hi h.size) (fun ht => hn (hT i hi ht))).trans (h.block i hi hn)⟩
theorem Only.of_below (h : Below w.heap.size w w') : Only S w w' := ⟨h.os, h.tape, h.output, h.size, fun k hk _ => h.block k hk⟩
theorem Only.of_below' (h : Below B w w') (hS : ∀ k, k < w.heap.size → B ≤ k → S k) : Only S w w' := ⟨h.os, h.tape, h.output, h.size, fun k hk hn => h.block k (by
  rcases Nat.lt_or_ge k B with h | h
  · exact h
  · exact absurd (hS k hk h) hn)⟩
theorem Only.below (h : Only S w w') (hS : ∀ k, S k → B ≤ k) (hB : B ≤ w.heap.size) : Below B w w' :=
  ⟨h.os, h.tape, h.output, h.size, fun k hk => h.block k (by omega) (fun hs => by have := hS k hs; omega)⟩
theorem Only.alloc (h : Only S w0 w) (o : Obj) : Only S w0 (w.alloc o) :=
  h.then (T := fun _ => False) ⟨rfl, rfl, rfl, by simp, fun k hk _ => Below.heap_alloc _ _ _ hk⟩ (fun _ _ h => h.elim)
theorem Only.setCell (h : Only S w0 w) {p : Addr} (hp : p.block < w0.heap.size → S p.block) (u : Value) : Only S w0 (w.setCell p u) :=
  h.then (T := fun k => k = p.block) ⟨rfl, rfl, rfl, by simp [World.setCell], fun k _ hk => Below.heap_setCell _ _ _ _ hk⟩ (fun i hi e => by rw [e] at hi ⊢; exact hp hi)
theorem Only.set (w : World) (b o : Nat) (u : Value) : Only (fun k => k = b) w (w.setCell ⟨b, o, none⟩ u) := ⟨rfl, rfl, rfl, by simp [World.setCell], fun k _ hk => Below.heap_setCell _ _ _ _ hk⟩
theorem Only.drew (h : Only S w0 w) : Only S w0 w.drew := ⟨h.os, h.tape, h.output, h.size, h.block⟩
theorem Only.get {b : Nat} {o : Obj} (h : Only S w w') (hb : w.heap[b]? = some o) (hn : ¬ S b) : w'.heap[b]? = some o :=
  (h.block b (Array.getElem?_eq_some_iff.1 hb).1 hn).trans hb
theorem Only.cell (h : Only S w w') {p : Addr} (hp : p.block < w.heap.size) (hn : ¬ S p.block) : w'.cell? p = w.cell? p := World.cell?_of_block (w := w) (h.block p.block hp hn)
theorem Only.reads {size n : Nat} {A : Option Addr} {xs : List Value} (h : Only S w w') (hr : Reads w w.heap.size size A n xs) (hn : ∀ ad, A = some ad → ¬ S ad.block) : Reads w' w'.heap.size size A n xs :=
  ⟨hr.1, fun h0 => by
    obtain ⟨ad, e, hb, hc⟩ := hr.2 h0
    exact ⟨ad, e, Nat.lt_of_lt_of_le hb h.size, fun j u hu => (h.cell (by rw [block_of_add]; exact hb) (by rw [block_of_add]; exact hn ad e)).trans (hc j u hu)⟩⟩
theorem Only.rd {A : Option Addr} {l : List UInt8} (h : Only S w w') (hr : Rd w A l) (hn : ∀ ad, A = some ad → ¬ S ad.block) : Rd w' A l := h.reads hr hn
theorem only_lt {b : Nat} {o : Obj} (h : w.heap[b]? = some o) : b < w.heap.size := (Array.getElem?_eq_some_iff.1 h).1
end
/-- A store into a block of cells, whole. -/
theorem setCell_get {w : World} {b o : Nat} {c : Array Value} {t : TypeId} {u : Value} (h : w.heap[b]? = some (.cells c t (0, 0))) : (w.setCell ⟨b, o, none⟩ u).heap[b]? = some (.cells (c.setIfInBounds o u) t (0, 0)) := by
  simp [World.setCell, Array.getElem?_modify, h]
theorem setCell_other {w : World} {b b' o : Nat} {x : Obj} {u : Value} (h : w.heap[b]? = some x) (hne : b ≠ b') : (w.setCell ⟨b', o, none⟩ u).heap[b]? = some x :=
  (Below.heap_setCell w ⟨b', o, none⟩ u b hne).trans h
/-- A variable's own value stored again. -/
theorem setCell_self {w : World} {b : Nat} {v : Value} {t : TypeId} (h : w.heap[b]? = some (.cells #[v] t (0, 0))) : w.setCell ⟨b, 0, none⟩ v = w := by
  have this : (w.setCell ⟨b, 0, none⟩ v).heap = w.heap := by
    apply Array.ext (by simp [World.setCell])
    intro i h1 h2
    have e : (w.setCell ⟨b, 0, none⟩ v).heap[i]? = w.heap[i]? := by
      by_cases hi : i = b
      · rw [hi, setCell_get h, h]; rfl
      · exact Below.heap_setCell w ⟨b, 0, none⟩ v i hi
    rw [Array.getElem?_eq_getElem h1, Array.getElem?_eq_getElem h2] at e
    exact Option.some.inj e
  have h3 : w.setCell ⟨b, 0, none⟩ v = { w with heap := (w.setCell ⟨b, 0, none⟩ v).heap } := rfl
  rw [h3, this]
end Go.Proofs.Ytangcgfchalnaaa
