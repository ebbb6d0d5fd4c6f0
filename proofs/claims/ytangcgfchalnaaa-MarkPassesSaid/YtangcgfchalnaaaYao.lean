/- Parts of the proof: TbA TbB TbF TbS App. -/
import Derived.Test.YtangcgfchalnaaaYan
import Derived.Carry
import Derived.Test.YtangcgfchalnaaaYac
import Derived.Test.YtangcgfchalnaaaYad
/- intern: a table in memory. -/
namespace Go.Proofs.Ytangcgfchalnaaa
open Go.RowKit Go.MapKept
/-- A series as it lies in memory; what it says. -/
abbrev Se := ByteArray × Ls
abbrev sec (x : Se) : List Value := [.string x.1, lsV x.2]
abbrev SeC := ByteArray × List Lb
def seC (x : Se) : SeC := (x.1, x.2.2.2)
def seK (x : SeC) : ByteArray := ⟨(keyB x.1 x.2).toArray⟩
/-- The keys, with their numbers. -/
def byL : Nat → List SeC → List (ByteArray × Value)
  | _, [] => []
  | i, x :: r => (seK x, .int .i64 ((i + 1 : Nat) : Int)) :: byL (i + 1) r
theorem byL_snoc (x : SeC) : ∀ (i : Nat) (L : List SeC), byL i (L ++ [x]) = byL i L ++ [(seK x, .int .i64 ((i + L.length + 1 : Nat) : Int))]
  | i, [] => by simp [byL]
  | i, y :: r => by
    have := byL_snoc x (i + 1) r
    simp only [List.cons_append, byL, this, List.length_cons]
    rw [show i + 1 + r.length + 1 = i + (r.length + 1) + 1 by omega]
/-- The number of a key; 0: it is not there. -/
def idK (k : ByteArray) : List SeC → Nat
  | [] => 0
  | x :: r => if seK x = k then 1 else if idK k r = 0 then 0 else idK k r + 1
theorem idK_le (k : ByteArray) : ∀ L : List SeC, idK k L ≤ L.length
  | [] => Nat.le_refl _
  | x :: r => by
    have := idK_le k r
    simp only [idK, List.length_cons]
    split <;> (try split) <;> omega
theorem findB_cons (k a : ByteArray) (v : Value) (l : List (ByteArray × Value)) : findB k ((a, v) :: l) = if a = k then some v else findB k l := by
  unfold findB
  by_cases h : a = k
  · rw [if_pos h, List.find?_cons_of_pos (p := fun p : ByteArray × Value => p.1 == k) (by exact (bytes_beq _ _).2 h)]; rfl
  · rw [if_neg h, List.find?_cons_of_neg (p := fun p : ByteArray × Value => p.1 == k) (fun e => h ((bytes_beq _ _).1 e))]
theorem findB_by (k : ByteArray) : ∀ (i : Nat) (L : List SeC), findB k (byL i L) = if idK k L = 0 then none else some (.int .i64 ((i + idK k L : Nat) : Int))
  | i, [] => rfl
  | i, x :: r => by
    simp only [byL]
    rw [findB_cons, findB_by k (i + 1) r]
    by_cases h : seK x = k
    · have e : idK k (x :: r) = 1 := by rw [idK, if_pos h]
      rw [if_pos h, e, if_neg (by decide)]
    · have e : idK k (x :: r) = if idK k r = 0 then 0 else idK k r + 1 := by rw [idK, if_neg h]
      rw [if_neg h, e]
      by_cases h0 : idK k r = 0
      · rw [if_pos h0, if_pos h0, if_pos rfl]
      · rw [if_neg h0, if_neg h0, if_neg (by omega)]
        rw [show i + 1 + idK k r = i + (idK k r + 1) by omega]
/-- A row of whole numbers of the map's own, whatever they are: it lies in a block that belongs to its key. -/
def IntAt (w : World) (F : Nat → Prop) (own : Nat → Nat × ByteArray) (p : Nat × ByteArray) (B : Nat) (v : Value) : Prop :=
  v = .slice none 0 0 ∨ ∃ g n c cur, v = .slice (some ⟨g, 0, none⟩) n c ∧ F g ∧ own g = p ∧ w.heap[g]? = some (.cells cur 3 (0, 0)) ∧ n ≤ c ∧ n ≤ B ∧ c ≤ maxLen ∧ cur.size = c
/-- A map of such rows. -/
def IntsAt (w : World) (F : Nat → Prop) (own : Nat → Nat × ByteArray) (B r : Nat) : Prop := MapV w r fun s v => IntAt w F own (r, s) B v
theorem IntAt.keep {w w' : World} {F S : Nat → Prop} {own : Nat → Nat × ByteArray} {p : Nat × ByteArray} {B : Nat} {v : Value} (h : IntAt w F own p B v) (ho : Only S w w') (hn : ∀ k cur, F k → own k = p → w.heap[k]? = some (.cells cur 3 (0, 0)) → ¬ S k) : IntAt w' F own p B v := by
  rcases h with h | ⟨g, n, c, cur, h1, h2, h3, h4, h5⟩
  · exact .inl h
  · exact .inr ⟨g, n, c, cur, h1, h2, h3, ho.get h4 (hn g cur h2 h3 h4), h5⟩
theorem IntAt.weak {w : World} {F G : Nat → Prop} {own : Nat → Nat × ByteArray} {p : Nat × ByteArray} {B B' : Nat} {v : Value} (h : IntAt w F own p B v) (hG : ∀ k, k < w.heap.size → F k → G k) (hB : B ≤ B') : IntAt w G own p B' v := by
  rcases h with h | ⟨g, n, c, cur, h1, h2, h3, h4, h5, h6, h7⟩
  · exact .inl h
  · exact .inr ⟨g, n, c, cur, h1, hG g (only_lt h4) h2, h3, h4, h5, by omega, h7⟩
/-- A table. -/
structure TabC (w : World) (F : Nat → Prop) (t : Nat) (l : Value) (by_ me ix : Nat) (own : Nat → Nat × ByteArray) (B : Nat) (X : List Se) : Prop where
  int : F t
  inb : F by_
  inm : F me
  ini : F ix
  ne : by_ ≠ me ∧ by_ ≠ ix ∧ me ≠ ix
  tab : w.heap[t]? = some (.cells #[l, .map (some by_), .map (some me), .map (some ix)] 96 (0, 0))
  row : RowAt w (fun k => F k ∧ k ≠ t) 32 2 l X.length (rowF sec X)
  lab : ∀ x ∈ X, RdLs w x.2 ∧ (0 < x.2.2.2.length → ∀ ad, x.2.1 = some ad → F ad.block ∧ ad.block ≠ t ∧ l.ownBlock ≠ some ad.block ∧ own ad.block = (t, ⟨#[]⟩))
  sm : ∀ x ∈ X, smallS x.1 x.2.2.2 ∧ serE x.1 x.2.2.2 = 0
  bym : MapS w by_ (byL 0 (X.map seC))
  mem : IntsAt w (fun k => F k ∧ k ≠ t) own B me
  ind : MapV w ix fun _ v => ∃ r, v = .map (some r) ∧ F r ∧ r ≠ by_ ∧ r ≠ me ∧ r ≠ ix ∧ IntsAt w (fun k => F k ∧ k ≠ t) own B r
/-- A table that holds these series. -/
def TabO (t : Nat) (L : List SeC) : Ob := fun w F => ∃ l by_ me ix own B X, TabC w F t l by_ me ix own B X ∧ X.map seC = L ∧ B ≤ 40 * L.length
abbrev tptr (t : Nat) : Value := .pointer (some ⟨t, 0, none⟩)
theorem map_isnt (r : Nat) (w : World) : (binOp .neq 91 (.map (some r)) (.map none)).run Try.prog w = .ok (.bool true) w := by
  kernel_rfl
set_option maxRecDepth 100000 in
theorem tright_any {w : World} {F : Nat → Prop} {t : Nat} {L : List SeC} (h : TabO t L w F) : Calls Try.prog 51 #[tptr t] w fun e w' => e = .returned (.bool true) ∧ w = w' := by
  obtain ⟨l, by_, me, ix, own, B, X, h, _⟩ := h
  have k1 := cellAt (o := 1) (v := .map (some by_)) h.tab rfl
  have kn := map_isnt by_ w
  clear h
  go_enter Try.func51, Try.ntmps51
  go_wp2_with fail
  go_ret
  exact ⟨rfl, rfl⟩
set_option maxRecDepth 100000 in
theorem tlen_any {w : World} {F : Nat → Prop} {t n : Nat} {L : List SeC} (h : TabO t L w F) (hn : L.length = n) : Calls Try.prog 32 #[tptr t] w fun e w' => e = .returned (.int .i64 (n : Int)) ∧ w = w' := by
  have CR := Lib.hid (tright_any h)
  obtain ⟨l, by_, me, ix, own, B, X, h, hX, _⟩ := h
  have hXn : X.length = n := by rw [← hn, ← hX, List.length_map]
  obtain ⟨A, c, rfl⟩ : ∃ A c, l = .slice A n c := by
    have := h.row
    rw [hXn] at this
    rcases this.2 with ⟨rfl, h0⟩ | ⟨g, o, c, cur, rfl, _⟩
    · subst h0; exact ⟨none, 0, rfl⟩
    · exact ⟨_, c, rfl⟩
  have k0 := cellAt (o := 0) (v := .slice A n c) h.tab rfl
  clear h hX hXn
  go_enter Try.func32, Try.ntmps32
  go_wp2_with fail
  refine CR.out.mono ?_
  rintro e w1 ⟨rfl, rfl⟩
  go_wp2_with fail
  go_ret
  exact ⟨rfl, rfl⟩
end Go.Proofs.Ytangcgfchalnaaa

/- intern: a table is an object; New. -/
namespace Go.Proofs.Ytangcgfchalnaaa
open Go.RowKit Go.MapKept
/-- A row that is not empty is kept where its block is. -/
theorem reads_keep {w w' : World} {S : Nat → Prop} {size n : Nat} {A : Option Addr} {xs : List Value} (h : Only S w w') (hr : Reads w w.heap.size size A n xs) (hn : 0 < n → ∀ ad, A = some ad → ¬ S ad.block) : Reads w' w'.heap.size size A n xs :=
  ⟨hr.1, fun h0 => by
    obtain ⟨ad, e, hb, hc⟩ := hr.2 h0
    exact ⟨ad, e, Nat.lt_of_lt_of_le hb h.size, fun j u hu => (h.cell (by rw [block_of_add]; exact hb) (by rw [block_of_add]; exact hn h0 ad e)).trans (hc j u hu)⟩⟩
theorem MapS.lt {w : World} {r : Nat} {l : List (ByteArray × Value)} (h : MapS w r l) : r < w.heap.size := by
  obtain ⟨es, c, h1, _⟩ := h; exact only_lt h1
theorem MapV.lt {w : World} {r : Nat} {V : ByteArray → Value → Prop} (h : MapV w r V) : r < w.heap.size := by
  obtain ⟨es, c, h1, _⟩ := h; exact only_lt h1
theorem IntsAt.keep2 {w w' : World} {F S : Nat → Prop} {own : Nat → Nat × ByteArray} {B r : Nat} (h : IntsAt w F own B r) (ho : Only S w w') (hr : ¬ S r) (hn : ∀ k cur, F k → w.heap[k]? = some (.cells cur 3 (0, 0)) → ¬ S k) : IntsAt w' F own B r :=
  (MapV.mono h (V' := fun s v => IntAt w' F own (r, s) B v) (fun _ _ hv => hv.keep ho (fun k cur h1 _ h3 => hn k cur h1 h3))).keep ho hr
theorem IntsAt.keep {w w' : World} {F S : Nat → Prop} {own : Nat → Nat × ByteArray} {B r : Nat} (h : IntsAt w F own B r) (ho : Only S w w') (hr : ¬ S r) (hn : ∀ k, F k → k < w.heap.size → ¬ S k) : IntsAt w' F own B r :=
  h.keep2 ho hr (fun k _ h1 h3 => hn k h1 (only_lt h3))
theorem IntsAt.weak {w : World} {F G : Nat → Prop} {own : Nat → Nat × ByteArray} {B B' r : Nat} (h : IntsAt w F own B r) (hG : ∀ k, k < w.heap.size → F k → G k) (hB : B ≤ B') : IntsAt w G own B' r :=
  MapV.mono h (fun _ _ hv => hv.weak hG hB)
section
variable {w w' : World} {F G S : Nat → Prop} {t by_ me ix B : Nat} {l : Value} {own : Nat → Nat × ByteArray} {X : List Se}
theorem TabC.keep (h : TabC w F t l by_ me ix own B X) (ho : Only S w w') (hn : ∀ k, F k → k < w.heap.size → ¬ S k) : TabC w' F t l by_ me ix own B X where
  int := h.int
  inb := h.inb
  inm := h.inm
  ini := h.ini
  ne := h.ne
  tab := ho.get h.tab (hn t h.int (only_lt h.tab))
  row := h.row.keep ho (fun k hk hl => hn k hk.1 hl)
  lab := fun x hx => ⟨reads_keep ho (h.lab x hx).1 (fun h0 ad e => hn _ ((h.lab x hx).2 h0 ad e).1 (by
    obtain ⟨ad', e', hb, _⟩ := (h.lab x hx).1.2 h0
    rw [e] at e'; cases e'; exact hb)), (h.lab x hx).2⟩
  sm := h.sm
  bym := h.bym.keep ho (hn by_ h.inb h.bym.lt)
  mem := IntsAt.keep h.mem ho (hn me h.inm (MapV.lt h.mem)) (fun k hk hl => hn k hk.1 hl)
  ind := (MapV.mono h.ind (fun _ _ ⟨r, h1, h2, h3, h4, h5, h6⟩ => ⟨r, h1, h2, h3, h4, h5, IntsAt.keep h6 ho (hn r h2 (MapV.lt h6)) (fun k hk hl => hn k hk.1 hl)⟩)).keep ho (hn ix h.ini h.ind.lt)
theorem TabC.weak (h : TabC w F t l by_ me ix own B X) (hG : ∀ k, k < w.heap.size → F k → G k) : TabC w G t l by_ me ix own B X where
  int := hG t (only_lt h.tab) h.int
  inb := hG by_ h.bym.lt h.inb
  inm := hG me (MapV.lt h.mem) h.inm
  ini := hG ix h.ind.lt h.ini
  ne := h.ne
  tab := h.tab
  row := h.row.weak (fun k hl hk => ⟨hG k hl hk.1, hk.2⟩)
  lab := fun x hx => ⟨(h.lab x hx).1, fun h0 ad e => ⟨hG _ (by
    obtain ⟨ad', e', hb, _⟩ := (h.lab x hx).1.2 h0
    rw [e] at e'; cases e'; exact hb) ((h.lab x hx).2 h0 ad e).1, ((h.lab x hx).2 h0 ad e).2⟩⟩
  sm := h.sm
  bym := h.bym
  mem := IntsAt.weak h.mem (fun k hl hk => ⟨hG k hl hk.1, hk.2⟩) (Nat.le_refl _)
  ind := MapV.mono h.ind (fun _ _ ⟨r, h1, h2, h3, h4, h5, h6⟩ => ⟨r, h1, hG r (MapV.lt h6) h2, h3, h4, h5, IntsAt.weak h6 (fun k hl hk => ⟨hG k hl hk.1, hk.2⟩) (Nat.le_refl _)⟩)
end
theorem TabO.obj (t : Nat) (L : List SeC) : Obj1 (TabO t L) where
  keep := fun ⟨l, b, m, i, o, B, X, h, hx⟩ ho hn => ⟨l, b, m, i, o, B, X, h.keep ho hn, hx⟩
  old := fun ⟨l, b, m, i, o, B, X, h, hx⟩ => ⟨l, b, m, i, o, B, X, h.weak (fun _ hl hk => ⟨hk, hl⟩), hx⟩
  weak := fun ⟨l, b, m, i, o, B, X, h, hx⟩ hG => ⟨l, b, m, i, o, B, X, h.weak hG, hx⟩
set_option maxRecDepth 100000 in
theorem tnew_any (w : World) : Calls Try.prog 25 #[] w fun e w' => ∃ t, e = .returned (tptr t) ∧ w.heap.size ≤ t ∧ TabO t [] w' (fun k => w.heap.size ≤ k) ∧ Below w.heap.size w w' := by
  have hmm := @run_makeMap Try.prog
  obtain ⟨T, hT⟩ : ∃ T : Obj, Obj.cells #[.slice none 0 0, .map (some w.heap.size), .map (some (w.heap.size + 1)), .map (some (w.heap.size + 2))] 96 = T := ⟨_, rfl⟩
  have HB := Lib.hid (below_alloc (below_alloc (below_alloc (below_alloc (Below.refl w.heap.size w) (.map #[] 0)) (.map #[] 0)) (.map #[] 0)) T)
  have M1 : MapS ((((w.alloc (.map #[] 0)).alloc (.map #[] 0)).alloc (.map #[] 0)).alloc T) w.heap.size [] := (MapS.new w).keep (S := fun _ => False) (Only.of_below (below_alloc (below_alloc (below_alloc (Below.refl _ _) _) _) _)) (fun h => h)
  have M2 : ∀ V, MapV ((((w.alloc (.map #[] 0)).alloc (.map #[] 0)).alloc (.map #[] 0)).alloc T) (w.heap.size + 1) V := fun V => by
    have := (MapV.new (w.alloc (.map #[] 0)) V).keep (S := fun _ => False) (Only.of_below (below_alloc (below_alloc (Below.refl _ _) (.map #[] 0)) T)) (fun h => h)
    rwa [alloc_size] at this
  have M3 : ∀ V, MapV ((((w.alloc (.map #[] 0)).alloc (.map #[] 0)).alloc (.map #[] 0)).alloc T) (w.heap.size + 2) V := fun V => by
    have := (MapV.new ((w.alloc (.map #[] 0)).alloc (.map #[] 0)) V).keep (S := fun _ => False) (Only.of_below (below_alloc (Below.refl _ _) T)) (fun h => h)
    rwa [alloc_size, alloc_size] at this
  have M4 : ((((w.alloc (.map #[] 0)).alloc (.map #[] 0)).alloc (.map #[] 0)).alloc T).heap[w.heap.size + 3]? = some T := by
    subst hT
    have := newB (((w.alloc (.map #[] 0)).alloc (.map #[] 0)).alloc (.map #[] 0)) (.cells #[.slice none 0 0, .map (some w.heap.size), .map (some (w.heap.size + 1)), .map (some (w.heap.size + 2))] 96)
    rwa [alloc_size, alloc_size, alloc_size] at this
  have HM := Lib.hid (And.intro M1 (And.intro M2 (And.intro M3 M4)))
  clear M1 M2 M3 M4
  have HT := Lib.hid hT
  clear hT
  go_enter Try.func25, Try.ntmps25
  go_wp2_with fail
  go_ret
  rw [HT.out]
  obtain ⟨M1, M2, M3, M4⟩ := HM.out
  rw [← HT.out] at M4
  refine ⟨w.heap.size + 3, rfl, by omega, ⟨.slice none 0 0, w.heap.size, w.heap.size + 1, w.heap.size + 2, fun _ => (0, ⟨#[]⟩), 0, [], ?_, rfl, by simp⟩, HB.out⟩
  exact { int := by omega, inb := Nat.le_refl _, inm := by omega, ini := by omega, ne := by omega, tab := by rw [HT.out] at M4 ⊢; exact M4, row := RowAt.nil_, lab := fun x hx => (by cases hx), sm := fun x hx => (by cases hx), bym := M1, mem := M2 _, ind := M3 _ }
end Go.Proofs.Ytangcgfchalnaaa

/- intern: Find. -/
namespace Go.Proofs.Ytangcgfchalnaaa
open Go.RowKit Go.MapKept
theorem zero_int (w : World) : (zeroValue 3).run Try.prog w = .ok (.int .i64 0) w := by kernel_rfl
/-- What 'by' tells of a key. -/
theorem by_look {w : World} {r : Nat} {L : List SeC} (h : MapS w r (byL 0 L)) (k : ByteArray) {i : Nat} (hi : idK k L = i) {b : Bool} (hb : b = decide (i ≠ 0)) :
    (Instr.lookup 91 (.map (some r)) (.string k) true).run Try.prog w = .ok (.tuple #[.int .i64 (i : Int), .bool b]) w := by
  have := h.look (P := Try.prog) (T := 91) (z := .int .i64 0) Try.underlying91 Try.underlying9 zero_int k
  rw [this, findB_by, hi, hb]
  by_cases h0 : i = 0
  · subst h0; simp
  · simp [h0]
set_option maxHeartbeats 4000000 in
set_option maxRecDepth 100000 in
theorem tfind_any {w : World} {F : Nat → Prop} {t n c i : Nat} {X : List SeC} {m : ByteArray} {A : Option Addr} {L : List Lb} {b : Bool} (hT : TabO t X w F) (hn : L.length = n) (h : RdLb w A L) (hE : serE m L = 0) (hS : smallS m L) (hi : idK (seK (m, L)) X = i) (hb : b = decide (i ≠ 0)) :
    Calls Try.prog 69 #[tptr t, .agg #[.string m, .slice A n c]] w fun e w' => e = .returned (.tuple #[.int .i64 (i : Int), .bool b]) ∧ Below w.heap.size w w' := by
  have HB := Lib.hid (below_alloc (Below.refl w.heap.size w) (.cells #[.string m, .slice A n c] 32))
  have HX := Lib.hid (newB w (.cells #[.string m, .slice A n c] 32))
  have CR := Lib.hid (fun W (hb : Below w.heap.size w W) => tright_any ((TabO.obj _ _).below hT hb))
  have CC := Lib.hid (fun W (hb : Below w.heap.size w W) => cser_any (m := m) (c := c) hn (h.below hb))
  have CK := Lib.hid (fun W (hb : Below w.heap.size w W) => skey_any (m := m) (c := c) hn (h.below hb) hE hS)
  obtain ⟨l, by_, me, ix, own, B, Y, hC, hY, _⟩ := hT
  have HL : Hid (∀ W, Below w.heap.size w W → (Instr.lookup 91 (.map (some by_)) (.string (seK (m, L))) true).run Try.prog W = .ok (.tuple #[.int .i64 (i : Int), .bool b]) W ∧ W.heap[t]? = some (.cells #[l, .map (some by_), .map (some me), .map (some ix)] 96 (0, 0))) := Lib.hid (fun W hbW => by
    have hk := hC.bym.keep (S := fun _ => False) (Only.of_below hbW) (fun h => h)
    rw [hY] at hk
    exact ⟨by_look hk _ hi hb, keepB hC.tab hbW⟩)
  rw [hE] at CC
  obtain ⟨k, hk⟩ : ∃ k, seK (m, L) = k := ⟨_, rfl⟩
  have hk2 : (⟨(keyB m L).toArray⟩ : ByteArray) = k := hk
  rw [hk] at HL
  rw [hk2] at CK
  clear hn h hE hS hi hb hC hY hk hk2
  go_enter Try.func69, Try.ntmps69
  go_wp2_with fail
  refine (CR.out _ HB.out).mono ?_
  rintro e w1 ⟨rfl, rfl⟩
  have d0 := cellAt (o := 0) HX.out rfl
  have d1 := cellAt (o := 1) HX.out rfl
  go_wp2_with fail
  refine (CC.out _ HB.out).mono ?_
  rintro e w2 ⟨rfl, hb2⟩
  have HB2 := Lib.hid (HB.out.trans (hb2.mono HB.out.size))
  have HX2 := Lib.hid (keepB HX.out hb2)
  clear hb2 d0 d1
  go_wp2_with fail
  refine wp_region_fork 12 (.q 0 (.q 1 (.q 2 (.q 3 (.q 4 (.q 5 (.q 6 (.q 7 (.q 8 (.q 9 (.q 10 (.q 11 .nil)))))))))))) (Below w2.heap.size w2) Triv (by kernel_rfl) (by kernel_rfl) (Stab.below _ _ (Nat.le_refl _)) (fun _ _ _ _ => triv _) ((Below.refl _ _).drew) (triv _) ?_
  repeat (first | (refine wf_q rfl rfl ?_; apply Exists.intro; refine ⟨fun w' hw' => ?_, fun K hK => ?_⟩; (focus ((have hB := HB2.out.trans (hw'.mono HB2.out.size); obtain ⟨hlk, htb⟩ := HL.out _ hB; have k1 := cellAt (o := 1) (v := .map (some by_)) htb rfl; have d0 := cellAt (o := 0) (keepB HX2.out hw') rfl; have d1 := cellAt (o := 1) (keepB HX2.out hw') rfl; clear htb); go_simp; first | exact quiet_value | with_reducible exact quiet_enter (CK.out _ (HB2.out.trans (hw'.mono HB2.out.size))))); simp only [Act.put, List.setIfInBounds_toArray, List.set_cons_zero, List.set_cons_succ]; refine hK.out _ ?_; clear hK K) | (refine wf_skip rfl rfl (fun K hK => ?_); simp only [Act.put, List.setIfInBounds_toArray, List.set_cons_zero, List.set_cons_succ]; refine hK.out _ ?_; clear hK K) | (refine wf_skipu rfl rfl (fun K hK => ?_); simp only [Act.put, List.setIfInBounds_toArray, List.set_cons_zero, List.set_cons_succ]; refine hK.out _ ?_; clear hK K))
  refine wf_nil ?_
  rintro w3 hb3 _
  have HB3 := Lib.hid (HB2.out.trans (hb3.mono HB2.out.size))
  clear hb3
  (try simp only [List.drop_succ_cons]); (try simp only [List.drop_zero]); (try simp only [List.drop_nil])
  go_wp2_with fail
  exact bodyPost_ret (v := .tuple #[.int .i64 (i : Int), .bool b]) (by simp only [results, Try.results69]; go_simp) rfl ⟨rfl, HB3.out⟩
end Go.Proofs.Ytangcgfchalnaaa

/- intern: Series. -/
namespace Go.Proofs.Ytangcgfchalnaaa
open Go.RowKit Go.MapKept
theorem or_only {w w' : World} {S : Nat → Prop} {base size n : Nat} {e : TypeId} {v : Value} {xs : List Value} (h : w.ownsRow base e size v n xs) (ho : Only S w w') (hn : ∀ g, v.ownBlock = some g → ¬ S g) : w'.ownsRow base e size v n xs :=
  ⟨h.1, h.2.imp id fun ⟨g, cap, cur, h1, h2, h3, h4⟩ => ⟨g, cap, cur, h1, h2, ho.get h3 (hn g (by rw [h1]; rfl)), h4⟩⟩
set_option maxHeartbeats 4000000 in
set_option maxRecDepth 100000 in
theorem tser_any {w : World} {F : Nat → Prop} {t k i : Nat} {X : List SeC} {m : ByteArray} {L : List Lb} (hT : TabO t X w F) (hi : i = k + 1) (hk : k < X.length) (hx : X[k] = (m, L)) (hl : X.length ≤ 1000000) :
    Calls Try.prog 63 #[tptr t, .int .i64 (i : Int)] w fun e w' => ∃ A c, e = .returned (.tuple #[.agg #[.string m, .slice A L.length c], .bool true]) ∧ w'.ownsRow w.heap.size 90 2 (.slice A L.length c) L.length (lbF L) ∧ Below w.heap.size w w' := by
  have HB := Lib.hid (below_alloc (Below.refl w.heap.size w) (.cells #[.string ⟨#[]⟩, .slice none 0 0] 32))
  have HX := Lib.hid (newB w (.cells #[.string ⟨#[]⟩, .slice none 0 0] 32))
  have CR := Lib.hid (fun W (hb : Below w.heap.size w W) => tright_any ((TabO.obj _ _).below hT hb))
  obtain ⟨l, by_, me, ix, own, B, Y, hC, hY, _⟩ := hT
  obtain ⟨n, hn⟩ : ∃ n, X.length = n := ⟨_, rfl⟩
  have hYn : Y.length = n := by rw [← hn, ← hY, List.length_map]
  have hkY : k < Y.length := by omega
  obtain ⟨⟨m', la, lc, L'⟩, hy⟩ : ∃ y, Y[k] = y := ⟨_, rfl⟩
  obtain ⟨rfl, rfl⟩ : m' = m ∧ L' = L := by
    have : seC Y[k] = X[k] := by simp [← hY]
    rw [hy, hx] at this
    cases this
    exact ⟨rfl, rfl⟩
  have hlab := (hC.lab _ (List.getElem_mem hkY)).1
  have hsm := (hC.sm _ (List.getElem_mem hkY)).1
  rw [hy] at hlab hsm
  have hrow := hC.row
  rw [hYn] at hrow
  obtain ⟨A, c, rfl, _, _, hrd, _, _⟩ := hrow.form
  obtain ⟨ad, rfl, hadb, _⟩ := hrd.2 (by omega)
  obtain ⟨ln, hln⟩ : ∃ x, L'.length = x := ⟨_, rfl⟩
  have c0 := fun W (hb : Below w.heap.size w W) => row_at (f := sec) (s := 2) (fun _ => rfl) (Reads.more (Reads.below hrd hb) hb.size) hkY hYn (by decide) (u := .string m') (by rw [hy]; rfl)
  have c1 := fun W (hb : Below w.heap.size w W) => row_atI (f := sec) (s := 2) (fun _ => rfl) (Reads.more (Reads.below hrd hb) hb.size) hkY hYn 1 (by decide) (by decide) (u := .slice la ln lc) (by rw [hy, ← hln]; rfl)
  have HC := Lib.hid (fun W (hb : Below w.heap.size w W) => And.intro (c0 W hb) (And.intro (c1 W hb) (keepB hC.tab hb)))
  have CL := Lib.hid (fun W (hb : Below w.heap.size w W) => clone_lbs (c := lc) hln (by have := Reads.more (Reads.below hlab hb) hb.size; rw [hln] at this; exact this) (by have := hsm.2.1; simp only at this; omega))
  have h1 : ¬ ((i : Int) < 1) := by omega
  have h1N : ¬ i < 1 := by omega
  have h2 : ¬ ((n : Int) < (i : Int)) := by omega
  have h2N : ¬ n < i := by omega
  have h1D : decide ((i : Int) < 1) = false := decide_eq_false h1
  have h2D : decide ((n : Int) < (i : Int)) = false := decide_eq_false h2
  have h2E : decide (n < i) = false := decide_eq_false h2N
  have h3 : (k : Int) < (n : Int) := by omega
  have hkn : k < n := by omega
  have hw : IntKind.i64.wrap ((i : Int) - 1) = (k : Int) := by rw [IntKind.wrap_i64]; omega
  have HLn := Lib.hid hln
  clear hk hi hx hl hn hYn hkY hy hlab hsm hrow hrd hadb c0 c1 hC hY hln
  go_enter Try.func63, Try.ntmps63
  go_wp2_with fail
  refine (CR.out _ HB.out).mono ?_
  rintro e w1 ⟨rfl, rfl⟩
  obtain ⟨c0, c1, htb⟩ := HC.out _ HB.out
  have k0 := cellAt (o := 0) (v := .slice (some ad) n c) htb rfl
  clear htb
  go_wp2_with fail
  have HY := Lib.hid (newB (w.alloc (.cells #[.string ⟨#[]⟩, .slice none 0 0] 32)) (.cells #[.string m', .slice la ln lc] 32))
  rw [alloc_size] at HY
  have HX2 := Lib.hid (keepA HX.out (.cells #[.string m', .slice la ln lc] 32))
  have HB2 := Lib.hid (below_alloc HB.out (.cells #[.string m', .slice la ln lc] 32))
  clear c0 c1 k0
  refine (CL.out _ HB2.out).mono ?_
  rintro e w3 ⟨v, rfl, hv, hb3⟩
  obtain ⟨vA, vc, rfl⟩ := or_form hv
  have HB3 := Lib.hid (HB2.out.trans (hb3.mono HB2.out.size))
  have HV := Lib.hid hv
  have HX3 := Lib.hid (keepB HX2.out hb3)
  have HY3 := Lib.hid (keepB HY.out hb3)
  clear hv hb3
  have y0 := cellAt (o := 0) HY3.out rfl
  have y1 := cellAt (o := 1) HY3.out rfl
  have gy := freeAt 1 HY3.out
  have x0 := cellAt (o := 0) HX3.out rfl
  have x1 := cellAt (o := 1) HX3.out rfl
  have gx0 := freeAt 0 HX3.out
  have gx1 := freeAt 1 HX3.out
  have hne : ¬ w.heap.size + 1 = w.heap.size := by omega
  have hne2 : ¬ w.heap.size = w.heap.size + 1 := by omega
  go_wp2_with fail
  have HO := ((Only.set w3 (w.heap.size + 1) 1 (.slice vA ln vc)).mono (fun k _ e => (.inl e : k = w.heap.size + 1 ∨ k = w.heap.size))).trans (((Only.set (w3.setCell ⟨w.heap.size + 1, 1, none⟩ (.slice vA ln vc)) w.heap.size 0 (.string m')).mono (fun k _ e => .inr e)).trans ((Only.set ((w3.setCell ⟨w.heap.size + 1, 1, none⟩ (.slice vA ln vc)).setCell ⟨w.heap.size, 0, none⟩ (.string m')) w.heap.size 1 (.slice vA ln vc)).mono (fun k _ e => .inr e)))
  have HR := or_only HV.out HO (fun g hg => by
    have := (World.ownsRow.lt HV.out g hg).1
    rw [alloc_size, alloc_size] at this
    omega)
  exact bodyPost_ret (v := .tuple #[.agg #[.string m', .slice vA ln vc], .bool true]) (by simp only [results, Try.results63]; go_simp) rfl ⟨vA, vc, by rw [HLn.out], by rw [HLn.out]; exact or_base HR (by rw [alloc_size, alloc_size]; omega), HB3.out.trans (HO.below (fun k e => by rcases e with e | e <;> omega) HB3.out.size)⟩
end Go.Proofs.Ytangcgfchalnaaa

/- 'x.f = append(x.f, v)' in a region whose order is open: the new element's block and the append as steps of their own. No program. -/
namespace Go.Proofs.Ytangcgfchalnaaa
open Go.RowKit
/-- What lasts while blocks of S are written: some blocks, as they are. -/
structure FC (wr : World) (S : Nat → Prop) (fs : List (Nat × Obj)) (W : World) : Prop where
  only : Only S wr W
  facts : ∀ p ∈ fs, W.heap[p.1]? = some p.2
section
variable {wr w w' W : World} {S : Nat → Prop} {fs : List (Nat × Obj)}
theorem FC.get (h : FC wr S fs W) (i : Nat) {b : Nat} {o : Obj} (hi : fs[i]? = some (b, o)) : W.heap[b]? = some o := h.facts (b, o) (List.mem_of_getElem? hi)
theorem FC.stab : Stab (FC wr S fs) := fun _ _ h hb => ⟨h.only.trans (Only.of_below hb), fun p hp => keepB (h.facts p hp) hb⟩
theorem FC.step (hn : ∀ p ∈ fs, ¬ S p.1) : ∀ w w', FC wr S fs w → Only S w w' → FC wr S fs w' := fun _ _ h ho => ⟨h.only.trans ho, fun p hp => ho.get (h.facts p hp) (hn p hp)⟩
end
def D0 (wr : World) (W : World) : Prop := Below wr.heap.size wr W
def D6 (wr : World) (e : TypeId) (cs : Array Value) (v : Value) (W : World) : Prop := Below wr.heap.size wr W ∧ ∃ H, wr.heap.size ≤ H ∧ v = .slice (some ⟨H, 0, none⟩) 1 1 ∧ W.heap[H]? = some (.cells cs e (0, 0))
def D7 (wr : World) (S : Nat → Prop) (e : TypeId) (size n : Nat) (xs : List Value) (v : Value) (W : World) : Prop := ∃ w2, Below wr.heap.size wr w2 ∧ RowAt W (fun k => S k ∨ k = w2.heap.size) e size v n xs ∧ Only S w2 W
theorem D0.stab (wr : World) : Stab (D0 wr) := fun _ _ (h : Below _ _ _) hb => show Below _ _ _ from h.trans (hb.mono h.size)
theorem D6.stab (wr : World) (e : TypeId) (cs : Array Value) (v : Value) : Stab (D6 wr e cs v) := fun _ _ h hb => by
  obtain ⟨h1, H, h2, h3, h4⟩ := h
  exact ⟨h1.trans (hb.mono h1.size), H, h2, h3, keepB h4 hb⟩
theorem D7.stab (wr : World) (S : Nat → Prop) (e : TypeId) (size n : Nat) (xs : List Value) (v : Value) : Stab (D7 wr S e size n xs v) := fun _ _ h hb => by
  obtain ⟨w2, h1, h2, h3⟩ := h
  exact ⟨w2, h1, h2.below hb, h3.trans (Only.of_below hb)⟩
section
variable {Φ : Phi} {P : Program} {ts : List Value} {df : List Deferred} {E : (World → Prop) → (World → Prop) → Act → Prop} {r : List (Nat × Bool)} {C : World → Prop} {i : Nat} {o : Oper} {lo : List Oper}
theorem bs_res {wr w : World} {S : Nat → Prop} {fs : List (Nat × Obj)} {e : TypeId} {cs : Array Value} (hc : FC wr S fs w) (hd : Below wr.heap.size wr w) {v : Value} (hv : v = .slice (some ⟨w.heap.size, 0, none⟩) 1 1) :
    stepRes P (stepR (FC wr S fs) (fun _ => Triv) (D6 wr e cs)) (.ok (.value v) (w.alloc (.cells cs e))) := by
  subst hv
  exact ⟨FC.stab _ _ hc (below_alloc (Below.refl _ _) _), triv _, below_alloc hd _, w.heap.size, hd.size, rfl, newB _ _⟩
theorem wt_bs {wr : World} {S : Nat → Prop} {fs : List (Nat × Obj)} (e : TypeId) (cs : Array Value) (hφ : Φ i = none) (ho : nthO lo i = some o) (hw : wantB lo ts o.guard = true)
    (hl : ∀ w, FC wr S fs w → Below wr.heap.size wr w → stepRes P (stepR (FC wr S fs) (fun _ => Triv) (D6 wr e cs)) ((execOp (Act.eval { tmps := ts.toArray, defers := df }) o).run P w))
    (h : ∀ K : (World → Prop) → (World → Prop) → Act → Prop, Shut (∀ C D a, WpT Φ P lo E r C D a → K C D a) → ∀ v, K (fun w => FC wr S fs w ∧ Triv w) (D6 wr e cs v) (Act.put { tmps := ts.toArray, defers := df } o.dst v)) :
    WpT Φ P lo E ((i, true) :: r) (FC wr S fs) (D0 wr) { tmps := ts.toArray, defers := df } :=
  wt_step hφ (fun _ => Triv) (D6 wr e cs) (fun _ _ _ _ _ => triv _) (fun v => D6.stab wr e cs v) ho hw hl h
/-- The append's run: what it leaves. -/
theorem ap_run {wr w : World} {S : Nat → Prop} {fs : List (Nat × Obj)} {cs : Array Value} (t ty e : TypeId) (it : TypeInfo) (z : Value) (size bytes : Nat) (ht : P.underlying t = some (.slice e)) (hi : P.info? e = some it) (hz : it.zero = some z)
    (hsize : it.size = size) (hby : it.bytes = bytes) (hzs : z.cells.size = size) {F : Nat → Prop} {rv : Value} {n : Nat} {xs : List Value} (hrow : RowAt wr F e size rv n xs) (hS : ∀ k, S k ↔ rv.ownBlock = some k) (hn : ∀ p ∈ fs, ¬ S p.1)
    (hl : cs.toList.length = size) (h1 : ∀ u ∈ cs.toList, u.oneCell' = true) (h63 : n + 1 ≤ 1099511627776) (hbb : bytes ≤ 64) {v : Value} (hc : FC wr S fs w ∧ Triv w) (hd : D6 wr e cs v w) :
    ∃ u w', (Builtin.append_ #[t, t] ty #[rv, v]).run P w = .ok u w' ∧ stepR (fun w => FC wr S fs w ∧ Triv w) (fun _ => Triv) (D7 wr S e size (n + 1) (xs ++ cs.toList)) u w' := by
  obtain ⟨hb, H, h2, rfl, h4⟩ := hd
  obtain ⟨u, w', hr, g1, g2, _⟩ := run_append_row (P := P) w t ty e it z size bytes ht hi hz hsize hby hzs F rv n xs (hrow.below hb) ⟨H, 0, none⟩ 1 1 cs.toList (by omega) (by rw [hl, Nat.one_mul]) (World.news_of_block h4) h1 (by unfold maxLen; omega) (by
    have : (n + 1) * bytes ≤ 1099511627776 * 64 := Nat.mul_le_mul h63 hbb
    omega)
  have g3 : Only S w w' := g2.mono (fun k _ hk => (hS k).2 hk)
  refine ⟨u, w', hr, ⟨FC.step hn _ _ hc.1 g3, triv _⟩, triv _, w, hb, g1.weak (fun k _ hk => hk.imp (hS k).2 id), g3⟩
theorem st_ap {R : Value → World → Prop} {o : Oper} {a : Act} {w w' : World} {t : TypeId} {rv v u : Value} (s x : Operand) (hop : o.op = .call { callee := .builtin .append, args := #[s, x], argTypes := #[t, t] }) (hs : a.eval s = rv) (hx : a.eval x = v)
    (hrun : (Builtin.append_ #[t, t] o.type #[rv, v]).run P w = .ok u w') (hres : R u w') : stepRes P R ((execOp a.eval o).run P w) := by
  unfold execOp
  simp only [hop, resolve, invoke, builtin, Sem.run_bind, Sem.run_pure, Result.andThen_ok, List.map_toArray, List.map_cons, List.map_nil, hs, hx, hrun]
  exact hres
theorem wt_ap {wr : World} {S : Nat → Prop} {fs : List (Nat × Obj)} {e : TypeId} {cs : Array Value} {v : Value} (size n : Nat) (xs : List Value) (hφ : Φ i = none) (ho : nthO lo i = some o) (hw : wantB lo ts o.guard = true)
    (hl : ∀ w, (FC wr S fs w ∧ Triv w) → D6 wr e cs v w → stepRes P (stepR (fun w => FC wr S fs w ∧ Triv w) (fun _ => Triv) (D7 wr S e size n xs)) ((execOp (Act.eval { tmps := ts.toArray, defers := df }) o).run P w))
    (h : ∀ K : (World → Prop) → (World → Prop) → Act → Prop, Shut (∀ C D a, WpT Φ P lo E r C D a → K C D a) → ∀ u, K (fun w => (FC wr S fs w ∧ Triv w) ∧ Triv w) (D7 wr S e size n xs u) (Act.put { tmps := ts.toArray, defers := df } o.dst u)) :
    WpT Φ P lo E ((i, true) :: r) (fun w => FC wr S fs w ∧ Triv w) (D6 wr e cs v) { tmps := ts.toArray, defers := df } :=
  wt_step hφ (fun _ => Triv) (D7 wr S e size n xs) (fun _ _ _ _ _ => triv _) (fun u => D7.stab wr S e size n xs u) ho hw hl h
end
end Go.Proofs.Ytangcgfchalnaaa
