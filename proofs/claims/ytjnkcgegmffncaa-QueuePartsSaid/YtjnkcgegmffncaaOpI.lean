/- An argument that is a slice of items: opened. -/
import Derived.Test.YtjnkcgegmffncaaQLw
import Derived.Test.YtjnkcgegmffncaaLaw
import Derived.Deep.Slices
import Derived.ChangeSlices
namespace Go.Proofs.Ytjnkcgegmffncaa
open Go.ChangeShapes Go.WideShapes Go.ChangeAt Go.RowKit Go.Joins Go.Deep
theorem opCell_lt {w : World} {a : Addr} {v : Value} (h : w.cell? a = some v) : a.block < w.heap.size := by
  rcases Nat.lt_or_ge a.block w.heap.size with h1 | h1
  · exact h1
  · simp [World.cell?, Array.getElem?_eq_none h1] at h
theorem opWf {n : Int} (h : (Lit.int .i64 n).wf = true) : In64 n := by
  simp [Lit.wf, IntKind.min, IntKind.max, IntKind.signed, IntKind.bits] at h
  exact h
section
variable {H : Type} {enc : TypeId × Value → H} {w : World} {base : Nat} {spare : Nat → Bool} {held : Bool}
/-- A slice whose elements open. -/
theorem open_rows {α : Type} [Inhabited α] {f : α → List Value} {s : Nat} {T ST : TypeId} (ht : Try.prog.underlying ST = some (.slice T)) (hc : Try.prog.cellsOf T = s) (hs0 : 0 < s) (hs : ∀ x, (f x).length = s) {R : α → Prop}
    (hel : ∀ n cs x, DataW.trod enc Try.prog w base spare held n T cs = some x → ∃ a : α, cs = f a ∧ R a) {fuel : Nat} {cs : List Value} {x : DataW H × List MemPlace} (h : DataW.trod enc Try.prog w base spare held fuel ST cs = some x) :
    ∃ (A : Option Addr) (cap : Nat) (L : List α), cs = [.slice A L.length cap] ∧ Reads w w.heap.size s A L.length (rowF f L) ∧ (0 < L.length → ∀ ad, A = some ad → ad.block < w.heap.size) ∧ ∀ a ∈ L, R a := by
  rcases open_slice ht h with ⟨hcs, _⟩ | ⟨a, len, cap, m, n, D, Pl, hcs, hb, hl, hm, hmm, hx, hi⟩
  · exact ⟨none, 0, [], hcs, ⟨by simp [rowF], fun h => absurd h (by simp)⟩, fun h => absurd h (by simp), by simp⟩
  · have hlm : len ≤ m := by rw [hmm]; split <;> omega
    have each : ∀ i, ∃ e : α, i < len → R e ∧ ∀ r u, (f e)[r]? = some u → w.cell? (a.add (i * s + r)) = some u := fun i => by
      by_cases hi0 : i < len
      · obtain ⟨cs', h1, h2⟩ := hi i (by omega)
        rw [hc] at h1
        obtain ⟨_, hlen, hcell⟩ := World.cells?_some h1
        obtain ⟨e, he, hR⟩ := hel _ _ _ h2
        refine ⟨e, fun _ => ⟨hR, fun r u hu => ?_⟩⟩
        have hr : r < s := by
          rcases Nat.lt_or_ge r s with h | h
          · exact h
          · rw [List.getElem?_eq_none (by rw [hs]; exact h)] at hu; cases hu
        have := hcell r (by omega)
        rw [add_of_add] at this
        rw [this, he]; exact hu
      · exact ⟨default, fun h => absurd h hi0⟩
    let L := (List.range len).map fun i => Classical.choose (each i)
    have hLl : L.length = len := by simp [L]
    have hL : ∀ i (h : i < L.length), R L[i] ∧ ∀ r u, (f L[i])[r]? = some u → w.cell? (a.add (i * s + r)) = some u := fun i h => by
      have h' : i < len := by rw [← hLl]; exact h
      have := Classical.choose_spec (each i) h'
      simpa [L] using this
    have hcell : ∀ j u, (rowF f L)[j]? = some u → w.cell? (a.add j) = some u := fun j u hu => by
      have hj : j < L.length * s := by
        rcases Nat.lt_or_ge j (L.length * s) with h | h
        · exact h
        · rw [List.getElem?_eq_none (by rw [rowF_len hs]; exact h)] at hu; cases hu
      have hi1 : j / s < L.length := Nat.div_lt_of_lt_mul (by rw [Nat.mul_comm]; exact hj)
      have hr : j % s < s := Nat.mod_lt _ hs0
      have he : j / s * s + j % s = j := by rw [Nat.mul_comm]; exact Nat.div_add_mod j s
      have := (hL (j / s) hi1).2 (j % s) u (by rw [← rowF_get hs L (j / s) hi1 (j % s) hr, he]; exact hu)
      rw [he] at this; exact this
    have hlt : 0 < L.length → a.block < w.heap.size := fun h0 => by
      have h1 : 0 < (rowF f L).length := by rw [rowF_len hs]; exact Nat.mul_pos h0 hs0
      have := opCell_lt (hcell 0 _ (List.getElem?_eq_getElem h1))
      rwa [block_of_add] at this
    refine ⟨some a, cap, L, by rw [hcs, hLl], ⟨rowF_len hs L, fun h0 => ⟨a, rfl, hlt h0, hcell⟩⟩, fun h0 ad e => by cases e; exact hlt h0, fun e he => ?_⟩
    obtain ⟨i, hi, rfl⟩ := List.mem_iff_getElem.1 he
    exact (hL i hi).1
/-! ### Labels -/
abbrev lbc (x : Lb) : List Value := [.string x.1, .string x.2]
theorem lbF_row : ∀ L : List Lb, lbF L = rowF lbc L
  | [] => rfl
  | x :: r => by simp only [lbF, rowF, lbF_row r]; rfl
theorem cellsLb : Try.prog.cellsOf 76 = 2 := by kernel_rfl
theorem cellsStr : Try.prog.cellsOf 9 = 1 := by kernel_rfl
theorem undLb : ∃ f0 f1 : Field, Try.prog.underlying 76 = some (.struct #[f0, f1]) ∧ f0.offset = 0 ∧ f1.offset = 1 ∧ f0.type = 9 ∧ f1.type = 9 := ⟨_, _, Try.underlying76, rfl, rfl, rfl, rfl⟩
set_option maxRecDepth 100000 in
theorem open_lb {n : Nat} {cs : List Value} {x : DataW H × List MemPlace} (h : DataW.trod enc Try.prog w base spare held n 76 cs = some x) : ∃ a : Lb, cs = lbc a := by
  obtain ⟨f0, f1, hu, o0, o1, t0, t1⟩ := undLb
  obtain ⟨xs, k, hk, hxy, hlen, hxl, hg⟩ := DataW.trod_struct hu h
  rw [cellsLb] at hlen
  match xs, hxl, cs, hlen with
  | [y0, y1], _, [v0, v1], _ =>
    have g0 := hg 0 f0 rfl
    have g1 := hg 1 f1 rfl
    simp [o0, o1, t0, t1, cellsStr] at g0 g1
    obtain ⟨s0, q0, _, _⟩ := DataW.trod_string Try.underlying9 g0
    obtain ⟨s1, q1, _, _⟩ := DataW.trod_string Try.underlying9 g1
    simp at q0 q1
    subst q0 q1
    exact ⟨(s0, s1), rfl⟩
theorem open_lbs {n : Nat} {cs : List Value} {x : DataW H × List MemPlace} (h : DataW.trod enc Try.prog w base spare held n 29 cs = some x) : ∃ p : Ls, cs = [lsV p] ∧ RdLs w p ∧ (0 < p.2.2.length → ∀ ad, p.1 = some ad → ad.block < w.heap.size) := by
  obtain ⟨A, cap, L, h1, h2, h3, _⟩ := open_rows (f := lbc) (R := fun _ => True) Try.underlying29 cellsLb (by decide) (fun _ => rfl) (fun n cs x h => by obtain ⟨a, e⟩ := open_lb h; exact ⟨a, e, trivial⟩) h
  exact ⟨(A, cap, L), h1, by show Reads w w.heap.size 2 A L.length (lbF L); rw [lbF_row]; exact h2, h3⟩
/-! ### Changes -/
theorem cellsCh : Try.prog.cellsOf 71 = 4 := by kernel_rfl
theorem cellsVal : Try.prog.cellsOf 69 = 2 := by kernel_rfl
theorem cellsI64 : Try.prog.cellsOf 2 = 1 := by kernel_rfl
theorem cellsInt : Try.prog.cellsOf 3 = 1 := by kernel_rfl
theorem cellsBool : Try.prog.cellsOf 4 = 1 := by kernel_rfl
theorem cellsLs : Try.prog.cellsOf 29 = 1 := by kernel_rfl
theorem cellsCs : Try.prog.cellsOf 34 = 1 := by kernel_rfl
theorem undVal : ∃ f0 f1 : Field, Try.prog.underlying 69 = some (.struct #[f0, f1]) ∧ f0.offset = 0 ∧ f1.offset = 1 ∧ f0.type = 2 ∧ f1.type = 4 := ⟨_, _, Try.underlying69, rfl, rfl, rfl, rfl⟩
theorem undCh : ∃ f0 f1 f2 : Field, Try.prog.underlying 71 = some (.struct #[f0, f1, f2]) ∧ f0.offset = 0 ∧ f1.offset = 1 ∧ f2.offset = 3 ∧ f0.type = 29 ∧ f1.type = 69 ∧ f2.type = 4 := ⟨_, _, _, Try.underlying71, rfl, rfl, rfl, rfl, rfl, rfl⟩
set_option maxRecDepth 100000 in
theorem open_v2 {n : Nat} {v0 v1 : Value} {x : DataW H × List MemPlace} (h : DataW.trod enc Try.prog w base spare held n 69 [v0, v1] = some x) : ∃ (k : Int) (b : Bool), v0 = .int .i64 k ∧ v1 = .bool b ∧ In64 k := by
  obtain ⟨f0, f1, hu, o0, o1, t0, t1⟩ := undVal
  obtain ⟨xs, k, hk, hxy, hlen, hxl, hg⟩ := DataW.trod_struct hu h
  match xs, hxl with
  | [y0, y1], _ =>
    have g0 := hg 0 f0 rfl
    have g1 := hg 1 f1 rfl
    simp [o0, o1, t0, t1, cellsI64, cellsBool] at g0 g1
    obtain ⟨x0, q0, _, w0⟩ := DataW.trod_int Try.underlying2 g0
    obtain ⟨x1, q1, _⟩ := DataW.trod_bool Try.underlying4 g1
    simp at q0 q1
    exact ⟨x0, x1, q0, q1, opWf w0⟩
def LsIn (w : World) (p : Ls) : Prop := RdLs w p ∧ (0 < p.2.2.length → ∀ ad, p.1 = some ad → ad.block < w.heap.size)
set_option maxRecDepth 100000 in
theorem open_ch {n : Nat} {cs : List Value} {x : DataW H × List MemPlace} (h : DataW.trod enc Try.prog w base spare held n 71 cs = some x) : ∃ a : Cg, cs = chc a ∧ (LsIn w a.1 ∧ In64 a.2.1) := by
  obtain ⟨f0, f1, f2, hu, o0, o1, o2, t0, t1, t2⟩ := undCh
  obtain ⟨xs, k, hk, hxy, hlen, hxl, hg⟩ := DataW.trod_struct hu h
  rw [cellsCh] at hlen
  match xs, hxl, cs, hlen with
  | [y0, y1, y2], _, [v0, v1, v2, v3], _ =>
    have g0 := hg 0 f0 rfl
    have g1 := hg 1 f1 rfl
    have g2 := hg 2 f2 rfl
    simp [o0, o1, o2, t0, t1, t2, cellsLs, cellsVal, cellsBool] at g0 g1 g2
    obtain ⟨p, q0, hp⟩ := open_lbs g0
    obtain ⟨k1, b1, rfl, rfl, w1⟩ := open_v2 g1
    obtain ⟨b2, q2, _⟩ := DataW.trod_bool Try.underlying4 g2
    simp at q0 q2
    subst q0 q2
    exact ⟨(p, k1, b1, b2), rfl, hp, w1⟩
def CsIn (w : World) (A : Option Addr) (C : List Cg) : Prop := Reads w w.heap.size 4 A C.length (rowF chc C) ∧ (0 < C.length → ∀ ad, A = some ad → ad.block < w.heap.size) ∧ ∀ a ∈ C, LsIn w a.1 ∧ In64 a.2.1
theorem open_chs {n : Nat} {cs : List Value} {x : DataW H × List MemPlace} (h : DataW.trod enc Try.prog w base spare held n 34 cs = some x) : ∃ (A : Option Addr) (cap : Nat) (C : List Cg), cs = [.slice A C.length cap] ∧ CsIn w A C := by
  obtain ⟨A, cap, C, h1, h2, h3, h4⟩ := open_rows (f := chc) (R := fun a => LsIn w a.1 ∧ In64 a.2.1) Try.underlying34 cellsCh (by decide) (fun _ => rfl) (fun n cs x h => open_ch h) h
  exact ⟨A, cap, C, h1, h2, h3, h4⟩
/-! ### Items -/
theorem cellsIt : Try.prog.cellsOf 38 = 8 := by kernel_rfl
theorem cellsSm : Try.prog.cellsOf 33 = 4 := by kernel_rfl
theorem cellsSr : Try.prog.cellsOf 31 = 2 := by kernel_rfl
theorem cellsBt : Try.prog.cellsOf 36 = 2 := by kernel_rfl
theorem undSr : ∃ f0 f1 : Field, Try.prog.underlying 31 = some (.struct #[f0, f1]) ∧ f0.offset = 0 ∧ f1.offset = 1 ∧ f0.type = 9 ∧ f1.type = 29 := ⟨_, _, Try.underlying31, rfl, rfl, rfl, rfl⟩
theorem undSm : ∃ f0 f1 f2 : Field, Try.prog.underlying 33 = some (.struct #[f0, f1, f2]) ∧ f0.offset = 0 ∧ f1.offset = 2 ∧ f2.offset = 3 ∧ f0.type = 31 ∧ f1.type = 2 ∧ f2.type = 2 := ⟨_, _, _, Try.underlying33, rfl, rfl, rfl, rfl, rfl, rfl⟩
theorem undBt : ∃ f0 f1 : Field, Try.prog.underlying 36 = some (.struct #[f0, f1]) ∧ f0.offset = 0 ∧ f1.offset = 1 ∧ f0.type = 2 ∧ f1.type = 34 := ⟨_, _, Try.underlying36, rfl, rfl, rfl, rfl⟩
theorem undIt : ∃ f0 f1 f2 f3 : Field, Try.prog.underlying 38 = some (.struct #[f0, f1, f2, f3]) ∧ f0.offset = 0 ∧ f1.offset = 1 ∧ f2.offset = 5 ∧ f3.offset = 6 ∧ f0.type = 3 ∧ f1.type = 33 ∧ f2.type = 2 ∧ f3.type = 36 := ⟨_, _, _, _, Try.underlying38, rfl, rfl, rfl, rfl, rfl, rfl, rfl, rfl⟩
set_option maxRecDepth 100000 in
theorem open_sm {n : Nat} {v0 v1 v2 v3 : Value} {x : DataW H × List MemPlace} (h : DataW.trod enc Try.prog w base spare held n 33 [v0, v1, v2, v3] = some x) : ∃ (m : ByteArray) (p : Ls) (t k : Int), v0 = .string m ∧ v1 = lsV p ∧ v2 = .int .i64 t ∧ v3 = .int .i64 k ∧ LsIn w p ∧ In64 k := by
  obtain ⟨f0, f1, f2, hu, o0, o1, o2, t0, t1, t2⟩ := undSm
  obtain ⟨xs, k, hk, hxy, hlen, hxl, hg⟩ := DataW.trod_struct hu h
  match xs, hxl with
  | [y0, y1, y2], _ =>
    have g0 := hg 0 f0 rfl
    have g1 := hg 1 f1 rfl
    have g2 := hg 2 f2 rfl
    simp [o0, o1, o2, t0, t1, t2, cellsSr, cellsI64] at g0 g1 g2
    obtain ⟨x1, q1, _, w1⟩ := DataW.trod_int Try.underlying2 g1
    obtain ⟨x2, q2, _, w2⟩ := DataW.trod_int Try.underlying2 g2
    obtain ⟨e0, e1, hu, o0, o1, t0, t1⟩ := undSr
    obtain ⟨ys, k, hk, hxy, hlen, hyl, hg⟩ := DataW.trod_struct hu g0
    match ys, hyl with
    | [z0, z1], _ =>
      have j0 := hg 0 e0 rfl
      have j1 := hg 1 e1 rfl
      simp [o0, o1, t0, t1, cellsStr, cellsLs] at j0 j1
      obtain ⟨s0, r0, _, _⟩ := DataW.trod_string Try.underlying9 j0
      obtain ⟨p, r1, hp⟩ := open_lbs j1
      simp at q1 q2 r0 r1
      exact ⟨s0, p, x1, x2, r0, r1, q1, q2, hp, opWf w2⟩
set_option maxRecDepth 100000 in
theorem open_bt {n : Nat} {v0 v1 : Value} {x : DataW H × List MemPlace} (h : DataW.trod enc Try.prog w base spare held n 36 [v0, v1] = some x) : ∃ (bt : Int) (A : Option Addr) (cap : Nat) (C : List Cg), v0 = .int .i64 bt ∧ v1 = .slice A C.length cap ∧ CsIn w A C := by
  obtain ⟨f0, f1, hu, o0, o1, t0, t1⟩ := undBt
  obtain ⟨xs, k, hk, hxy, hlen, hxl, hg⟩ := DataW.trod_struct hu h
  match xs, hxl with
  | [y0, y1], _ =>
    have g0 := hg 0 f0 rfl
    have g1 := hg 1 f1 rfl
    simp [o0, o1, t0, t1, cellsI64, cellsCs] at g0 g1
    obtain ⟨x0, q0, _, w0⟩ := DataW.trod_int Try.underlying2 g0
    obtain ⟨A, cap, C, q1, hC⟩ := open_chs g1
    simp at q0 q1
    exact ⟨x0, A, cap, C, q0, q1, hC⟩
/-- An item's memory, and its numbers. -/
def ItR (w : World) (x : It) : Prop := LsIn w x.2.2.1 ∧ In64 x.2.2.2.2.1 ∧ CsIn w x.2.2.2.2.2.2.2.1 x.2.2.2.2.2.2.2.2.2
set_option maxRecDepth 100000 in
theorem open_it {n : Nat} {cs : List Value} {x : DataW H × List MemPlace} (h : DataW.trod enc Try.prog w base spare held n 38 cs = some x) : ∃ a : It, cs = itc a ∧ ItR w a := by
  obtain ⟨f0, f1, f2, f3, hu, o0, o1, o2, o3, t0, t1, t2, t3⟩ := undIt
  obtain ⟨xs, k, hk, hxy, hlen, hxl, hg⟩ := DataW.trod_struct hu h
  rw [cellsIt] at hlen
  match xs, hxl, cs, hlen with
  | [y0, y1, y2, y3], _, [v0, v1, v2, v3, v4, v5, v6, v7], _ =>
    have g0 := hg 0 f0 rfl
    have g1 := hg 1 f1 rfl
    have g2 := hg 2 f2 rfl
    have g3 := hg 3 f3 rfl
    simp [o0, o1, o2, o3, t0, t1, t2, t3, cellsInt, cellsSm, cellsI64, cellsBt] at g0 g1 g2 g3
    obtain ⟨x0, q0, _, w0⟩ := DataW.trod_int Try.underlying3 g0
    obtain ⟨m, p, t, k, rfl, rfl, rfl, rfl, hp, hk⟩ := open_sm g1
    obtain ⟨x2, q2, _, w2⟩ := DataW.trod_int Try.underlying2 g2
    obtain ⟨bt, A, cap, C, rfl, rfl, hC⟩ := open_bt g3
    simp at q0 q2
    subst q0 q2
    exact ⟨(x0, m, p, t, k, x2, bt, A, cap, C), rfl, hp, hk, hC⟩
set_option maxRecDepth 100000 in
theorem open_items {r : Reach} {b0 : Nat} {v : Value} {d : DataW H} {p : List MemPlace} (hv : Value.okWide Try.prog w r b0 22 v) (h : DataW.Trod enc Try.prog w base spare held 22 v d p) :
    ∃ (A : Option Addr) (X : List It) (cap : Nat), v = .slice A X.length cap ∧ RdI0 w (fun k => k < w.heap.size) A X.length X ∧ ∀ x ∈ X, In64 x.2.2.2.2.1 ∧ ∀ c ∈ x.2.2.2.2.2.2.2.2.2, In64 c.2.1 := by
  obtain ⟨A, n0, c0, rfl⟩ := okWide_slice Try.underlying22 hv
  obtain ⟨fuel, hf⟩ := h
  obtain ⟨A', cap, X, h1, h2, h3, h4⟩ := open_rows (f := itc) (R := ItR w) Try.underlying22 cellsIt (by decide) (fun _ => rfl) (fun n cs x h => open_it h) hf
  refine ⟨A', X, cap, by simpa [Value.cells] using h1, ⟨rfl, h2, h3, fun x hx => ?_⟩, fun x hx => ⟨(h4 x hx).2.1, fun c hc => ((h4 x hx).2.2.2.2 c hc).2⟩⟩
  obtain ⟨g1, g2, g3, g4, g5⟩ := h4 x hx
  exact ⟨g1.1, ⟨rfl, g3, fun c hc => (g5 c hc).1.1⟩, fun h0 ad e => ⟨g1.2 h0 ad e, g1.2 h0 ad e⟩, fun h0 ad e => ⟨g4 h0 ad e, g4 h0 ad e⟩, fun c hc h0 ad e => ⟨(g5 c hc).1.2 h0 ad e, (g5 c hc).1.2 h0 ad e⟩⟩
end
end Go.Proofs.Ytjnkcgegmffncaa
