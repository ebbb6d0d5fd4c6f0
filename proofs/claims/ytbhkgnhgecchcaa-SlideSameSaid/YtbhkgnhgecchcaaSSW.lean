/- SlideSame, walked. -/
import Derived.Test.YtbhkgnhgecchcaaRdW
import Derived.Test.YtbhkgnhgecchcaaRsS
import Derived.Test.YtbhkgnhgecchcaaShL
import Derived.Test.YtbhkgnhgecchcaaOpA
import Derived.Test.YtbhkgnhgecchcaaWRo
namespace Go.Proofs.Ytbhkgnhgecchcaa
open Go.RowKit
/-- Points behind a bound. -/
def aftB (b : Int) (P : List Pt) : List Pt := P.filter fun p => decide (b < p.1)
theorem aftB_two {b c : Int} (h : b ≤ c) (P : List Pt) : aftB c (aftB b P) = aftB c P := by
  unfold aftB
  rw [List.filter_filter]
  congr 1
  funext p
  by_cases hp : c < p.1
  · simp [hp]; omega
  · simp [hp]
theorem aftB_snoc {b : Int} (P : List Pt) (p : Pt) (h : b < p.1) : aftB b (P ++ [p]) = aftB b P ++ [p] := by
  unfold aftB; rw [List.filter_append]; simp [h]
theorem ptsB_more : ∀ (P : List Pt) (a : Int), P.length ≤ (ptsB a P).length
  | [], _ => by simp [ptsB]
  | p :: P, a => by
    have := ptsB_more P p.1
    have h1 : 1 ≤ (numB (p.1 - a).toNat).length := by unfold numB; simp
    simp only [ptsB, List.length_append, List.length_cons]; omega
theorem slB_more (fn span t : Int) (P : List Pt) : P.length ≤ (slB fn span t P).length := by
  have := ptsB_more P 0
  unfold slB; simp only [List.length_append]; omega
theorem slB_most {fn span t : Int} {P : List Pt} (hk : okNew fn span) (h0 : 0 ≤ t) (h1 : t ≤ 1099511627776) (hP : Sane P) (hl : P.length ≤ 1000) : (slB fn span t P).length ≤ 1000000 := by
  unfold okNew at hk
  have n1 : (numB fn.toNat).length ≤ 9 := numB_len (by unfold N64; omega)
  have n2 : (numB span.toNat).length ≤ 9 := numB_len (by unfold N64; omega)
  have n3 : (numB t.toNat).length ≤ 9 := numB_len (by unfold N64; omega)
  have n4 : (numB P.length).length ≤ 9 := numB_len (by unfold N64; omega)
  have n5 := ptsB_len P 0 hP.nums (fun p hp => (hP.times p hp).2) (Int.le_refl _) (fun p hp => by have := (hP.times p hp).1; omega)
  simp only [slB, List.length_append]; omega
/-- A slide, and a row of all points, apart. -/
def Sam (w : World) (B : Nat) (fn span : Int) (s : Nat) (σ : Slst) (all : Value) (L : List Pt) : Prop := ∃ F : Nat → Prop, SlB w B s fn span σ F ∧ w.ownsRow B 54 3 all L.length (pcs L) ∧ ∀ g, all.ownBlock = some g → ¬ F g
section
variable {w w' : World} {B s m : Nat} {fn span : Int} {σ : Slst} {all : Value} {L : List Pt}
theorem Sam.below (h : Sam w B fn span s σ all L) (hb : Below w.heap.size w w') : Sam w' B fn span s σ all L := by
  obtain ⟨F, h1, h2, h3⟩ := h
  exact ⟨F, h1.below hb, own_below h2 hb, h3⟩
def SamP (w : World) (B : Nat) (fn span : Int) (s : Nat) (σ : Slst) (all : Value) (L : List Pt) (e : Ending) (w' : World) : Prop := e = .returned (.int .i64 0) ∧ Sam w' B fn span s σ all L ∧ Below B w w'
theorem Sam.op {r : Slst} {f : Nat} {args : Array Value} (h : Sam w B fn span s σ all L) (hop : ∀ F, SlB w B s fn span σ F → Calls Try.prog f args w (OpP B s fn span F (0, r) w)) :
    Calls Try.prog f args w (SamP w B fn span s r all L) := by
  obtain ⟨F, h1, h2, h3⟩ := h
  refine (hop F h1).mono fun e w' ⟨he, ⟨F', k1, k2⟩, ho⟩ => ⟨he, ⟨F', k1, ?_, fun g hg hf => ?_⟩, h1.bel ho⟩
  · exact ⟨h2.1, h2.2.imp id fun ⟨g, cap, cur, e1, e2, e3, e4⟩ => ⟨g, cap, cur, e1, e2, ho.get e3 (h3 g (by rw [e1]; rfl)), e4⟩⟩
  · rcases k2 g hf with hx | hx
    · exact h3 g hg hx
    · have := (World.ownsRow.lt h2 g hg).2; omega
theorem Sam.push (h : Sam w B fn span s σ all L) (hf : Fine σ m) (hm : m ≤ 1099511627774) (hs : 1 ≤ span ∧ span ≤ 1073741824) (t n : Int) (hn : In64 n) (h1 : 1 ≤ t) (h2 : t ≤ 1099511627776) (h3 : σ.time < t) :
    Calls Try.prog 11 #[.pointer (some ⟨s, 0, none⟩), .int .i64 t, .int .i64 n] w (SamP w B fn span s (aftP span σ t n) all L) :=
  h.op fun _ hF => push_b hF hf hm t n hn hs _ (stPush_aft h1 h2 h3)
theorem Sam.go (h : Sam w B fn span s σ all L) (hf : Fine σ m) (hm : m ≤ 1099511627775) (hs : 1 ≤ span ∧ span ≤ 1073741824) (t : Int) (h1 : 0 ≤ t) (h2 : t ≤ 1099511627776) (h3 : σ.time ≤ t) :
    Calls Try.prog 12 #[.pointer (some ⟨s, 0, none⟩), .int .i64 t] w (SamP w B fn span s (aftG span σ t) all L) :=
  h.op fun _ hF => go_b hF hf hm t hs _ (stGo_aft h1 h2 h3)
theorem Sam.value (h : Sam w B fn span s σ all L) (hf : Fine σ m) (hm : m ≤ 1099511627775) (v : Value) (hv : vvV fn σ.pts = v) : Calls Try.prog 10 #[.pointer (some ⟨s, 0, none⟩)] w fun e w' => e = .returned v ∧ Below w.heap.size w w' := by
  obtain ⟨F, h1, _⟩ := h
  exact value_b h1 hf hm v hv
theorem Sam.len (h : Sam w B fn span s σ all L) : Calls Try.prog 13 #[.pointer (some ⟨s, 0, none⟩)] w fun e w' => e = .returned (.int .i64 σ.pts.length) ∧ Below w.heap.size w w' := by
  obtain ⟨F, h1, _⟩ := h
  exact len_made h1.sl
theorem Sam.bytes (h : Sam w B fn span s σ all L) (hf : Fine σ m) (hm : m ≤ 1000000) (hk : okNew fn span) : Calls Try.prog 16 #[.pointer (some ⟨s, 0, none⟩)] w (ReadB w (slB fn span σ.time σ.pts)) := by
  obtain ⟨F, h1, _⟩ := h
  have h1 := h1.sl
  have t0 := hf.fit.t0
  have t1 := hf.fit.t1
  have hs := hf.fit.sane
  have hl := Nat.le_trans hf.len hm
  unfold okNew at hk
  generalize σ.time = t at *
  generalize σ.pts = P at *
  obtain ⟨f, rfl⟩ := Int.eq_ofNat_of_zero_le (show 0 ≤ fn by omega)
  obtain ⟨s, rfl⟩ := Int.eq_ofNat_of_zero_le (show 0 ≤ span by omega)
  obtain ⟨t, rfl⟩ := Int.eq_ofNat_of_zero_le t0
  exact bytes_made h1 hs (by omega) (by omega) (by omega) hl
theorem Sam.other {w0 : World} {s' : Nat} {τ : Slst} {F : Nat → Prop} (h : Sam w B fn span s σ all L) (hb : Below w.heap.size w w') (h0 : w.heap.size ≤ w0.heap.size) (hn : SlB w' w0.heap.size s' fn span τ F) : Sam w' B fn span s' τ all L := by
  obtain ⟨G, h1, h2, h3⟩ := h
  refine ⟨F, ⟨hn.sl, fun k hk => Nat.le_trans h1.le (Nat.le_trans h0 (hn.lo k hk)), hn.hi⟩, own_below h2 hb, fun g hg hf => ?_⟩
  have h4 := (World.ownsRow.lt h2 g hg).2
  have h5 := hn.lo g hf
  omega
theorem Sam.app {all' : Value} {L' : List Pt} (h : Sam w B fn span s σ all L) (ho : w'.ownsRow B 54 3 all' L'.length (pcs L')) (hg : w.grownBy w' all.ownBlock) (hv : all'.ownBlock = all.ownBlock ∨ all'.ownBlock = some w.heap.size) : Sam w' B fn span s σ all' L' := by
  obtain ⟨F, h1, h2, h3⟩ := h
  refine ⟨F, h1.keep (only_grown hg) (fun k hk _ e => h3 k e hk), ho, fun g hg' hf => ?_⟩
  rcases hv with e | e
  · rw [e] at hg'; exact h3 g hg' hf
  · rw [e] at hg'; cases hg'; exact Nat.lt_irrefl _ (h1.hi _ hf)
theorem Sam.all_ (h : Sam w B fn span s σ all L) : w.ownsRow B 54 3 all L.length (pcs L) := by obtain ⟨F, h1, h2, h3⟩ := h; exact h2
theorem Sam.le (h : Sam w B fn span s σ all L) : B ≤ w.heap.size := by obtain ⟨F, h1, h2, h3⟩ := h; exact h1.le
end
theorem rwin_own {w : World} {base : Nat} {v : Value} {P : List Pt} (h : w.ownsRow base 54 3 v P.length (pcs P)) (fn : Int) (hfn : 1 ≤ fn ∧ fn ≤ 6) (hn : ∀ p ∈ P, In64 p.2) (hl : P.length ≤ 1000000) :
    ∃ A c, v = .slice A P.length c ∧ ∀ W, Below w.heap.size w W → Calls Try.prog 27 #[.int .i64 fn, .slice A P.length c] W fun e w' => e = .returned (vvV fn P) ∧ Below W.heap.size W w' := by
  have h2 := own_at h
  rcases Nat.eq_zero_or_pos P.length with h0 | h0
  · obtain ⟨A, c, e, _⟩ := h2.form
    refine ⟨A, c, e, fun W _ => ?_⟩
    have hP0 : P = [] := List.eq_nil_of_length_eq_zero h0
    subst hP0
    exact rwindow_nil fn A c W
  · obtain ⟨g, o, c, e, _, _, hrd⟩ := h2.ad h0
    exact ⟨some ⟨g, o, none⟩, c, e, fun W hb => rwindow_any fn hfn g o c P W (RPt.below hrd hb) hn h0 hl⟩
theorem same_go {span t u : Int} {σ : Slst} {L : List Pt} (h : σ.pts = aftB (t - span) L) (hr : Rise σ.pts) (ht : t ≤ u) : (aftG span σ u).pts = aftB (u - span) L := by
  show gone (u - span) σ.pts = _
  rw [← filter_gone hr]
  show aftB (u - span) σ.pts = _
  rw [h, aftB_two (by omega)]
theorem same_push {span t u n : Int} {σ : Slst} {L : List Pt} (h : σ.pts = aftB (t - span) L) (hr : Rise (σ.pts ++ [(u, n)])) (ht : t ≤ u) : (aftP span σ u n).pts = aftB (u - span) (L ++ [(u, n)]) := by
  show gone (u - span) (σ.pts ++ [(u, n)]) = _
  rw [← filter_gone hr]
  show aftB (u - span) (σ.pts ++ [(u, n)]) = _
  have e : ∀ P Q : List Pt, aftB (u - span) (P ++ Q) = aftB (u - span) P ++ aftB (u - span) Q := fun P Q => List.filter_append ..
  rw [e, e, h, aftB_two (by omega)]
/-- What holds behind each call. -/
structure SmI (span u : Int) (i : Nat) (σ : Slst) (L : List Pt) : Prop where
  time : σ.time = u
  u0 : 0 ≤ u
  u1 : u ≤ 1000 * i
  sane : Sane L
  upto : ∀ p ∈ L, p.1 ≤ u
  len : L.length ≤ i
  pts : σ.pts = aftB (u - span) L
theorem SmI.zero (span : Int) : SmI span 0 0 ⟨0, [], 0⟩ [] := ⟨rfl, by omega, by omega, ⟨List.Pairwise.nil, by simp, by simp, by simp⟩, by simp, by simp, rfl⟩
theorem SmI.go {span t u : Int} {i c : Nat} {σ : Slst} {L : List Pt} (h : SmI span t i σ L) (hf : Fine σ c) (h1 : t < u) (h2 : u ≤ t + 1000) : SmI span u (i + 1) (aftG span σ u) L :=
  ⟨rfl, by have := h.u0; omega, by have := h.u1; omega, h.sane, fun p hp => by have := h.upto p hp; omega, by have := h.len; omega, same_go h.pts hf.fit.sane.rise (by omega)⟩
theorem SmI.push {span t u n : Int} {i c : Nat} {σ : Slst} {L : List Pt} (h : SmI span t i σ L) (hf : Fine σ c) (hc : c ≤ 1000) (h1 : t < u) (h2 : u ≤ t + 1000) (hn : In64 n) (hi : i ≤ 1000) : SmI span u (i + 1) (aftP span σ u n) (L ++ [(u, n)]) := by
  have a0 := h.u0
  have a1 := h.u1
  have hl := h.len
  refine ⟨rfl, by omega, by omega, h.sane.snoc h.upto h1 (by omega) (by omega) hn (by omega), fun p hp => ?_, by rw [List.length_append]; simp; omega, same_push h.pts ?_ (by omega)⟩
  · rcases List.mem_append.1 hp with hp | hp
    · have := h.upto p hp; omega
    · simp only [List.mem_singleton] at hp; subst hp; exact Int.le_refl _
  · have hk := hf.len
    exact (hf.fit.sane.snoc (t0 := t) (fun p hp => by have := hf.fit.upto p hp; have := h.time; omega) h1 (by omega) (by omega) hn (by omega)).rise
end Go.Proofs.Ytbhkgnhgecchcaa
