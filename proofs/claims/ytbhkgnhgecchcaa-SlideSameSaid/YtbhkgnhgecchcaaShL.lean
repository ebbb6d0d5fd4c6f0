/- Slides whose times are moved: plain law; three slides in one world. -/
import Derived.Test.YtbhkgnhgecchcaaSlU
import Derived.Test.YtbhkgnhgecchcaaStr
namespace Go.Proofs.Ytbhkgnhgecchcaa
open Go.RowKit
/-- All times moved. -/
def shP (d : Int) (P : List Pt) : List Pt := P.map fun p => (p.1 + d, p.2)
def shS (d : Int) (σ : Slst) : Slst := ⟨σ.time + d, shP d σ.pts, σ.k⟩
theorem shP_nil {d : Int} : shP d [] = [] := rfl
theorem shP_cons {d : Int} {p : Pt} {P : List Pt} : shP d (p :: P) = (p.1 + d, p.2) :: shP d P := rfl
theorem shP_len {d : Int} {P : List Pt} : (shP d P).length = P.length := List.length_map _
theorem sumN_sh {d : Int} : ∀ P : List Pt, sumN (shP d P) = sumN P
  | [] => rfl
  | p :: P => by rw [shP_cons, sumN, sumN, sumN_sh P]
theorem stepsN_sh {d : Int} : ∀ P : List Pt, stepsN (shP d P) = stepsN P
  | [] => rfl
  | [_] => rfl
  | p :: q :: P => by
    have := stepsN_sh (d := d) (q :: P)
    rw [shP_cons] at this
    rw [shP_cons, shP_cons, stepsN, stepsN, this]
theorem sfx_sh {d : Int} {sg : Bool} : ∀ P : List Pt, sfx sg (shP d P) = shP d (sfx sg P)
  | [] => rfl
  | p :: P => by
    have e : (shP d P).all (fun q => aheadN sg p.2 q.2) = P.all (fun q => aheadN sg p.2 q.2) := by
      unfold shP; rw [List.all_map]; rfl
    rw [shP_cons]
    simp only [sfx, e, sfx_sh P]
    split
    · rfl
    · rfl
theorem head_sh {d : Int} {P : List Pt} : (shP d P).head?.map (·.2) = P.head?.map (·.2) := by cases P <;> rfl
theorem last_sh {d : Int} {P : List Pt} : (shP d P).getLast?.map (·.2) = P.getLast?.map (·.2) := by
  unfold shP; rw [List.getLast?_map]; cases P.getLast? <;> rfl
theorem wv_sh {d fn : Int} {P : List Pt} : wv fn (shP d P) = wv fn P := by
  unfold wv; simp only [sumN_sh, stepsN_sh, sfx_sh, head_sh, last_sh, shP_len]
theorem vvV_sh {d fn : Int} {P : List Pt} : vvV fn (shP d P) = vvV fn P := by
  unfold vvV; rw [wv_sh]
  cases P with
  | nil => rfl
  | cons p P => rw [shP_cons, if_neg (by simp), if_neg (by simp)]
theorem gone_sh {d b : Int} : ∀ P : List Pt, gone (b + d) (shP d P) = shP d (gone b P)
  | [] => rfl
  | p :: P => by
    rw [shP_cons]
    by_cases h : p.1 ≤ b
    · rw [gone_yes h, gone_yes (show (p.1 + d, p.2).1 ≤ b + d by simp only; omega), gone_sh P]
    · rw [gone_no h, gone_no (show ¬ (p.1 + d, p.2).1 ≤ b + d by simp only; omega), shP_cons]
theorem gone_gone {b c : Int} (h : b ≤ c) : ∀ P : List Pt, gone c (gone b P) = gone c P
  | [] => rfl
  | p :: P => by
    by_cases hb : p.1 ≤ b
    · rw [gone_yes hb, gone_yes (show p.1 ≤ c by omega), gone_gone h P]
    · rw [gone_no hb]
theorem stPush_yes {span : Int} {σ : Slst} {t n : Int} (h : pushE σ.time t = 0) : stPush span σ t n = (0, ⟨t, gone (t - span) (σ.pts ++ [(t, n)]), σ.k + 1⟩) := by unfold stPush; rw [if_pos h]
theorem stGo_yes {span : Int} {σ : Slst} {t : Int} (h : goE σ.time t = 0) : stGo span σ t = (0, ⟨t, gone (t - span) σ.pts, σ.k⟩) := by unfold stGo; rw [if_pos h]
theorem pushE_yes {t0 t : Int} (h1 : 1 ≤ t) (h2 : t ≤ 1099511627776) (h3 : t0 < t) : pushE t0 t = 0 := by unfold pushE; rw [if_neg (by omega), if_neg (by omega)]
theorem goE_yes {t0 t : Int} (h1 : 0 ≤ t) (h2 : t ≤ 1099511627776) (h3 : t0 ≤ t) : goE t0 t = 0 := by unfold goE; rw [if_neg (by omega), if_neg (by omega)]
/-- A push, behind the time. -/
def aftP (span : Int) (σ : Slst) (t n : Int) : Slst := ⟨t, gone (t - span) (σ.pts ++ [(t, n)]), σ.k + 1⟩
def aftG (span : Int) (σ : Slst) (t : Int) : Slst := ⟨t, gone (t - span) σ.pts, σ.k⟩
theorem stPush_aft {span : Int} {σ : Slst} {t n : Int} (h1 : 1 ≤ t) (h2 : t ≤ 1099511627776) (h3 : σ.time < t) : stPush span σ t n = (0, aftP span σ t n) := stPush_yes (pushE_yes h1 h2 h3)
theorem stGo_aft {span : Int} {σ : Slst} {t : Int} (h1 : 0 ≤ t) (h2 : t ≤ 1099511627776) (h3 : σ.time ≤ t) : stGo span σ t = (0, aftG span σ t) := stGo_yes (goE_yes h1 h2 h3)
theorem aftP_sh {span : Int} {σ : Slst} {t n d : Int} : aftP span (shS d σ) (t + d) n = shS d (aftP span σ t n) := by
  unfold aftP shS
  simp only
  rw [show t + d - span = (t - span) + d by omega, show shP d σ.pts ++ [(t + d, n)] = shP d (σ.pts ++ [(t, n)]) by simp [shP], gone_sh]
theorem aftG_two {span : Int} {σ : Slst} {t u : Int} (h : t ≤ u) : aftG span (aftG span σ t) u = aftG span σ u := by
  unfold aftG; simp only; rw [gone_gone (by omega)]
theorem vvV_form (fn : Int) (P : List Pt) : ∃ (n : Int) (o i : Bool), vvV fn P = .tuple #[.agg #[.int .i64 n, .bool o], .bool i] := by
  unfold vvV; split
  · exact ⟨_, _, _, rfl⟩
  · exact ⟨_, _, _, rfl⟩
/-! ### Three slides -/
/-- Three slides of these states, apart. -/
def Tri (w : World) (B : Nat) (fn span : Int) (a b c : Nat) (σ τ υ : Slst) : Prop := ∃ F G H : Nat → Prop, SlB w B a fn span σ F ∧ SlB w B b fn span τ G ∧ SlB w B c fn span υ H ∧ ∀ k, ¬ (F k ∧ G k) ∧ ¬ (F k ∧ H k) ∧ ¬ (G k ∧ H k)
section
variable {w w' w'' : World} {B a b c m : Nat} {fn span : Int} {σ τ υ : Slst}
theorem Tri.rot (h : Tri w B fn span a b c σ τ υ) : Tri w B fn span b c a τ υ σ := by
  obtain ⟨F, G, H, h1, h2, h3, h4⟩ := h
  exact ⟨G, H, F, h2, h3, h1, fun k => ⟨(h4 k).2.2, fun h => (h4 k).1 ⟨h.2, h.1⟩, fun h => (h4 k).2.1 ⟨h.2, h.1⟩⟩⟩
theorem Tri.below (h : Tri w B fn span a b c σ τ υ) (hb : Below w.heap.size w w') : Tri w' B fn span a b c σ τ υ := by
  obtain ⟨F, G, H, h1, h2, h3, h4⟩ := h
  exact ⟨F, G, H, h1.below hb, h2.below hb, h3.below hb, h4⟩
def TriP (w : World) (B : Nat) (fn span : Int) (a b c : Nat) (σ τ υ : Slst) (e : Ending) (w' : World) : Prop := e = .returned (.int .i64 0) ∧ Tri w' B fn span a b c σ τ υ ∧ Below B w w'
theorem Tri.op {r : Slst} {f : Nat} {args : Array Value} (h : Tri w B fn span a b c σ τ υ) (hop : ∀ F, SlB w B a fn span σ F → Calls Try.prog f args w (OpP B a fn span F (0, r) w)) :
    Calls Try.prog f args w (TriP w B fn span a b c r τ υ) := by
  obtain ⟨F, G, H, h1, h2, h3, h4⟩ := h
  refine (hop F h1).mono fun e w' ⟨he, ⟨F', k1, k2⟩, ho⟩ => ⟨he, ⟨F', G, H, k1, h2.keep ho (fun k hg _ hf => (h4 k).1 ⟨hf, hg⟩), h3.keep ho (fun k hg _ hf => (h4 k).2.1 ⟨hf, hg⟩), fun k => ⟨fun hk => ?_, fun hk => ?_, (h4 k).2.2⟩⟩, h1.bel ho⟩
  · rcases k2 k hk.1 with hx | hx
    · exact (h4 k).1 ⟨hx, hk.2⟩
    · have := h2.hi k hk.2; omega
  · rcases k2 k hk.1 with hx | hx
    · exact (h4 k).2.1 ⟨hx, hk.2⟩
    · have := h3.hi k hk.2; omega
theorem Tri.push (h : Tri w B fn span a b c σ τ υ) (hf : Fine σ m) (hm : m ≤ 1099511627774) (hs : 1 ≤ span ∧ span ≤ 1073741824) (t n : Int) (hn : In64 n) (h1 : 1 ≤ t) (h2 : t ≤ 1099511627776) (h3 : σ.time < t) :
    Calls Try.prog 11 #[.pointer (some ⟨a, 0, none⟩), .int .i64 t, .int .i64 n] w (TriP w B fn span a b c (aftP span σ t n) τ υ) :=
  h.op fun _ hF => push_b hF hf hm t n hn hs _ (stPush_aft h1 h2 h3)
theorem Tri.go (h : Tri w B fn span a b c σ τ υ) (hf : Fine σ m) (hm : m ≤ 1099511627775) (hs : 1 ≤ span ∧ span ≤ 1073741824) (t : Int) (h1 : 0 ≤ t) (h2 : t ≤ 1099511627776) (h3 : σ.time ≤ t) :
    Calls Try.prog 12 #[.pointer (some ⟨a, 0, none⟩), .int .i64 t] w (TriP w B fn span a b c (aftG span σ t) τ υ) :=
  h.op fun _ hF => go_b hF hf hm t hs _ (stGo_aft h1 h2 h3)
theorem Tri.value (h : Tri w B fn span a b c σ τ υ) (hf : Fine σ m) (hm : m ≤ 1099511627775) (v : Value) (hv : vvV fn σ.pts = v) : Calls Try.prog 10 #[.pointer (some ⟨a, 0, none⟩)] w fun e w' => e = .returned v ∧ Below w.heap.size w w' := by
  obtain ⟨F, G, H, h1, _⟩ := h
  exact value_b h1 hf hm v hv
theorem Tri.len (h : Tri w B fn span a b c σ τ υ) : Calls Try.prog 13 #[.pointer (some ⟨a, 0, none⟩)] w fun e w' => e = .returned (.int .i64 σ.pts.length) ∧ Below w.heap.size w w' := by
  obtain ⟨F, G, H, h1, _⟩ := h
  exact len_made h1.sl
theorem Tri.tim (h : Tri w B fn span a b c σ τ υ) : Calls Try.prog 14 #[.pointer (some ⟨a, 0, none⟩)] w fun e w' => e = .returned (.int .i64 σ.time) ∧ Below w.heap.size w w' := by
  obtain ⟨F, G, H, h1, _⟩ := h
  exact time_made h1.sl
theorem Tri.points (h : Tri w B fn span a b c σ τ υ) (hl : σ.pts.length ≤ 1099511627776) : Calls Try.prog 15 #[.pointer (some ⟨a, 0, none⟩)] w (FreshP w σ.pts) := by
  obtain ⟨F, G, H, h1, _⟩ := h
  exact points_made h1.sl hl
theorem Tri.bytes (h : Tri w B fn span a b c σ τ υ) (hf : Fine σ m) (hm : m ≤ 1000000) (hk : okNew fn span) : Calls Try.prog 16 #[.pointer (some ⟨a, 0, none⟩)] w (ReadB w (slB fn span σ.time σ.pts)) := by
  obtain ⟨F, G, H, h1, _⟩ := h
  have h1 := h1.sl
  have t0 := hf.fit.t0
  have t1 := hf.fit.t1
  have hs := hf.fit.sane
  have hl := Nat.le_trans hf.len hm
  unfold okNew at hk
  generalize σ.time = t at *
  generalize σ.pts = P at *
  obtain ⟨f, rfl⟩ := Int.eq_ofNat_of_zero_le (show 0 ≤ fn by omega)
  obtain ⟨s, rfl⟩ := Int.eq_ofNat_of_zero_le (show 0 ≤ span by omega)
  obtain ⟨t, rfl⟩ := Int.eq_ofNat_of_zero_le t0
  exact bytes_made h1 hs (by omega) (by omega) (by omega) hl
theorem Tri.mk {B' w0 : Nat} {F G H : Nat → Prop} (h1 : SlB w B a fn span σ F) (h2 : SlB w w0 b fn span τ G) (h3 : SlB w B' c fn span υ H) (hw : ∀ k, F k → k < w0) (hB : B ≤ w0) (h0 : ∀ k, G k → k < B') (hB' : w0 ≤ B') : Tri w B fn span a b c σ τ υ :=
  ⟨F, G, H, h1, ⟨h2.sl, fun k hk => Nat.le_trans hB (h2.lo k hk), h2.hi⟩, ⟨h3.sl, fun k hk => Nat.le_trans hB (Nat.le_trans hB' (h3.lo k hk)), h3.hi⟩, fun k => ⟨fun h => by have := hw k h.1; have := h2.lo k h.2; omega, fun h => by have := hw k h.1; have := h3.lo k h.2; omega, fun h => by have := h0 k h.1; have := h3.lo k h.2; omega⟩⟩
end
/-- Points, read. -/
def PvR (P : List Pt) (v : Value) (W : World) : Prop := ∃ A c, v = .slice A P.length c ∧ RPt W A P ∧ Flat A
theorem PvR.stab (P : List Pt) (v : Value) : Stab (PvR P v) := fun _ _ h hb => by
  obtain ⟨A, c, h1, h2, h3⟩ := h; exact ⟨A, c, h1, h2.below hb, h3⟩
theorem RVb.conv {m : List UInt8} {v : Value} {W : World} (h : RVb m v W) : (convert 35 9 v).run Try.prog W = .ok (.string ⟨m.toArray⟩) W := by
  obtain ⟨A, c, rfl, h2⟩ := h; exact conv_rd h2
theorem pts_step {C : World → Prop} {f : FuncId} {args : Array Value} {P : List Pt} {W : World} (h : Calls Try.prog f args W (FreshP W P)) (hC : ∀ W', Below W.heap.size W W' → C W') :
    Calls Try.prog f args W (fun e W' => ∃ u, e = .returned u ∧ stepR C (PvR P) (fun _ => Triv) u W') :=
  h.mono fun _ _ ⟨A, c, he, hr, hf, hb⟩ => ⟨_, he, hC _ hb, ⟨A, c, rfl, hr, hf⟩, triv _⟩
theorem byt_step {C : World → Prop} {f : FuncId} {args : Array Value} {m : List UInt8} {W : World} (h : Calls Try.prog f args W (ReadB W m)) (hC : ∀ W', Below W.heap.size W W' → C W') :
    Calls Try.prog f args W (fun e W' => ∃ u, e = .returned u ∧ stepR C (RVb m) (fun _ => Triv) u W') :=
  h.mono fun _ _ ⟨A, c, he, hr, hb⟩ => ⟨_, he, hC _ hb, ⟨A, c, rfl, hr⟩, triv _⟩
theorem kp_quiet {P : List Pt} {u v : Value} {W : World} (h1 : PvR P u W) (h2 : PvR P v W) (hl : P.length ≤ 1099511627776) : Calls Try.prog 19 #[u, v] W fun e w' => e = .returned (.bool true) ∧ Below W.heap.size W w' := by
  obtain ⟨A, c, rfl, r1, f1⟩ := h1
  obtain ⟨A2, c2, rfl, r2, f2⟩ := h2
  exact kpoints A A2 c c2 P W r1 r2 f1 f2 hl
theorem Fine.aftP {span : Int} {σ : Slst} {c : Nat} (h : Fine σ c) (hc : c ≤ 1099511627774) {t n : Int} (hn : In64 n) (h1 : 1 ≤ t) (h2 : t ≤ 1099511627776) (h3 : σ.time < t) : Fine (aftP span σ t n) (c + 1) := by
  have := h.push (span := span) hc t n hn
  rwa [stPush_aft h1 h2 h3] at this
theorem Fine.aftG {span : Int} {σ : Slst} {c : Nat} (h : Fine σ c) {t : Int} (h1 : 0 ≤ t) (h2 : t ≤ 1099511627776) (h3 : σ.time ≤ t) : Fine (aftG span σ t) c := by
  have := h.go (span := span) t
  rwa [stGo_aft h1 h2 h3] at this
theorem Fine.sh {σ : Slst} {c : Nat} (h : Fine σ c) {d : Int} (h0 : 0 ≤ d) (h1 : σ.time + d ≤ 1099511627776) : Fine (shS d σ) c := by
  have hp : ∀ p ∈ shP d σ.pts, ∃ q ∈ σ.pts, p = (q.1 + d, q.2) := fun p hp => by
    obtain ⟨q, hq, e⟩ := List.mem_map.1 hp; exact ⟨q, hq, e.symm⟩
  refine ⟨⟨⟨?_, fun p hm => ?_, fun p hm => ?_, ?_⟩, fun p hm => ?_, ?_, h1⟩, by rw [shS, shP_len]; exact h.len, h.kk⟩
  · have hr : Rise σ.pts := h.fit.sane.rise
    show Rise (shP d σ.pts)
    unfold Rise shP at *
    rw [List.pairwise_map]
    exact hr.imp fun hab => by simp only; omega
  · obtain ⟨q, hq, rfl⟩ := hp p hm; exact h.fit.sane.nums q hq
  · obtain ⟨q, hq, rfl⟩ := hp p hm
    have := h.fit.sane.times q hq; have := h.fit.upto q hq; simp only; omega
  · show (shP d σ.pts).length ≤ _; rw [shP_len]; exact h.fit.sane.len
  · obtain ⟨q, hq, rfl⟩ := hp p hm
    have := h.fit.upto q hq; simp only [shS]; omega
  · have := h.fit.t0; simp only [shS]; omega
end Go.Proofs.Ytbhkgnhgecchcaa
