/- A slide's Go and Push. -/
import Derived.Test.YtbhkgnhgecchcaaSlP
namespace Go.Proofs.Ytbhkgnhgecchcaa
open Go.RowKit
/-- A slide's state: its time, its points; K: no more points have been put. -/
structure Slst where
  time : Int
  pts : List Pt
  k : Nat
structure Fit (σ : Slst) : Prop where
  sane : Sane σ.pts
  upto : ∀ p ∈ σ.pts, p.1 ≤ σ.time
  t0 : 0 ≤ σ.time
  t1 : σ.time ≤ 1099511627776
def goE (t0 t : Int) : Int := if t < 0 ∨ 1099511627776 < t then 2 else if t < t0 then 8 else 0
def stGo (span : Int) (σ : Slst) (t : Int) : Int × Slst := if goE σ.time t = 0 then (0, ⟨t, gone (t - span) σ.pts, σ.k⟩) else (goE σ.time t, σ)
def pushE (t0 t : Int) : Int := if t < 1 ∨ 1099511627776 < t then 2 else if t ≤ t0 then 8 else 0
def stPush (span : Int) (σ : Slst) (t n : Int) : Int × Slst := if pushE σ.time t = 0 then (0, ⟨t, gone (t - span) (σ.pts ++ [(t, n)]), σ.k + 1⟩) else (pushE σ.time t, σ)
theorem gone_suffix (b : Int) (P : List Pt) : ∃ Q, P = Q ++ gone b P := ⟨P.takeWhile fun p => decide (p.1 ≤ b), (List.takeWhile_append_dropWhile).symm⟩
theorem Fit.go {span : Int} {σ : Slst} (h : Fit σ) (t : Int) : Fit (stGo span σ t).2 := by
  unfold stGo
  split
  · rename_i hg
    have h1 := h.t0
    obtain ⟨Q, hQ⟩ := gone_suffix (t - span) σ.pts
    have ht : 0 ≤ t ∧ t ≤ 1099511627776 ∧ σ.time ≤ t := by
      unfold goE at hg
      split at hg
      · omega
      · split at hg <;> omega
    exact ⟨h.sane.suffix hQ, fun p hp => Int.le_trans (h.upto p (by rw [hQ]; exact List.mem_append_right _ hp)) ht.2.2, ht.1, ht.2.1⟩
  · exact h
theorem Sane.snoc {P : List Pt} {t0 t n : Int} (h : Sane P) (hu : ∀ p ∈ P, p.1 ≤ t0) (ht : t0 < t) (h1 : 1 ≤ t) (h2 : t ≤ 1099511627776) (hn : In64 n) (hl : P.length ≤ 1099511627774) : Sane (P ++ [(t, n)]) := by
  refine ⟨?_, fun p hp => ?_, fun p hp => ?_, by simp; omega⟩
  · unfold Rise
    rw [List.pairwise_append]
    refine ⟨h.rise, by simp, fun a ha b hb => ?_⟩
    simp only [List.mem_singleton] at hb; subst hb
    have := hu a ha; simp only; omega
  · rcases List.mem_append.1 hp with hp | hp
    · exact h.nums p hp
    · simp only [List.mem_singleton] at hp; subst hp; exact hn
  · rcases List.mem_append.1 hp with hp | hp
    · exact h.times p hp
    · simp only [List.mem_singleton] at hp; subst hp; exact ⟨h1, h2⟩
theorem push_ok {t0 t : Int} (h : pushE t0 t = 0) : 1 ≤ t ∧ t ≤ 1099511627776 ∧ t0 < t := by
  unfold pushE at h
  split at h
  · omega
  · split at h <;> omega
theorem Fit.push {span : Int} {σ : Slst} (h : Fit σ) (t n : Int) (hn : In64 n) (hl : σ.pts.length ≤ 1099511627774) : Fit (stPush span σ t n).2 := by
  unfold stPush
  split
  · rename_i hg
    obtain ⟨h1, h2, h3⟩ := push_ok hg
    have hs := h.sane.snoc h.upto h3 h1 h2 hn hl
    obtain ⟨Q, hQ⟩ := gone_suffix (t - span) (σ.pts ++ [(t, n)])
    refine ⟨hs.suffix hQ, fun p hp => ?_, by simp only; omega, h2⟩
    have hm : p ∈ σ.pts ++ [(t, n)] := by rw [hQ]; exact List.mem_append_right _ hp
    rcases List.mem_append.1 hm with hm | hm
    · have := h.upto p hm; simp only; omega
    · simp only [List.mem_singleton] at hm; subst hm; exact Int.le_refl _
  · exact h
def MeP (F : Nat → Prop) (s : Nat) (fn span : Int) (r : Int × Slst) (w : World) (e : Ending) (w' : World) : Prop :=
  e = .returned (.int .i64 r.1) ∧ SlideW w' (fun k => F k ∨ w.heap.size ≤ k) s fn span r.2.time r.2.pts r.2.k ∧ Only F w w'
set_option maxRecDepth 100000 in
theorem go_made {w : World} {F : Nat → Prop} {s : Nat} {fn span : Int} {σ : Slst} (h : SlideW w F s fn span σ.time σ.pts σ.k) (hf : Fit σ) (t : Int) (hs1 : 1 ≤ span) (hs2 : span ≤ 1073741824) (hK : σ.k ≤ 1099511627775) :
    Calls Try.prog 12 #[.pointer (some ⟨s, 0, none⟩), .int .i64 t] w (MeP F s fn span (stGo span σ t) w) := by
  have CR := Lib.hid (right_made h)
  have HW := Lib.hid (h.weak (G := fun k => F k ∨ w.heap.size ≤ k) (fun k _ hk => .inl hk))
  have h1 := h
  obtain ⟨_, lv, iv, h2, _, _⟩ := h1
  have k2 := cellAt (o := 2) h2 rfl
  clear h2
  by_cases ha : t < 0 ∨ 1099511627776 < t
  · have HE : Hid (stGo span σ t = (2, σ)) := Lib.hid (by unfold stGo goE; rw [if_pos ha]; rfl)
    rw [HE.out]
    clear h
    rcases ha with ha | ha
    all_goals
      go_enter Try.func12, Try.ntmps12
      go_wp2_with fail
      refine CR.out.mono ?_
      rintro e w1 ⟨rfl, rfl⟩
      go_wp2_with fail
      all_goals
        go_ret
        exact ⟨rfl, HW.out, Only.refl _ _⟩
  have ha1 : 0 ≤ t := by omega
  have ha2 : t ≤ 1099511627776 := by omega
  by_cases hb : t < σ.time
  · have HE : Hid (stGo span σ t = (8, σ)) := Lib.hid (by unfold stGo goE; rw [if_neg ha, if_pos hb]; rfl)
    rw [HE.out]
    clear h ha
    go_enter Try.func12, Try.ntmps12
    go_wp2_with fail
    refine CR.out.mono ?_
    rintro e w1 ⟨rfl, rfl⟩
    go_wp2_with fail
    go_ret
    exact ⟨rfl, HW.out, Only.refl _ _⟩
  · have HE : Hid (stGo span σ t = (0, ⟨t, gone (t - span) σ.pts, σ.k⟩)) := Lib.hid (by unfold stGo goE; rw [if_neg ha, if_neg hb]; rfl)
    rw [HE.out]
    have CT := Lib.hid (to_any h hf.sane t ha1 ha2 hs1 hs2 hK)
    clear h ha
    go_enter Try.func12, Try.ntmps12
    go_wp2_with fail
    refine CR.out.mono ?_
    rintro e w1 ⟨rfl, rfl⟩
    go_wp2_with fail
    refine CT.out.mono ?_
    rintro e w2 ⟨rfl, g1, g2⟩
    have G1 := Lib.hid g1
    have G2 := Lib.hid g2
    clear g1 g2
    go_wp2_with fail
    go_ret
    exact ⟨rfl, G1.out.weak (fun k _ hk => .inl hk), G2.out⟩
end Go.Proofs.Ytbhkgnhgecchcaa
