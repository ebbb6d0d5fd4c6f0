/- A slide and the reference's one, in one world. -/
import Derived.Test.YtbhkgnhgecchcaaRsB
import Derived.Test.YtbhkgnhgecchcaaShL
import Derived.Test.YtbhkgnhgecchcaaRegU
namespace Go.Proofs.Ytbhkgnhgecchcaa
open Go.RowKit
def Duo (w : World) (B : Nat) (fn span : Int) (s r : Nat) (σ τ : Slst) : Prop := ∃ F G : Nat → Prop, SlB w B s fn span σ F ∧ RsB w B r fn span τ G ∧ ∀ k, ¬ (F k ∧ G k)
section
variable {w w' : World} {B s r m : Nat} {fn span : Int} {σ τ : Slst}
theorem Duo.below (h : Duo w B fn span s r σ τ) (hb : Below w.heap.size w w') : Duo w' B fn span s r σ τ := by
  obtain ⟨F, G, h1, h2, h3⟩ := h
  exact ⟨F, G, h1.below hb, h2.below hb, h3⟩
def DuP (w : World) (B : Nat) (fn span : Int) (s r : Nat) (x : Int) (σ τ : Slst) (e : Ending) (w' : World) : Prop := e = .returned (.int .i64 x) ∧ Duo w' B fn span s r σ τ ∧ Below B w w'
theorem Duo.op1 {x : Int} {q : Slst} {f : Nat} {args : Array Value} (h : Duo w B fn span s r σ τ) (hop : ∀ F, SlB w B s fn span σ F → Calls Try.prog f args w (OpP B s fn span F (x, q) w)) :
    Calls Try.prog f args w (DuP w B fn span s r x q τ) := by
  obtain ⟨F, G, h1, h2, h3⟩ := h
  refine (hop F h1).mono fun e w' ⟨he, ⟨F', k1, k2⟩, ho⟩ => ⟨he, ⟨F', G, k1, h2.keep ho (fun k hg _ hf => h3 k ⟨hf, hg⟩), fun k hk => ?_⟩, h1.bel ho⟩
  rcases k2 k hk.1 with hx | hx
  · exact h3 k ⟨hx, hk.2⟩
  · have := h2.hi k hk.2; omega
theorem Duo.op2 {x : Int} {q : Slst} {f : Nat} {args : Array Value} (h : Duo w B fn span s r σ τ) (hop : ∀ G, RsB w B r fn span τ G → Calls Try.prog f args w (OpR B r fn span G (x, q) w)) :
    Calls Try.prog f args w (DuP w B fn span s r x σ q) := by
  obtain ⟨F, G, h1, h2, h3⟩ := h
  refine (hop G h2).mono fun e w' ⟨he, ⟨G', k1, k2⟩, ho⟩ => ⟨he, ⟨F, G', h1.keep ho (fun k hf _ hg => h3 k ⟨hf, hg⟩), k1, fun k hk => ?_⟩, h2.bel ho⟩
  rcases k2 k hk.2 with hx | hx
  · exact h3 k ⟨hk.1, hx⟩
  · have := h1.hi k hk.1; omega
theorem Duo.push1 {x : Int} {q : Slst} (h : Duo w B fn span s r σ τ) (hf : Fine σ m) (hm : m ≤ 1099511627774) (hs : 1 ≤ span ∧ span ≤ 1073741824) (t n : Int) (hn : In64 n) (hq : stPush span σ t n = (x, q)) :
    Calls Try.prog 11 #[.pointer (some ⟨s, 0, none⟩), .int .i64 t, .int .i64 n] w (DuP w B fn span s r x q τ) := h.op1 fun _ hF => push_b hF hf hm t n hn hs _ hq
theorem Duo.push2 {x : Int} {q : Slst} (h : Duo w B fn span s r σ τ) (hf : Fine τ m) (hm : m ≤ 1099511627774) (hs : 1 ≤ span ∧ span ≤ 1073741824) (t n : Int) (hn : In64 n) (hq : stPush span τ t n = (x, q)) :
    Calls Try.prog 23 #[.pointer (some ⟨r, 0, none⟩), .int .i64 t, .int .i64 n] w (DuP w B fn span s r x σ q) := h.op2 fun _ hG => rpush_b hG hf hm t n hn hs _ hq
theorem Duo.go1 {x : Int} {q : Slst} (h : Duo w B fn span s r σ τ) (hf : Fine σ m) (hm : m ≤ 1099511627775) (hs : 1 ≤ span ∧ span ≤ 1073741824) (t : Int) (hq : stGo span σ t = (x, q)) :
    Calls Try.prog 12 #[.pointer (some ⟨s, 0, none⟩), .int .i64 t] w (DuP w B fn span s r x q τ) := h.op1 fun _ hF => go_b hF hf hm t hs _ hq
theorem Duo.go2 {x : Int} {q : Slst} (h : Duo w B fn span s r σ τ) (hf : Fine τ m) (hs : 1 ≤ span ∧ span ≤ 1073741824) (t : Int) (hq : stGo span τ t = (x, q)) :
    Calls Try.prog 22 #[.pointer (some ⟨r, 0, none⟩), .int .i64 t] w (DuP w B fn span s r x σ q) := h.op2 fun _ hG => rgo_b hG hf t hs _ hq
theorem Duo.val1 (h : Duo w B fn span s r σ τ) (hf : Fine σ m) (hm : m ≤ 1099511627775) (v : Value) (hv : vvV fn σ.pts = v) : Calls Try.prog 10 #[.pointer (some ⟨s, 0, none⟩)] w fun e w' => e = .returned v ∧ Below w.heap.size w w' := by
  obtain ⟨F, G, h1, _⟩ := h
  exact value_b h1 hf hm v hv
theorem Duo.val2 (h : Duo w B fn span s r σ τ) (hf : Fine τ m) (hm : m ≤ 1000000) (hfn : 1 ≤ fn ∧ fn ≤ 6) (v : Value) (hv : vvV fn τ.pts = v) : Calls Try.prog 24 #[.pointer (some ⟨r, 0, none⟩)] w fun e w' => e = .returned v ∧ Below w.heap.size w w' := by
  obtain ⟨F, G, _, h2, _⟩ := h
  exact hv ▸ rval_made h2.sl hfn hf.fit.sane (Nat.le_trans hf.len hm)
theorem Duo.len1 (h : Duo w B fn span s r σ τ) : Calls Try.prog 13 #[.pointer (some ⟨s, 0, none⟩)] w fun e w' => e = .returned (.int .i64 σ.pts.length) ∧ Below w.heap.size w w' := by
  obtain ⟨F, G, h1, _⟩ := h
  exact len_made h1.sl
theorem Duo.tim1 (h : Duo w B fn span s r σ τ) : Calls Try.prog 14 #[.pointer (some ⟨s, 0, none⟩)] w fun e w' => e = .returned (.int .i64 σ.time) ∧ Below w.heap.size w w' := by
  obtain ⟨F, G, h1, _⟩ := h
  exact time_made h1.sl
theorem Duo.tim2 (h : Duo w B fn span s r σ τ) : Calls Try.prog 21 #[.pointer (some ⟨r, 0, none⟩)] w fun e w' => e = .returned (.int .i64 τ.time) ∧ Below w.heap.size w w' := by
  obtain ⟨F, G, _, h2, _⟩ := h
  exact rtime_made h2.sl
theorem Duo.pts2 (h : Duo w B fn span s r σ τ) : ∃ A c, w.cell? ⟨r, 2, none⟩ = some (.slice A τ.pts.length c) ∧ r < w.heap.size ∧ RPt w A τ.pts ∧ Flat A := by
  obtain ⟨F, G, _, ⟨⟨_, lv, h1, h2⟩, _, _⟩, _⟩ := h
  rcases Nat.eq_zero_or_pos τ.pts.length with h0 | h0
  · have hP : τ.pts = [] := List.eq_nil_of_length_eq_zero h0
    rcases h2.2 with ⟨e, _⟩ | ⟨g, o, c, cur, e, _⟩
    · exact ⟨none, 0, by rw [cellAt (o := 2) h1 rfl, h0]; simp [e], only_lt h1, by rw [hP]; exact ⟨rfl, fun h => absurd h (by simp)⟩, fun ad e => by cases e⟩
    · exact ⟨some ⟨g, o, none⟩, c, by rw [cellAt (o := 2) h1 rfl]; simp [e], only_lt h1, by rw [hP]; exact ⟨rfl, fun h => absurd h (by simp)⟩, fun ad e => by cases e; rfl⟩
  · obtain ⟨g, o, c, e, _, _, hrd⟩ := h2.ad h0
    exact ⟨some ⟨g, o, none⟩, c, by rw [cellAt (o := 2) h1 rfl]; simp [e], only_lt h1, hrd, fun ad e => by cases e; rfl⟩
theorem Duo.points (h : Duo w B fn span s r σ τ) (hl : σ.pts.length ≤ 1099511627776) : Calls Try.prog 15 #[.pointer (some ⟨s, 0, none⟩)] w (FreshP w σ.pts) := by
  obtain ⟨F, G, h1, _⟩ := h
  exact points_made h1.sl hl
theorem Duo.bytes1 (h : Duo w B fn span s r σ τ) (hf : Fine σ m) (hm : m ≤ 1000000) (hk : okNew fn span) : Calls Try.prog 16 #[.pointer (some ⟨s, 0, none⟩)] w (ReadB w (slB fn span σ.time σ.pts)) := by
  obtain ⟨F, G, h1, _⟩ := h
  have h1 := h1.sl
  have t0 := hf.fit.t0
  have t1 := hf.fit.t1
  have hs := hf.fit.sane
  have hl := Nat.le_trans hf.len hm
  unfold okNew at hk
  generalize σ.time = t at *
  generalize σ.pts = P at *
  obtain ⟨f, rfl⟩ := Int.eq_ofNat_of_zero_le (show 0 ≤ fn by omega)
  obtain ⟨s, rfl⟩ := Int.eq_ofNat_of_zero_le (show 0 ≤ span by omega)
  obtain ⟨t, rfl⟩ := Int.eq_ofNat_of_zero_le t0
  exact bytes_made h1 hs (by omega) (by omega) (by omega) hl
theorem Duo.bytes2 (h : Duo w B fn span s r σ τ) (hf : Fine τ m) (hm : m ≤ 1000000) (hk : okNew fn span) : Calls Try.prog 25 #[.pointer (some ⟨r, 0, none⟩)] w (ReadB w (slB fn span τ.time τ.pts)) := by
  obtain ⟨F, G, _, h2, _⟩ := h
  have h1 := h2.sl
  have t0 := hf.fit.t0
  have t1 := hf.fit.t1
  have hs := hf.fit.sane
  have hl := Nat.le_trans hf.len hm
  unfold okNew at hk
  generalize τ.time = t at *
  generalize τ.pts = P at *
  obtain ⟨f, rfl⟩ := Int.eq_ofNat_of_zero_le (show 0 ≤ fn by omega)
  obtain ⟨s, rfl⟩ := Int.eq_ofNat_of_zero_le (show 0 ≤ span by omega)
  obtain ⟨t, rfl⟩ := Int.eq_ofNat_of_zero_le t0
  exact rbytes_made h1 hs (by omega) (by omega) (by omega) hl
end
end Go.Proofs.Ytbhkgnhgecchcaa
