/- NumberAdds, the plain law: sums over a list and over what swaps make of it. -/
import Derived.Test.YtfiinceogenlmaaNumL
namespace Go.Proofs.Ytfiinceogenlmaa
open Go.RowKit

/-- Elements: a number, and is it over? -/
abbrev El := Int × Bool
def sm (f : El → Int) : List El → Int
  | [] => 0
  | e :: l => f e + sm f l
def eT (e : El) : Int := ofT e.1 e.2
def eO (e : El) : Int := ofO e.2
theorem sm_append (f : El → Int) (l m : List El) : sm f (l ++ m) = sm f l + sm f m := by
  induction l with
  | nil => simp [sm]
  | cons e l ih => simp only [List.cons_append, sm, ih]; omega
theorem sm_take (f : El → Int) (l : List El) (i : Nat) (h : i < l.length) : sm f (l.take (i + 1)) = sm f (l.take i) + f l[i] := by
  rw [← List.take_append_getElem h, sm_append]
  simp [sm]
theorem sm_set (f : El → Int) (l : List El) (i : Nat) (h : i < l.length) (v : El) : sm f (l.set i v) = sm f l - f l[i] + f v := by
  induction l generalizing i with
  | nil => exact absurd h (by simp)
  | cons e l ih =>
    cases i with
    | zero => simp only [List.set_cons_zero, sm, List.getElem_cons_zero]; omega
    | succ i =>
      simp only [List.set_cons_succ, sm, List.getElem_cons_succ]
      rw [ih i (by simpa using h)]; omega
/-- Two elements change places. -/
def swapE (m : List El) (i n : Nat) (h : i < m.length) (k : n < m.length) : List El := (m.set i m[n]).set n m[i]
theorem swapE_length (m : List El) (i n : Nat) (h : i < m.length) (k : n < m.length) : (swapE m i n h k).length = m.length := by
  unfold swapE; simp
theorem sm_swap (f : El → Int) (m : List El) (i n : Nat) (h : i < m.length) (k : n < m.length) : sm f (swapE m i n h k) = sm f m := by
  unfold swapE
  rw [sm_set f _ n (by simpa using k), sm_set f m i h]
  by_cases e : i = n
  · subst e; simp
  · rw [List.getElem_set_ne e]; omega
theorem swapE_mem (m : List El) (i n : Nat) (h : i < m.length) (k : n < m.length) (P : El → Prop) (hp : ∀ e ∈ m, P e) : ∀ e ∈ swapE m i n h k, P e := by
  intro e he
  unfold swapE at he
  rcases List.mem_or_eq_of_mem_set he with he | rfl
  · rcases List.mem_or_eq_of_mem_set he with he | rfl
    · exact hp _ he
    · exact hp _ (List.getElem_mem _)
  · exact hp _ (List.getElem_mem _)
theorem eO_nonneg (e : El) : 0 ≤ eO e := by unfold eO ofO; split <;> omega
theorem eO_le (e : El) : eO e ≤ 1 := by unfold eO ofO; split <;> omega
theorem smO_nonneg (l : List El) : 0 ≤ sm eO l := by
  induction l with
  | nil => simp [sm]
  | cons e l ih => have := eO_nonneg e; simp only [sm]; omega
theorem smO_le (l : List El) : sm eO l ≤ l.length := by
  induction l with
  | nil => simp [sm]
  | cons e l ih => have := eO_le e; simp only [sm, List.length_cons]; omega
theorem smO_mem {l : List El} {e : El} (h : e ∈ l) (ho : e.2 = true) : 1 ≤ sm eO l := by
  induction l with
  | nil => exact absurd h (by simp)
  | cons d l ih =>
    have h0 := eO_nonneg d
    have h1 := smO_nonneg l
    rcases List.mem_cons.1 h with rfl | h
    · simp only [sm]
      have : eO e = 1 := by unfold eO ofO; rw [if_pos ho]
      omega
    · have := ih h; simp only [sm]; omega
/-- An over element: the sum's value is over. -/
theorem over_value {l : List El} (hl : (l.length : Int) ≤ 500) (h : 1 ≤ sm eO l) (t : Int) : gvO t (lo64 (sm eO l)) = true := by
  have h1 := smO_le l
  have : lo64 (sm eO l) = sm eO l := lo64_of ⟨by omega, by omega⟩
  rw [this]
  exact (gvO_out (fun ⟨e, _⟩ => by omega)).1

theorem there_back (t A B : Int) : w128 (w128 (w128 (w128 t + A) - A) + B) = w128 (t + B) := by
  unfold w128; omega
theorem there_back' (t A B : Int) : lo64 (lo64 (lo64 (lo64 t + A) - A) + B) = lo64 (t + B) := by
  unfold lo64; omega
theorem w128_sub (s t : Int) : w128 (w128 s - t) = w128 (s - t) := by unfold w128; omega
theorem lo64_sub (s t : Int) : lo64 (lo64 s - t) = lo64 (s - t) := by unfold lo64; omega
theorem w128_0 : w128 0 = 0 := by decide
theorem lo64_0 : lo64 0 = 0 := by decide

/-! ### An operator of two -/
theorem opR_comm {op : Int} (h : op = 1 ∨ op = 3) (a b : Int) : opR op a b = opR op b a := by
  unfold opR
  rcases h with rfl | rfl
  · simp only [if_true]; omega
  · rw [if_neg (by decide), if_neg (by decide), if_neg (by decide), if_neg (by decide)]; exact Int.mul_comm _ _
theorem opO_comm {op : Int} (h : op = 1 ∨ op = 3) (a b : Int) (x y : Bool) : opO op a x b y = opO op b y a x := by
  unfold opO; rw [opR_comm h, Bool.or_comm x y]
theorem opN_comm {op : Int} (h : op = 1 ∨ op = 3) (a b : Int) (x y : Bool) : opN op a x b y = opN op b y a x := by
  unfold opN; rw [opO_comm h, opR_comm h]
theorem add_sub_N {a b : Int} {x y : Bool} (ha : I64 a) (h : opO 1 a x b y = false) : opN 2 (opN 1 a x b y) (opO 1 a x b y) b y = a ∧ opO 2 (opN 1 a x b y) (opO 1 a x b y) b y = x := by
  obtain ⟨rfl, rfl, h3, h4⟩ := opO_false h
  have e : opR 2 (opR 1 a b) b = a := by unfold opR; rw [if_neg (by decide), if_pos rfl, if_pos rfl]; omega
  have o : opO 2 (opN 1 a false b false) (opO 1 a false b false) b false = false := by
    rw [h4, h]; unfold opO; rw [e]; simp [ha]
  obtain ⟨_, _, _, o4⟩ := opO_false o
  exact ⟨by rw [o4, h4, e], o⟩
theorem put2_T {a b : Int} {x y : Bool} (ha : I64 a) (hb : I64 b) : w128 (w128 (0 + ofT a x) + ofT b y) = ofT a x + ofT b y := by
  have h1 : I64 (ofT a x) := by unfold ofT I64; obtain ⟨_, _⟩ := ha; split <;> constructor <;> omega
  have h2 : I64 (ofT b y) := by unfold ofT I64; obtain ⟨_, _⟩ := hb; split <;> constructor <;> omega
  obtain ⟨_, _⟩ := h1
  obtain ⟨_, _⟩ := h2
  rw [w128_add, Int.zero_add]
  exact w128_of ⟨by omega, by omega⟩
theorem put2_O (x y : Bool) : lo64 (lo64 (0 + ofO x) + ofO y) = ofO x + ofO y := by
  cases x <;> cases y <;> decide
theorem add_value (a b : Int) (x y : Bool) :
    gvO (ofT a x + ofT b y) (ofO x + ofO y) = opO 1 a x b y ∧ gvN (ofT a x + ofT b y) (ofO x + ofO y) = opN 1 a x b y := by
  have e : gvO (ofT a x + ofT b y) (ofO x + ofO y) = opO 1 a x b y := by
    cases x <;> cases y
    · unfold gvO opO opR ofT ofO; simp
    · rw [opO_right]; exact (gvO_out (fun ⟨e, _⟩ => absurd e (by decide))).1
    · rw [opO_left]; exact (gvO_out (fun ⟨e, _⟩ => absurd e (by decide))).1
    · rw [opO_left]; exact (gvO_out (fun ⟨e, _⟩ => absurd e (by decide))).1
  refine ⟨e, ?_⟩
  unfold gvN opN
  rw [e]
  by_cases h : opO 1 a x b y = true
  · rw [if_pos h, if_pos h]
  · rw [if_neg h, if_neg h]
    obtain ⟨rfl, rfl, _, _⟩ := opO_false (Bool.eq_false_iff.2 h)
    unfold ofT opR; simp
end Go.Proofs.Ytfiinceogenlmaa
