/- A tree of numbers, some of them often: plain law. No program. -/
import Derived.Test.YtjcbikkihijkiaaOnl
namespace Go.Proofs.Ytjcbikkihijkiaa
open Go.RowKit
inductive Tr where
  | nil : Tr
  | node (n : Int) (k : Nat) (l r : Tr) : Tr
def Tr.all : Tr → Nat
  | .nil => 0
  | .node _ k l r => k + l.all + r.all
def Tr.lev : Tr → Nat
  | .nil => 0
  | .node _ _ l r => 1 + max l.lev r.lev
/-- How many nodes. -/
def Tr.cnt : Tr → Nat
  | .nil => 0
  | .node _ _ l r => 1 + l.cnt + r.cnt
def Tr.lst : Tr → List (Int × Nat)
  | .nil => []
  | .node n k l r => l.lst ++ (n, k) :: r.lst
def Tr.left : Tr → Tr
  | .nil => .nil
  | .node _ _ l _ => l
def Tr.right : Tr → Tr
  | .nil => .nil
  | .node _ _ _ r => r
theorem Tr.lev_cnt : ∀ T : Tr, T.lev ≤ T.cnt
  | .nil => Nat.le_refl _
  | .node _ _ l r => by have := l.lev_cnt; have := r.lev_cnt; simp only [Tr.lev, Tr.cnt]; omega
/-- The left one is lifted. -/
def turnL : Tr → Tr
  | .node n k (.node m j a b) r => .node m j a (.node n k b r)
  | t => t
def turnR : Tr → Tr
  | .node n k l (.node m j a b) => .node m j (.node n k l a) b
  | t => t
theorem turnL_lst : ∀ T : Tr, (turnL T).lst = T.lst
  | .nil => rfl
  | .node _ _ .nil _ => rfl
  | .node n k (.node m j a b) r => by simp [turnL, Tr.lst]
theorem turnR_lst : ∀ T : Tr, (turnR T).lst = T.lst
  | .nil => rfl
  | .node _ _ _ .nil => rfl
  | .node n k l (.node m j a b) => by simp [turnR, Tr.lst]
theorem turnL_all : ∀ T : Tr, (turnL T).all = T.all
  | .nil => rfl
  | .node _ _ .nil _ => rfl
  | .node n k (.node m j a b) r => by simp only [turnL, Tr.all]; omega
theorem turnR_all : ∀ T : Tr, (turnR T).all = T.all
  | .nil => rfl
  | .node _ _ _ .nil => rfl
  | .node n k l (.node m j a b) => by simp only [turnR, Tr.all]; omega
theorem turnL_cnt : ∀ T : Tr, (turnL T).cnt = T.cnt
  | .nil => rfl
  | .node _ _ .nil _ => rfl
  | .node n k (.node m j a b) r => by simp only [turnL, Tr.cnt]; omega
theorem turnR_cnt : ∀ T : Tr, (turnR T).cnt = T.cnt
  | .nil => rfl
  | .node _ _ _ .nil => rfl
  | .node n k l (.node m j a b) => by simp only [turnR, Tr.cnt]; omega
/-- Kept level. -/
def levT : Tr → Tr
  | .nil => .nil
  | .node n k l r =>
    if r.lev + 1 < l.lev then turnL (.node n k (if l.left.lev < l.right.lev then turnR l else l) r)
    else if l.lev + 1 < r.lev then turnR (.node n k l (if r.right.lev < r.left.lev then turnL r else r))
    else .node n k l r
theorem levT_node (n : Int) (k : Nat) (l r : Tr) : levT (.node n k l r) = if r.lev + 1 < l.lev then turnL (.node n k (if l.left.lev < l.right.lev then turnR l else l) r)
    else if l.lev + 1 < r.lev then turnR (.node n k l (if r.right.lev < r.left.lev then turnL r else r))
    else .node n k l r := rfl
theorem levT_lst : ∀ T : Tr, (levT T).lst = T.lst
  | .nil => rfl
  | .node n k l r => by
    rw [levT_node]
    split
    · rw [turnL_lst]; split
      · simp only [Tr.lst, turnR_lst]
      · rfl
    · split
      · rw [turnR_lst]; split
        · simp only [Tr.lst, turnL_lst]
        · rfl
      · rfl
theorem levT_all : ∀ T : Tr, (levT T).all = T.all
  | .nil => rfl
  | .node n k l r => by
    rw [levT_node]
    split
    · rw [turnL_all]; split
      · simp only [Tr.all, turnR_all]
      · rfl
    · split
      · rw [turnR_all]; split
        · simp only [Tr.all, turnL_all]
        · rfl
      · rfl
theorem levT_cnt : ∀ T : Tr, (levT T).cnt = T.cnt
  | .nil => rfl
  | .node n k l r => by
    rw [levT_node]
    split
    · rw [turnL_cnt]; split
      · simp only [Tr.cnt, turnR_cnt]
      · rfl
    · split
      · rw [turnR_cnt]; split
        · simp only [Tr.cnt, turnL_cnt]
        · rfl
      · rfl
/-- A number is put, so often. -/
def putT (n : Int) (k : Nat) : Tr → Tr
  | .nil => levT (.node n k .nil .nil)
  | .node m j l r => if n < m then levT (.node m j (putT n k l) r) else if m < n then levT (.node m j l (putT n k r)) else levT (.node m (j + k) l r)
/-- The least one is taken out: it, and the rest. -/
def firstT : Tr → (Int × Nat) × Tr
  | .nil => ((0, 0), .nil)
  | .node m j .nil r => ((m, j), r)
  | .node m j (.node m' j' l' r') r => ((firstT (.node m' j' l' r')).1, levT (.node m j (firstT (.node m' j' l' r')).2 r))
/-- A number is taken once; it is there. -/
def takeT (n : Int) : Tr → Tr
  | .nil => .nil
  | .node m j l r => if n < m then levT (.node m j (takeT n l) r) else if m < n then levT (.node m j l (takeT n r))
    else if 1 < j then levT (.node m (j - 1) l r) else match r with
      | .nil => levT l
      | .node m' j' l' r' => levT (.node (firstT (.node m' j' l' r')).1.1 (firstT (.node m' j' l' r')).1.2 l (firstT (.node m' j' l' r')).2)
/-! ### What they are of lists -/
def Asc (L : List (Int × Nat)) : Prop := L.Pairwise fun a b => a.1 < b.1
def insL (n : Int) (k : Nat) : List (Int × Nat) → List (Int × Nat)
  | [] => [(n, k)]
  | (m, j) :: L => if n < m then (n, k) :: (m, j) :: L else if m < n then (m, j) :: insL n k L else (m, j + k) :: L
def delL (n : Int) : List (Int × Nat) → List (Int × Nat)
  | [] => []
  | (m, j) :: L => if m = n then (if 1 < j then (m, j - 1) :: L else L) else (m, j) :: delL n L
theorem insL_low {n : Int} {k : Nat} {m : Int} {j : Nat} {M : List (Int × Nat)} (h : n < m) : ∀ {L : List (Int × Nat)}, insL n k (L ++ (m, j) :: M) = insL n k L ++ (m, j) :: M
  | [] => by simp [insL, h]
  | (a, b) :: L => by
    simp only [List.cons_append, insL, insL_low h]
    split
    · rfl
    · split <;> rfl
theorem insL_high {n : Int} {k : Nat} {m : Int} {j : Nat} {M : List (Int × Nat)} (h : m < n) : ∀ {L : List (Int × Nat)}, (∀ p ∈ L, p.1 < m) → insL n k (L ++ (m, j) :: M) = L ++ (m, j) :: insL n k M
  | [], _ => by simp only [List.nil_append, insL]; rw [if_neg (by omega), if_pos h]
  | (a, b) :: L, hL => by
    have ha := hL (a, b) (by simp)
    simp only at ha
    simp only [List.cons_append, insL]
    rw [if_neg (by omega), if_pos (by omega), insL_high h (fun p hp => hL p (List.mem_cons_of_mem _ hp))]
theorem insL_here {n : Int} {k : Nat} {j : Nat} {M : List (Int × Nat)} : ∀ {L : List (Int × Nat)}, (∀ p ∈ L, p.1 < n) → insL n k (L ++ (n, j) :: M) = L ++ (n, j + k) :: M
  | [], _ => by simp only [List.nil_append, insL]; rw [if_neg (by omega), if_neg (by omega)]
  | (a, b) :: L, hL => by
    have ha := hL (a, b) (by simp)
    simp only at ha
    simp only [List.cons_append, insL]
    rw [if_neg (by omega), if_pos (by omega), insL_here (fun p hp => hL p (List.mem_cons_of_mem _ hp))]
theorem Asc.parts {L M : List (Int × Nat)} {p : Int × Nat} (h : Asc (L ++ p :: M)) : Asc L ∧ Asc M ∧ (∀ q ∈ L, q.1 < p.1) ∧ ∀ q ∈ M, p.1 < q.1 := by
  unfold Asc at *
  rw [List.pairwise_append, List.pairwise_cons] at h
  exact ⟨h.1, h.2.1.2, fun q hq => h.2.2 q hq p (by simp), h.2.1.1⟩
theorem putT_lst {n : Int} {k : Nat} : ∀ {T : Tr}, Asc T.lst → (putT n k T).lst = insL n k T.lst
  | .nil, _ => by simp [putT, levT, Tr.lst, insL]; rfl
  | .node m j l r, h => by
    obtain ⟨h1, h2, h3, h4⟩ := Asc.parts (show Asc (l.lst ++ (m, j) :: r.lst) from h)
    simp only at h3 h4
    unfold putT
    split
    · rename_i hn
      rw [levT_lst]; simp only [Tr.lst]
      rw [putT_lst h1, insL_low hn]
    · split
      · rename_i hn
        rw [levT_lst]; simp only [Tr.lst]
        rw [putT_lst h2, insL_high hn h3]
      · rw [levT_lst]; simp only [Tr.lst]
        obtain rfl : n = m := by omega
        rw [insL_here h3]
end Go.Proofs.Ytjcbikkihijkiaa
