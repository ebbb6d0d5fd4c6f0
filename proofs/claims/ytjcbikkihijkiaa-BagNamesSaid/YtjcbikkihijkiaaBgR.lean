/- A bag as a list of numbers, rising, each so often: plain law, and what the bag's functions tell of it. -/
import Derived.Test.YtjcbikkihijkiaaBgQ
namespace Go.Proofs.Ytjcbikkihijkiaa
open Go.RowKit
def sumL : List (Int × Nat) → Nat
  | [] => 0
  | p :: L => p.2 + sumL L
def cntL (n : Int) : List (Int × Nat) → Nat
  | [] => 0
  | p :: L => (if p.1 = n then p.2 else 0) + cntL n L
def lowL (n : Int) : List (Int × Nat) → Nat
  | [] => 0
  | p :: L => (if p.1 < n then p.2 else 0) + lowL n L
theorem sumL_app : ∀ A B, sumL (A ++ B) = sumL A + sumL B
  | [], B => by simp [sumL]
  | p :: A, B => by simp only [List.cons_append, sumL, sumL_app A B]; omega
theorem cntL_app (n : Int) : ∀ A B, cntL n (A ++ B) = cntL n A + cntL n B
  | [], B => by simp [cntL]
  | p :: A, B => by simp only [List.cons_append, cntL, cntL_app n A B]; omega
theorem lowL_app (n : Int) : ∀ A B, lowL n (A ++ B) = lowL n A + lowL n B
  | [], B => by simp [lowL]
  | p :: A, B => by simp only [List.cons_append, lowL, lowL_app n A B]; omega
theorem cntL_none {n : Int} : ∀ {A : List (Int × Nat)}, (∀ p ∈ A, p.1 ≠ n) → cntL n A = 0
  | [], _ => rfl
  | p :: A, h => by
    have h1 := h p (by simp)
    simp only [cntL]; rw [if_neg h1, cntL_none (fun q hq => h q (List.mem_cons_of_mem _ hq))]
theorem lowL_none {n : Int} : ∀ {A : List (Int × Nat)}, (∀ p ∈ A, n ≤ p.1) → lowL n A = 0
  | [], _ => rfl
  | p :: A, h => by
    have h1 := h p (by simp)
    simp only [lowL]; rw [if_neg (by omega), lowL_none (fun q hq => h q (List.mem_cons_of_mem _ hq))]
theorem lowL_all {n : Int} : ∀ {A : List (Int × Nat)}, (∀ p ∈ A, p.1 < n) → lowL n A = sumL A
  | [], _ => rfl
  | p :: A, h => by
    have h1 := h p (by simp)
    simp only [lowL, sumL]; rw [if_pos h1, lowL_all (fun q hq => h q (List.mem_cons_of_mem _ hq))]
theorem lowL_le (n : Int) : ∀ A, lowL n A ≤ sumL A
  | [] => Nat.le_refl _
  | p :: A => by have := lowL_le n A; simp only [lowL, sumL]; split <;> omega
theorem cntL_le (n : Int) : ∀ A, cntL n A ≤ sumL A
  | [] => Nat.le_refl _
  | p :: A => by have := cntL_le n A; simp only [cntL, sumL]; split <;> omega
/-- Rising numbers, each there, each a number of 64 bits. -/
structure OkL (L : List (Int × Nat)) : Prop where
  asc : Asc L
  one : ∀ p ∈ L, 1 ≤ p.2
  in64 : ∀ p ∈ L, I64 p.1
theorem OkL.nil : OkL [] := ⟨List.Pairwise.nil, by simp, by simp⟩
theorem len_sumL : ∀ {L : List (Int × Nat)}, (∀ p ∈ L, 1 ≤ p.2) → L.length ≤ sumL L
  | [], _ => Nat.le_refl _
  | p :: L, h => by
    have h1 := h p (by simp)
    have h2 := len_sumL (fun q hq => h q (List.mem_cons_of_mem p hq))
    simp only [sumL, List.length_cons]; omega
theorem all_lst : ∀ T : Tr, T.all = sumL T.lst
  | .nil => rfl
  | .node n k l r => by simp only [Tr.all, Tr.lst, sumL_app, sumL, all_lst l, all_lst r]; omega
theorem cnt_lst : ∀ T : Tr, T.cnt = T.lst.length
  | .nil => rfl
  | .node n k l r => by simp only [Tr.cnt, Tr.lst, List.length_append, List.length_cons, cnt_lst l, cnt_lst r]; omega
theorem findT_lst {n : Int} : ∀ {T : Tr}, Asc T.lst → findT n T = cntL n T.lst
  | .nil, _ => rfl
  | .node m k l r, h => by
    obtain ⟨h1, h2, h3, h4⟩ := Asc.parts (show Asc (l.lst ++ (m, k) :: r.lst) from h)
    simp only at h3 h4
    simp only [findT, Tr.lst, cntL_app, cntL]
    by_cases he : n = m
    · subst he
      rw [if_pos rfl, if_pos rfl, cntL_none (fun p hp => by have := h3 p hp; omega), cntL_none (fun p hp => by have := h4 p hp; omega)]; omega
    · rw [if_neg he, if_neg (show ¬ m = n from fun e => he e.symm)]
      by_cases hl : n < m
      · rw [if_pos hl, findT_lst h1, cntL_none (A := r.lst) (fun p hp => by have := h4 p hp; omega)]; omega
      · rw [if_neg hl, findT_lst h2, cntL_none (A := l.lst) (fun p hp => by have := h3 p hp; omega)]; omega
theorem lowT_lst {n : Int} : ∀ {T : Tr}, Asc T.lst → lowT n T = lowL n T.lst
  | .nil, _ => rfl
  | .node m k l r, h => by
    obtain ⟨h1, h2, h3, h4⟩ := Asc.parts (show Asc (l.lst ++ (m, k) :: r.lst) from h)
    simp only at h3 h4
    simp only [lowT, Tr.lst, lowL_app, lowL]
    by_cases hl : n ≤ m
    · rw [if_pos hl, if_neg (by omega), lowT_lst h1, lowL_none (A := r.lst) (fun p hp => by have := h4 p hp; omega)]; omega
    · rw [if_neg hl, if_pos (by omega), lowT_lst h2, lowL_all (A := l.lst) (fun p hp => by have := h3 p hp; omega), all_lst]; omega
def loL : List (Int × Nat) → Int
  | [] => 0
  | p :: _ => p.1
def hiL : List (Int × Nat) → Int
  | [] => 0
  | [p] => p.1
  | _ :: q :: L => hiL (q :: L)
theorem loL_app : ∀ {A : List (Int × Nat)} (B), A ≠ [] → loL (A ++ B) = loL A
  | [], _, h => absurd rfl h
  | _ :: _, _, _ => rfl
theorem hiL_app : ∀ (A : List (Int × Nat)) {B : List (Int × Nat)}, B ≠ [] → hiL (A ++ B) = hiL B
  | [], _, _ => rfl
  | [p], [], h => absurd rfl h
  | [p], q :: B, _ => rfl
  | p :: q :: A, B, h => by
    show hiL (q :: (A ++ B)) = _
    exact hiL_app (q :: A) h
theorem lst_ne : ∀ {T : Tr}, T ≠ .nil → T.lst ≠ []
  | .nil, h => absurd rfl h
  | .node _ _ _ _, _ => by simp [Tr.lst]
theorem loT_lst : ∀ T : Tr, T ≠ .nil → loT T = loL T.lst
  | .nil, h => absurd rfl h
  | .node n k .nil r, _ => rfl
  | .node n k (.node a b c d) r, _ => by
    have h := loT_lst (.node a b c d) (by simp)
    show loT (.node a b c d) = loL ((Tr.node a b c d).lst ++ (n, k) :: r.lst)
    rw [loL_app _ (lst_ne (by simp)), h]
theorem hiT_lst : ∀ T : Tr, T ≠ .nil → hiT T = hiL T.lst
  | .nil, h => absurd rfl h
  | .node n k l .nil, _ => by
    show n = hiL (l.lst ++ [(n, k)])
    rw [hiL_app _ (by simp)]; rfl
  | .node n k l (.node a b c d), _ => by
    have h := hiT_lst (.node a b c d) (by simp)
    show hiT (.node a b c d) = hiL (l.lst ++ ((n, k) :: (Tr.node a b c d).lst))
    rw [hiL_app _ (by simp), h]
    show _ = hiL ([(n, k)] ++ (Tr.node a b c d).lst)
    rw [hiL_app _ (lst_ne (by simp))]
theorem firstT_lst : ∀ T : Tr, T ≠ .nil → (firstT T).1 :: (firstT T).2.lst = T.lst
  | .nil, h => absurd rfl h
  | .node n k .nil r, _ => rfl
  | .node n k (.node a b c d) r, _ => by
    have h := firstT_lst (.node a b c d) (by simp)
    show (firstT (.node a b c d)).1 :: (levT (.node n k (firstT (.node a b c d)).2 r)).lst = (Tr.node a b c d).lst ++ (n, k) :: r.lst
    rw [levT_lst, ← h]; rfl
theorem delL_low {n : Int} {A B : List (Int × Nat)} (hB : ∀ p ∈ B, p.1 ≠ n) : delL n (A ++ B) = delL n A ++ B := by
  induction A with
  | nil =>
    simp only [List.nil_append, delL]
    induction B with
    | nil => rfl
    | cons p B ih =>
      have h1 := hB p (by simp)
      obtain ⟨m, j⟩ := p
      simp only [delL]; rw [if_neg h1, ih (fun q hq => hB q (List.mem_cons_of_mem _ hq))]
  | cons p A ih =>
    obtain ⟨m, j⟩ := p
    simp only [List.cons_append, delL]
    split
    · split <;> rfl
    · rw [ih]; rfl
theorem delL_high {n : Int} {A B : List (Int × Nat)} (hA : ∀ p ∈ A, p.1 ≠ n) : delL n (A ++ B) = A ++ delL n B := by
  induction A with
  | nil => rfl
  | cons p A ih =>
    have h1 := hA p (by simp)
    obtain ⟨m, j⟩ := p
    simp only [List.cons_append, delL]
    rw [if_neg h1, ih (fun q hq => hA q (List.mem_cons_of_mem _ hq))]
theorem takeT_lst {n : Int} : ∀ {T : Tr}, Asc T.lst → (takeT n T).lst = delL n T.lst
  | .nil, _ => rfl
  | .node m j l r, h => by
    obtain ⟨h1, h2, h3, h4⟩ := Asc.parts (show Asc (l.lst ++ (m, j) :: r.lst) from h)
    simp only at h3 h4
    unfold takeT
    by_cases hl : n < m
    · rw [if_pos hl, levT_lst]
      simp only [Tr.lst]
      rw [takeT_lst h1, delL_low (fun p hp => by
        rcases List.mem_cons.1 hp with rfl | hp
        · simp only; omega
        · have := h4 p hp; omega)]
    · rw [if_neg hl]
      by_cases hg : m < n
      · rw [if_pos hg, levT_lst]
        simp only [Tr.lst]
        rw [takeT_lst h2, delL_high (fun p hp => by have := h3 p hp; omega), delL, if_neg (by omega)]
      · rw [if_neg hg]
        obtain rfl : m = n := by omega
        show _ = delL m (l.lst ++ (m, j) :: r.lst)
        rw [delL_high (fun p hp => by have := h3 p hp; omega), delL, if_pos rfl]
        by_cases hj : 1 < j
        · rw [if_pos hj, if_pos hj, levT_lst]; rfl
        · rw [if_neg hj, if_neg hj]
          cases r with
          | nil => simp [levT_lst, Tr.lst]
          | node m' j' l' r' =>
            simp only [levT_lst]
            show l.lst ++ (firstT (.node m' j' l' r')).1 :: (firstT (.node m' j' l' r')).2.lst = _
            rw [firstT_lst _ (by simp)]
theorem mem_insL {n : Int} {k : Nat} : ∀ {L : List (Int × Nat)} {p}, p ∈ insL n k L → p.1 = n ∨ p ∈ L
  | [], p, h => by simp [insL] at h; left; rw [h]
  | (m, j) :: L, p, h => by
    simp only [insL] at h
    split at h
    · rcases List.mem_cons.1 h with rfl | h
      · exact .inl rfl
      · exact .inr h
    · split at h
      · rcases List.mem_cons.1 h with rfl | h
        · exact .inr (by simp)
        · exact (mem_insL h).imp id (List.mem_cons_of_mem _)
      · rcases List.mem_cons.1 h with rfl | h
        · left; simp only; omega
        · exact .inr (List.mem_cons_of_mem _ h)
theorem one_insL {n : Int} {k : Nat} (hk : 1 ≤ k) : ∀ {L : List (Int × Nat)}, (∀ p ∈ L, 1 ≤ p.2) → ∀ p ∈ insL n k L, 1 ≤ p.2
  | [], _, p, hp => by simp [insL] at hp; rw [hp]; exact hk
  | (m, j) :: L, h, p, hp => by
    simp only [insL] at hp
    split at hp
    · rcases List.mem_cons.1 hp with rfl | hp
      · exact hk
      · exact h p hp
    · split at hp
      · rcases List.mem_cons.1 hp with rfl | hp
        · exact h _ (by simp)
        · exact one_insL hk (fun q hq => h q (List.mem_cons_of_mem _ hq)) p hp
      · rcases List.mem_cons.1 hp with rfl | hp
        · simp only; omega
        · exact h p (List.mem_cons_of_mem _ hp)
theorem asc_insL {n : Int} {k : Nat} : ∀ {L : List (Int × Nat)}, Asc L → Asc (insL n k L)
  | [], _ => by simp [insL, Asc]
  | (m, j) :: L, h => by
    have hp := List.pairwise_cons.1 (show List.Pairwise _ ((m, j) :: L) from h)
    simp only [insL]
    split
    · rename_i hn
      refine List.pairwise_cons.2 ⟨fun q hq => ?_, h⟩
      rcases List.mem_cons.1 hq with rfl | hq
      · exact hn
      · have := hp.1 q hq; simp only at this ⊢; omega
    · split
      · rename_i hn hm
        refine List.pairwise_cons.2 ⟨fun q hq => ?_, asc_insL hp.2⟩
        rcases mem_insL hq with e | hq
        · simp only; omega
        · exact hp.1 q hq
      · exact List.pairwise_cons.2 ⟨fun q hq => hp.1 q hq, hp.2⟩
theorem OkL.ins {n : Int} {k : Nat} {L : List (Int × Nat)} (h : OkL L) (hn : I64 n) (hk : 1 ≤ k) : OkL (insL n k L) :=
  ⟨asc_insL h.asc, one_insL hk h.one, fun p hp => (mem_insL hp).elim (fun e => e ▸ hn) (fun h' => h.in64 p h')⟩
theorem sumL_ins {n : Int} {k : Nat} : ∀ L : List (Int × Nat), sumL (insL n k L) = sumL L + k
  | [] => by simp [insL, sumL]
  | (m, j) :: L => by
    simp only [insL]
    split
    · simp only [sumL]; omega
    · split
      · simp only [sumL, sumL_ins L]; omega
      · simp only [sumL]; omega
theorem mem_delL {n : Int} : ∀ {L : List (Int × Nat)} {p}, p ∈ delL n L → ∃ q ∈ L, p.1 = q.1
  | (m, j) :: L, p, h => by
    simp only [delL] at h
    split at h
    · split at h
      · rcases List.mem_cons.1 h with rfl | h
        · exact ⟨(m, j), by simp, rfl⟩
        · exact ⟨p, List.mem_cons_of_mem _ h, rfl⟩
      · exact ⟨p, List.mem_cons_of_mem _ h, rfl⟩
    · rcases List.mem_cons.1 h with rfl | h
      · exact ⟨(m, j), by simp, rfl⟩
      · obtain ⟨q, h1, h2⟩ := mem_delL h; exact ⟨q, List.mem_cons_of_mem _ h1, h2⟩
theorem OkL.tail {p : Int × Nat} {L : List (Int × Nat)} (h : OkL (p :: L)) : OkL L :=
  ⟨(List.pairwise_cons.1 h.asc).2, fun q hq => h.one q (List.mem_cons_of_mem _ hq), fun q hq => h.in64 q (List.mem_cons_of_mem _ hq)⟩
theorem OkL.del {n : Int} : ∀ {L : List (Int × Nat)}, OkL L → OkL (delL n L)
  | [], h => h
  | (m, j) :: L, h => by
    have hp := List.pairwise_cons.1 (show List.Pairwise _ ((m, j) :: L) from h.asc)
    have ht := h.tail
    simp only [delL]
    split
    · split
      · refine ⟨List.pairwise_cons.2 ⟨fun q hq => hp.1 q hq, hp.2⟩, fun q hq => ?_, fun q hq => ?_⟩
        · rcases List.mem_cons.1 hq with rfl | hq
          · simp only; omega
          · exact ht.one q hq
        · rcases List.mem_cons.1 hq with rfl | hq
          · exact h.in64 (m, j) (by simp)
          · exact ht.in64 q hq
      · exact ht
    · have hd := OkL.del (n := n) ht
      refine ⟨List.pairwise_cons.2 ⟨fun q hq => ?_, hd.asc⟩, fun q hq => ?_, fun q hq => ?_⟩
      · obtain ⟨q', h1, h2⟩ := mem_delL hq
        have := hp.1 q' h1; simp only at this ⊢; omega
      · rcases List.mem_cons.1 hq with rfl | hq
        · exact h.one (m, j) (by simp)
        · exact hd.one q hq
      · rcases List.mem_cons.1 hq with rfl | hq
        · exact h.in64 (m, j) (by simp)
        · exact hd.in64 q hq
theorem sumL_del (n : Int) : ∀ L : List (Int × Nat), sumL (delL n L) ≤ sumL L
  | [] => Nat.le_refl _
  | (m, j) :: L => by
    have := sumL_del n L
    simp only [delL]
    split
    · split <;> (simp only [sumL]; omega)
    · simp only [sumL]; omega
/-! ### The bag -/
def BagL (w : World) (F : Nat → Prop) (b : Nat) (L : List (Int × Nat)) (o : Nat) : Prop := ∃ T, BagT w F b T o ∧ T.lst = L ∧ OkL L
def BagGL (w : World) (F : Nat → Prop) (b : Nat) (L : List (Int × Nat)) (o : Nat) (w' : World) : Prop :=
  ∃ F', BagL w' F' b L o ∧ (∀ i, F' i → (F i ∨ w.heap.size ≤ i) ∧ i < w'.heap.size) ∧ Only F w w'
def chkV (p : Int × Bool) : Int := chk p.1 p.2
/-- A value is put: the list, the overs. -/
def putLs (n : Int) (ov : Bool) (L : List (Int × Nat)) (o : Nat) : List (Int × Nat) × Nat := if chk n ov = 0 then (if ov = true then (L, o + 1) else (insL n 1 L, o)) else (L, o)
def cntLs (n : Int) (ov : Bool) (L : List (Int × Nat)) (o : Nat) : Nat := if chk n ov = 0 then (if ov = true then o else cntL n L) else 0
/-- A value is taken: what comes back, the list, the overs. -/
def takeLs (n : Int) (ov : Bool) (L : List (Int × Nat)) (o : Nat) : Int × List (Int × Nat) × Nat :=
  if chk n ov = 0 then (if cntLs n ov L o = 0 then (6, L, o) else if ov = true then (0, L, o - 1) else (0, delL n L, o)) else (2, L, o)
def endLs (L : List (Int × Nat)) (o : Nat) (n : Int) : Bool × Int × Bool := if 0 < o then (true, 0, true) else if L = [] then (false, 0, false) else (false, n, true)
section
variable {w : World} {F : Nat → Prop} {b o : Nat} {L : List (Int × Nat)}
theorem BagL.below {w' : World} (h : BagL w F b L o) (hb : Below w.heap.size w w') : BagL w' F b L o := by
  obtain ⟨T, h1, h2⟩ := h; exact ⟨T, h1.below hb, h2⟩
theorem BagL.keep {w' : World} {S : Nat → Prop} (h : BagL w F b L o) (ho : Only S w w') (hn : ∀ k, F k → k < w.heap.size → ¬ S k) : BagL w' F b L o := by
  obtain ⟨T, h1, h2⟩ := h; exact ⟨T, h1.keep ho hn, h2⟩
theorem bnew_L (w : World) : Calls Try.prog 8 #[] w fun e w' => e = .returned (.pointer (some ⟨w.heap.size, 0, none⟩)) ∧ BagL w' (fun i => i = w.heap.size) w.heap.size [] 0 ∧ Below w.heap.size w w' ∧ w'.heap.size = w.heap.size + 1 :=
  (bnew_any w).mono fun _ _ ⟨h1, h2, h3⟩ => ⟨h1, ⟨.nil, h2, rfl, OkL.nil⟩, h3⟩
theorem blen_L (h : BagL w F b L o) (hb : o + sumL L ≤ 1099511627776) : Calls Try.prog 16 #[.pointer (some ⟨b, 0, none⟩)] w fun e w' => e = .returned (.int .i64 ((o + sumL L : Nat) : Int)) ∧ Below w.heap.size w w' := by
  obtain ⟨T, h1, rfl, h3⟩ := h
  rw [← all_lst] at hb ⊢
  exact blen_any h1 hb
theorem bplace_L (n : Int) (h : BagL w F b L o) (hb : sumL L ≤ 1099511627776) : Calls Try.prog 13 #[.pointer (some ⟨b, 0, none⟩), .int .i64 n] w fun e w' => e = .returned (.int .i64 (lowL n L : Int)) ∧ Below w.heap.size w w' := by
  obtain ⟨T, h1, rfl, h3⟩ := h
  rw [← lowT_lst h3.asc]
  exact bplace_any n h1 (by rw [all_lst]; exact hb)
theorem bcount_L (n : Int) (ov : Bool) (h : BagL w F b L o) : Calls Try.prog 10 #[.pointer (some ⟨b, 0, none⟩), .agg #[.int .i64 n, .bool ov]] w fun e w' => e = .returned (.int .i64 (cntLs n ov L o : Int)) ∧ Below w.heap.size w w' := by
  obtain ⟨T, h1, rfl, h3⟩ := h
  have := bcount_any n ov h1
  unfold countB at this
  rw [findT_lst h3.asc] at this
  exact this
theorem bcounts_L (h : BagL w F b L o) (hb : sumL L ≤ 1099511627776) : Calls Try.prog 12 #[.pointer (some ⟨b, 0, none⟩)] w fun e W' => ∃ v, e = .returned v ∧ OftRow w W' v L ∧ Below w.heap.size w W' := by
  obtain ⟨T, h1, rfl, h3⟩ := h
  exact bcounts_any h1 (Nat.le_trans (len_sumL h3.one) hb)
theorem bput_L (n : Int) (ov : Bool) (hn : I64 n) (h : BagL w F b L o) (h0 : o + 1 ≤ 1099511627776) (h1 : sumL L + 1 ≤ 1099511627776) :
    Calls Try.prog 9 #[.pointer (some ⟨b, 0, none⟩), .agg #[.int .i64 n, .bool ov]] w fun e w' => e = .returned (.int .i64 (chk n ov)) ∧ BagGL w F b (putLs n ov L o).1 (putLs n ov L o).2 w' := by
  obtain ⟨T, g1, rfl, g3⟩ := h
  refine (bput_any n ov g1 h0 (by rw [all_lst]; exact h1) (by rw [cnt_lst]; have := len_sumL g3.one; omega)).mono ?_
  rintro e w' ⟨rfl, F', h2, h4, h5⟩
  refine ⟨rfl, F', ?_, h4, h5⟩
  unfold putB at h2
  unfold putLs
  split
  · rename_i hc
    rw [if_pos hc] at h2
    split
    · rename_i hv; rw [if_pos hv] at h2; exact ⟨_, h2, rfl, g3⟩
    · rename_i hv; rw [if_neg hv] at h2; exact ⟨_, h2, putT_lst g3.asc, g3.ins hn (Nat.le_refl _)⟩
  · rename_i hc; rw [if_neg hc] at h2; exact ⟨_, h2, rfl, g3⟩
theorem btake_L (n : Int) (ov : Bool) (h : BagL w F b L o) (h0 : o ≤ 1099511627776) (h1 : sumL L ≤ 1099511627776) :
    Calls Try.prog 11 #[.pointer (some ⟨b, 0, none⟩), .agg #[.int .i64 n, .bool ov]] w fun e w' => e = .returned (.int .i64 (takeLs n ov L o).1) ∧ BagGL w F b (takeLs n ov L o).2.1 (takeLs n ov L o).2.2 w' := by
  obtain ⟨T, g1, rfl, g3⟩ := h
  have hcnt : countB n ov T o = cntLs n ov T.lst o := by unfold countB cntLs; rw [findT_lst g3.asc]
  have hres : (takeB n ov T o).1 = (takeLs n ov T.lst o).1 := by
    unfold takeB takeLs; rw [hcnt]
    split
    · split
      · rfl
      · split <;> rfl
    · rfl
  refine (btake_any n ov g1 h0 (by rw [all_lst]; exact h1) (by rw [cnt_lst]; have := len_sumL g3.one; omega)).mono ?_
  rintro e w' ⟨rfl, F', h2, h4, h5⟩
  refine ⟨by rw [hres], F', ?_, h4, h5⟩
  unfold takeB at h2
  unfold takeLs
  rw [hcnt] at h2
  split
  · rename_i hc
    rw [if_pos hc] at h2
    split
    · rename_i hv; rw [if_pos hv] at h2; exact ⟨_, h2, rfl, g3⟩
    · rename_i hv
      rw [if_neg hv] at h2
      split
      · rename_i hv; rw [if_pos hv] at h2; exact ⟨_, h2, rfl, g3⟩
      · rename_i hv; rw [if_neg hv] at h2; exact ⟨_, h2, takeT_lst g3.asc, g3.del⟩
  · rename_i hc; rw [if_neg hc] at h2; exact ⟨_, h2, rfl, g3⟩
theorem all_zero {T : Tr} (h : OkL T.lst) : T.all = 0 ↔ T.lst = [] := by
  rw [all_lst]
  constructor
  · intro h0
    have := len_sumL h.one
    exact List.eq_nil_of_length_eq_zero (by omega)
  · intro h0; rw [h0]; rfl
theorem endB_L {T : Tr} (h : OkL T.lst) (n : Int) : endB T o n = endLs T.lst o n := by
  unfold endB endLs
  simp only [all_zero h]
theorem bleast_L (h : BagL w F b L o) (hb : o + sumL L ≤ 1099511627776) : Calls Try.prog 14 #[.pointer (some ⟨b, 0, none⟩)] w fun e w' => e = .returned (endP (endLs L o (loL L)).1 (endLs L o (loL L)).2.1 (endLs L o (loL L)).2.2) ∧ Below w.heap.size w w' := by
  obtain ⟨T, g1, rfl, g3⟩ := h
  have := bleast_any g1 (by rw [all_lst]; exact hb)
  rw [endB_L g3] at this
  by_cases hT : T = .nil
  · subst hT; simpa [Tr.lst, loT, loL] using this
  · rw [loT_lst T hT] at this; exact this
theorem bmost_L (h : BagL w F b L o) (hb : o + sumL L ≤ 1099511627776) : Calls Try.prog 15 #[.pointer (some ⟨b, 0, none⟩)] w fun e w' => e = .returned (endP (endLs L o (hiL L)).1 (endLs L o (hiL L)).2.1 (endLs L o (hiL L)).2.2) ∧ Below w.heap.size w w' := by
  obtain ⟨T, g1, rfl, g3⟩ := h
  have := bmost_any g1 (by rw [all_lst]; exact hb)
  rw [endB_L g3] at this
  by_cases hT : T = .nil
  · subst hT; simpa [Tr.lst, hiT, hiL] using this
  · rw [hiT_lst T hT] at this; exact this
end
end Go.Proofs.Ytjcbikkihijkiaa
