/- Parts of the proof: Own SlL. -/
import Derived.Test.YtangcgfchalnaaaYab
/- Slices of the call's own, at any place in their block: append, cut. No program. -/
namespace Go.Proofs.Ytangcgfchalnaaa
open Go.RowKit
/-- The slice value v with n elements owns the cells xs, in a block of F, from some place on. -/
def RowAt (w : World) (F : Nat → Prop) (e : TypeId) (size : Nat) (v : Value) (n : Nat) (xs : List Value) : Prop :=
  xs.length = n * size ∧ ((v = .slice none 0 0 ∧ n = 0) ∨
   ∃ g o c cur, v = .slice (some ⟨g, o, none⟩) n c ∧ F g ∧ w.heap[g]? = some (.cells cur e (0, 0)) ∧ n ≤ c ∧ c ≤ maxLen ∧ o + c * size ≤ cur.size ∧ (cur.toList.drop o).take (n * size) = xs)
section
variable {w w' : World} {F G S : Nat → Prop} {e : TypeId} {size n : Nat} {v : Value} {xs : List Value}
theorem RowAt.nil_ : RowAt w F e size (.slice none 0 0) 0 [] := ⟨by simp, .inl ⟨rfl, rfl⟩⟩
theorem RowAt.weak (h : RowAt w F e size v n xs) (hG : ∀ k, k < w.heap.size → F k → G k) : RowAt w G e size v n xs :=
  ⟨h.1, h.2.imp id fun ⟨g, o, c, cur, h1, h2, h3, h4⟩ => ⟨g, o, c, cur, h1, hG g (only_lt h3) h2, h3, h4⟩⟩
theorem RowAt.lt (h : RowAt w F e size v n xs) : ∀ k, v.ownBlock = some k → F k ∧ k < w.heap.size := by
  intro k hk
  rcases h.2 with ⟨rfl, _⟩ | ⟨g, o, c, cur, rfl, h2, h3, _⟩
  · cases hk
  · cases hk; exact ⟨h2, only_lt h3⟩
theorem RowAt.keep (h : RowAt w F e size v n xs) (ho : Only S w w') (hn : ∀ k, F k → k < w.heap.size → ¬ S k) : RowAt w' F e size v n xs :=
  ⟨h.1, h.2.imp id fun ⟨g, o, c, cur, h1, h2, h3, h4⟩ => ⟨g, o, c, cur, h1, h2, ho.get h3 (hn g h2 (only_lt h3)), h4⟩⟩
theorem RowAt.keep' (h : RowAt w F e size v n xs) (ho : Only S w w') (hn : ∀ k, v.ownBlock = some k → ¬ S k) : RowAt w' F e size v n xs :=
  ⟨h.1, h.2.imp id fun ⟨g, o, c, cur, h1, h2, h3, h4⟩ => ⟨g, o, c, cur, h1, h2, ho.get h3 (hn g (by rw [h1]; rfl)), h4⟩⟩
theorem RowAt.below (h : RowAt w F e size v n xs) (hb : Below w.heap.size w w') : RowAt w' F e size v n xs := h.keep (S := fun _ => False) (Only.of_below hb) (fun _ _ _ h => h)
theorem row_cells {g o c : Nat} {cur : Array Value} (h3 : w.heap[g]? = some (.cells cur e (0, 0))) (h7 : (cur.toList.drop o).take (n * size) = xs) (_h5 : n ≤ c) : ∀ j u, xs[j]? = some u → w.cell? ((⟨g, o, none⟩ : Addr).add j) = some u := by
  intro j u hu
  have hadd : (⟨g, o, none⟩ : Addr).add j = ⟨g, o + j, none⟩ := by unfold Addr.add; split <;> simp_all
  rw [hadd, cell_of_row w g (o + j) cur e (0, 0) h3]
  rw [← h7, List.getElem?_take] at hu
  split at hu
  · rw [List.getElem?_drop] at hu; simpa using hu
  · cases hu
theorem RowAt.form (h : RowAt w F e size v n xs) : ∃ A c, v = .slice A n c ∧ n ≤ c ∧ c ≤ maxLen ∧ Reads w w.heap.size size A n xs ∧ (A = none → c = 0) ∧ ∀ ad, A = some ad → v.ownBlock = some ad.block := by
  rcases h.2 with ⟨rfl, rfl⟩ | ⟨g, o, c, cur, rfl, h2, h3, h4, h5, h6, h7⟩
  · have : xs = [] := List.eq_nil_of_length_eq_zero (by simpa using h.1)
    subst this
    exact ⟨none, 0, rfl, Nat.le_refl _, by simp, Reads.none_, fun _ => rfl, fun ad h => by cases h⟩
  · refine ⟨some ⟨g, o, none⟩, c, rfl, h4, h5, ⟨h.1, fun _ => ⟨_, rfl, only_lt h3, row_cells h3 h7 h4⟩⟩, fun e => ?_, fun ad e => ?_⟩
    · cases e
    · cases e; rfl
/-- s[1:] -/
theorem RowAt.tail_ {A : Option Addr} {c : Nat} (h : RowAt w F e size (.slice A (n + 1) c) (n + 1) xs) : RowAt w F e size (.slice (if c = 1 then A else A.map (·.add size)) n (c - 1)) n (xs.drop size) := by
  refine ⟨by rw [List.length_drop, h.1, Nat.add_mul]; omega, ?_⟩
  rcases h.2 with ⟨_, h0⟩ | ⟨g, o, c', cur, h1, h2, h3, h4, h5, h6, h7⟩
  · omega
  · cases h1
    right
    by_cases hc : c = 1
    · subst hc
      rw [if_pos rfl]
      have hn : n = 0 := by omega
      subst hn
      refine ⟨g, o, 0, cur, rfl, h2, h3, by omega, by omega, by omega, ?_⟩
      rw [Nat.zero_mul, List.take_zero, List.drop_eq_nil_of_le (by rw [h.1]; omega)]
    · rw [if_neg hc]
      refine ⟨g, o + size, c - 1, cur, ?_, h2, h3, by omega, by omega, ?_, ?_⟩
      · simp only [Option.map_some, Value.slice.injEq, Option.some.injEq, and_true]
        unfold Addr.add; split <;> simp_all
      · have : c * size = (c - 1) * size + size := by rw [← Nat.succ_mul]; congr 1; omega
        omega
      · rw [← h7, List.drop_take, Nat.add_mul, Nat.one_mul, Nat.add_sub_cancel, List.drop_drop]
/-- s[:len(s)-1] -/
theorem RowAt.init_ {A : Option Addr} {c : Nat} (h : RowAt w F e size (.slice A (n + 1) c) (n + 1) xs) : RowAt w F e size (.slice A n c) n (xs.take (n * size)) := by
  have hl : n * size ≤ (n + 1) * size := Nat.mul_le_mul_right _ (by omega)
  refine ⟨by rw [List.length_take, h.1]; omega, ?_⟩
  rcases h.2 with ⟨_, h0⟩ | ⟨g, o, c', cur, h1, h2, h3, h4, h5, h6, h7⟩
  · omega
  · cases h1
    exact .inr ⟨g, o, c, cur, rfl, h2, h3, by omega, h5, h6, by rw [← h7, List.take_take, Nat.min_eq_left hl]⟩
end
section
variable {P : Program} (w : World)
theorem run_append_room_at (t ty e : TypeId) (i : TypeInfo) (ht : P.underlying t = some (.slice e)) (hi : P.info? e = some i)
    (g o sLen sCap : Nat) (cur : Array Value) (hg : w.heap[g]? = some (.cells cur e (0, 0)))
    (a : Addr) (m c : Nat) (news : List Value) (hl : news.length = m * i.size) (hnews : ∀ j u, news[j]? = some u → w.cell? (a.add j) = some u) (h1 : ∀ u ∈ news, u.oneCell' = true)
    (hroom : sLen + m ≤ sCap) (hfit : o + sLen * i.size + news.length ≤ cur.size) :
    (Builtin.append_ #[t, t] ty #[.slice (some ⟨g, o, none⟩) sLen sCap, .slice (some a) m c]).run P w =
      .ok (.slice (some ⟨g, o, none⟩) (sLen + m) sCap) (w.setRow g (cur.toList.take (o + sLen * i.size) ++ news ++ cur.toList.drop (o + sLen * i.size + news.length)).toArray) := by
  have hf := run_firstCells_some (P := P) w i.size m a m c news hl hnews
  have hst := run_storeCells_at P g (o + sLen * i.size) e news 0 cur w hg (by simpa using hfit) h1
  simp only [Nat.add_zero] at hst
  simp [Builtin.append_, run_underlying ht, sizeOf, typeInfo, hi, Builtin.lenOf, hroom, hf, Addr.add_lit, hst]
theorem run_append_row (t ty e : TypeId) (i : TypeInfo) (z : Value) (size bytes : Nat) (ht : P.underlying t = some (.slice e)) (hi : P.info? e = some i) (hz : i.zero = some z)
    (hsize : i.size = size) (hby : i.bytes = bytes) (hzs : z.cells.size = size) (F : Nat → Prop)
    (v : Value) (n : Nat) (xs : List Value) (hown : RowAt w F e size v n xs)
    (a : Addr) (m c : Nat) (news : List Value) (hm : 0 < m) (hl : news.length = m * size) (hnews : ∀ j u, news[j]? = some u → w.cell? (a.add j) = some u) (h1 : ∀ u ∈ news, u.oneCell' = true)
    (h63 : n + m ≤ maxLen) (hbytes : (n + m) * bytes ≤ 140737488355328) :
    ∃ v' w', (Builtin.append_ #[t, t] ty #[v, .slice (some a) m c]).run P w = .ok v' w' ∧ RowAt w' (fun k => v.ownBlock = some k ∨ k = w.heap.size) e size v' (n + m) (xs ++ news) ∧ Only (fun k => v.ownBlock = some k) w w' ∧ (v'.ownBlock = v.ownBlock ∨ v'.ownBlock = some w.heap.size) := by
  subst hsize
  subst hby
  have hsmall : n + m ≤ 9223372036854775807 := by simp only [maxLen] at h63; omega
  have hlen : (xs ++ news).length = (n + m) * i.size := by rw [List.length_append, hown.1, hl, Nat.add_mul]
  have grown : ∀ (old : Nat), old < n + m → 
      RowAt (w.drew.alloc (.cells (xs.toArray ++ news.toArray ++ Builtin.zeroCells z.cells (grownCap w (n + m) old e - (n + m))) e)) (fun k => v.ownBlock = some k ∨ k = w.heap.size) e i.size
        (.slice (some ⟨w.heap.size, 0, none⟩) (n + m) (grownCap w (n + m) old e)) (n + m) (xs ++ news) ∧
      Only (fun k => v.ownBlock = some k) w (w.drew.alloc (.cells (xs.toArray ++ news.toArray ++ Builtin.zeroCells z.cells (grownCap w (n + m) old e - (n + m))) e)) := by
    intro old ho
    have hge := grownCap_ge w (n + m) old e
    have hcm : grownCap w (n + m) old e ≤ maxLen := grownCap_le_maxLen w (n + m) old e h63
    refine ⟨⟨hlen, .inr ⟨w.heap.size, 0, _, _, rfl, .inr rfl, heap_alloc_new w.drew _, hge, hcm, ?_, ?_⟩⟩, ⟨rfl, rfl, rfl, by simp, fun k hk _ => Below.heap_alloc w.drew _ k hk⟩⟩
    · simp only [Array.size_append, List.size_toArray, size_zeroCells, hzs, hown.1, hl, ← Nat.add_mul, Nat.zero_add]
      apply Nat.mul_le_mul_right
      omega
    · simp only [Array.toList_append, List.append_assoc, List.drop_zero]
      rw [← List.append_assoc, ← hlen]
      exact List.take_left
  rcases hown.2 with ⟨rfl, rfl⟩ | ⟨g, o, cap, cur, rfl, hbg, hg, hnc, hcm, hcs, htake⟩
  · have hx : xs = [] := List.eq_nil_of_length_eq_zero (by simpa using hown.1)
    subst hx
    have hr := run_append_nil (P := P) w t ty e i z ht hi hz a m c news hl hnews (by omega) (by omega) (by have hb := hbytes; simp only [Nat.zero_add] at hb; omega)
    have hgr := grown 0 (by omega)
    simp only [Nat.zero_add, List.nil_append, Array.empty_append] at hgr ⊢
    exact ⟨_, _, hr, hgr.1, hgr.2, Or.inr rfl⟩
  · by_cases hroom : n + m ≤ cap
    · have hmul : (n + m) * i.size ≤ cap * i.size := Nat.mul_le_mul_right _ hroom
      rw [Nat.add_mul] at hmul
      have hfit : o + n * i.size + news.length ≤ cur.size := by rw [hl]; omega
      have hr := run_append_room_at (P := P) w t ty e i ht hi g o n cap cur hg a m c news hl hnews h1 hroom hfit
      refine ⟨_, _, hr, ⟨hlen, .inr ⟨g, o, cap, _, rfl, .inl rfl, setRow_heap w g cur _ e _ hg, hroom, hcm, ?_, ?_⟩⟩, ⟨rfl, rfl, rfl, by simp, fun k _ hk => setRow_other w g k _ (fun e => hk (by simp [Value.ownBlock, e]))⟩, Or.inl rfl⟩
      · simp only [List.size_toArray, List.length_append, List.length_take, List.length_drop, Array.length_toList]
        omega
      · have hlo : (cur.toList.take (o + n * i.size)).drop o = xs := by
          rw [List.drop_take, Nat.add_sub_cancel_left]; exact htake
        have hol : (cur.toList.take (o + n * i.size)).length = o + n * i.size := by rw [List.length_take, Array.length_toList]; omega
        show List.take _ (List.drop o (cur.toList.take (o + n * i.size) ++ news ++ cur.toList.drop (o + n * i.size + news.length))) = _
        rw [List.append_assoc, List.drop_append_of_le_length (by omega), hlo, ← List.append_assoc, ← hlen]
        exact List.take_left
    · have hr := run_append_grow (P := P) w t ty e i z ht hi hz ⟨g, o, none⟩ n cap xs hown.1 (row_cells hg htake hnc) a m c news hl hnews (by omega) (by omega) (growslice_fits (by omega) hbytes)
      have hgr := grown cap (by omega)
      exact ⟨_, _, hr, hgr.1, hgr.2, Or.inr rfl⟩
/-- At the list of a plain region's operations: append of m elements onto a slice of the call's own. -/
theorem wpL_row {ops : Array Oper} {rest : List Oper} {o : Oper} {a : Act} {Q : Exit → Act → World → Prop} (hgd : o.guard = none) (s x : Operand) (t : TypeId)
    (ho : o.op = .call { callee := .builtin .append, args := #[s, x], argTypes := #[t, t] })
    (e : TypeId) (i : TypeInfo) (z : Value) (size bytes : Nat) (ht : P.underlying t = some (.slice e)) (hi : P.info? e = some i) (hz : i.zero = some z)
    (hsize : i.size = size) (hby : i.bytes = bytes) (hzs : z.cells.size = size) (F : Nat → Prop)
    (v : Value) (n : Nat) (xs : List Value) (hs : a.eval s = v) (hown : RowAt w F e size v n xs)
    (ad : Addr) (m c : Nat) (news : List Value) (hx : a.eval x = .slice (some ad) m c) (hm : 0 < m) (hl : news.length = m * size) (hnews : ∀ j u, news[j]? = some u → w.cell? (ad.add j) = some u) (h1 : ∀ u ∈ news, u.oneCell' = true)
    (h63 : n + m ≤ maxLen) (hbytes : (n + m) * bytes ≤ 140737488355328)
    (h : ∀ v' w', RowAt w' (fun k => v.ownBlock = some k ∨ k = w.heap.size) e size v' (n + m) (xs ++ news) → Only (fun k => v.ownBlock = some k) w w' → (v'.ownBlock = v.ownBlock ∨ v'.ownBlock = some w.heap.size) → wpList P ops Q rest (a.put o.dst v') w') : wpList P ops Q (o :: rest) a w := by
  refine wpList_plain hgd fun K hK => ?_
  obtain ⟨v', w', hr, h2, h3, h4⟩ := run_append_row (P := P) w t o.type e i z size bytes ht hi hz hsize hby hzs F v n xs hown ad m c news hm hl hnews h1 h63 hbytes
  unfold Oper.wp execOp
  simp only [ho, resolve, invoke, builtin, Sem.run_bind, Sem.run_pure, Result.andThen_ok, List.map_toArray, List.map_cons, List.map_nil, hs, hx, hr]
  exact hK _ _ (h v' w' h2 h3 h4)
end
end Go.Proofs.Ytangcgfchalnaaa

/- What a slide's functions make of points. Plain lists; no program. -/
namespace Go.Proofs.Ytangcgfchalnaaa
open Go.RowKit
/-- A point: its time, its number (none is over here). -/
abbrev Pt := Int × Int
def pc (p : Pt) : List Value := [.int .i64 p.1, .int .i64 p.2, .bool false]
/-- Points as cells. -/
def pcs (P : List Pt) : List Value := P.flatMap pc
theorem pcs_nil : pcs [] = [] := rfl
theorem pcs_cons (p : Pt) (P : List Pt) : pcs (p :: P) = pc p ++ pcs P := rfl
theorem pcs_append (P Q : List Pt) : pcs (P ++ Q) = pcs P ++ pcs Q := by unfold pcs; rw [List.flatMap_append]
theorem pcs_len : ∀ P : List Pt, (pcs P).length = P.length * 3
  | [] => rfl
  | p :: P => by rw [pcs_cons, List.length_append, pcs_len P]; simp [pc]; omega
theorem pcs_drop3 (p : Pt) (P : List Pt) : (pcs (p :: P)).drop 3 = pcs P := rfl
theorem pcs_take_init (P : List Pt) (p : Pt) : (pcs (P ++ [p])).take (P.length * 3) = pcs P := by
  rw [pcs_append, ← pcs_len P, List.take_left]
theorem pcs_get : ∀ (P : List Pt) (k : Nat) (h : k < P.length), (pcs P)[k * 3]? = some (.int .i64 P[k].1) ∧ (pcs P)[k * 3 + 1]? = some (.int .i64 P[k].2) ∧ (pcs P)[k * 3 + 2]? = some (.bool false)
  | [], k, h => by simp at h
  | p :: P, 0, _ => ⟨rfl, rfl, rfl⟩
  | p :: P, k + 1, h => by
    have := pcs_get P k (by simpa using h)
    rw [show (k + 1) * 3 = k * 3 + 3 by omega]
    simpa [pcs_cons, pc] using this
theorem pcs_one : ∀ (P : List Pt), ∀ u ∈ pcs P, u.oneCell' = true
  | [], u, h => by simp [pcs_nil] at h
  | p :: P, u, h => by
    rw [pcs_cons, List.mem_append] at h
    rcases h with h | h
    · simp only [pc, List.mem_cons, List.not_mem_nil, or_false] at h
      rcases h with rfl | rfl | rfl <;> rfl
    · exact pcs_one P u h
/-- The sum of the numbers. -/
def sumN : List Pt → Int
  | [] => 0
  | p :: P => p.2 + sumN P
theorem sumN_append (P Q : List Pt) : sumN (P ++ Q) = sumN P + sumN Q := by
  induction P with
  | nil => simp [sumN]
  | cons p P ih => simp only [List.cons_append, sumN, ih]; omega
/-- What one number adds behind another one. -/
def stepN (a b : Int) : Int := if b < a then b else b - a
def stepsN : List Pt → Int
  | [] => 0
  | [_] => 0
  | p :: q :: P => stepN p.2 q.2 + stepsN (q :: P)
theorem stepsN_snoc (P : List Pt) (a b : Pt) : stepsN (P ++ [a, b]) = stepsN (P ++ [a]) + stepN a.2 b.2 := by
  induction P with
  | nil => simp [stepsN]
  | cons p P ih =>
    cases P with
    | nil => simp only [List.cons_append, List.nil_append, stepsN]; omega
    | cons q P => simp only [List.cons_append, stepsN] at ih ⊢; omega
/-- Does a number stand ahead of another one for good? -/
def aheadN (sign : Bool) (a b : Int) : Bool := if sign then decide (b < a) else decide (a < b)
/-- Those points that stand ahead of all that come behind them. -/
def sfx (sign : Bool) : List Pt → List Pt
  | [] => []
  | p :: P => if P.all (fun q => aheadN sign p.2 q.2) then p :: sfx sign P else sfx sign P
theorem sfx_sub (sign : Bool) : ∀ P : List Pt, (sfx sign P).Sublist P
  | [] => List.Sublist.slnil
  | p :: P => by
    unfold sfx; split
    · exact (sfx_sub sign P).cons_cons p
    · exact (sfx_sub sign P).cons p
theorem sfx_ne {sign : Bool} : ∀ {P : List Pt}, P ≠ [] → sfx sign P ≠ []
  | [], h => absurd rfl h
  | [p], _ => by simp [sfx]
  | p :: q :: P, _ => by
    unfold sfx; split
    · simp
    · exact sfx_ne (by simp)
theorem ahead_trans {sign : Bool} {a b c : Int} (h1 : aheadN sign a b = true) (h2 : aheadN sign b c = true) : aheadN sign a c = true := by
  unfold aheadN at *
  cases sign <;> simp at * <;> omega
/-- Behind one more point those stay that stand ahead of it, too; and it. -/
theorem sfx_snoc (sign : Bool) (x : Pt) : ∀ P : List Pt, sfx sign (P ++ [x]) = (sfx sign P).filter (fun p => aheadN sign p.2 x.2) ++ [x]
  | [] => rfl
  | p :: P => by
    have ih := sfx_snoc sign x P
    simp only [List.cons_append, sfx, List.all_append, List.all_cons, List.all_nil, Bool.and_true]
    by_cases h1 : (P.all fun q => aheadN sign p.2 q.2) = true
    · by_cases h2 : aheadN sign p.2 x.2 = true
      · simp [h1, h2, ih]
      · simp only [Bool.not_eq_true] at h2
        simp [h1, h2, ih]
    · simp only [Bool.not_eq_true] at h1
      simp [h1, ih]
/-- They rise, or fall: each stands ahead of the next one. -/
theorem sfx_chain (sign : Bool) : ∀ P : List Pt, (sfx sign P).Pairwise fun a b => aheadN sign a.2 b.2 = true
  | [] => by simp [sfx]
  | p :: P => by
    unfold sfx; split
    · rename_i h
      refine List.Pairwise.cons (fun q hq => ?_) (sfx_chain sign P)
      exact List.all_eq_true.1 h q ((sfx_sub sign P).subset hq)
    · exact sfx_chain sign P
/-- What is cut off at the end, one by one: the same as what does not stand ahead. -/
theorem filter_snoc_ahead {sign : Bool} {R : List Pt} {a x : Pt} (hp : (R ++ [a]).Pairwise fun a b => aheadN sign a.2 b.2 = true) :
    (aheadN sign a.2 x.2 = true → (R ++ [a]).filter (fun p => aheadN sign p.2 x.2) = R ++ [a]) ∧ (aheadN sign a.2 x.2 = false → (R ++ [a]).filter (fun p => aheadN sign p.2 x.2) = R.filter (fun p => aheadN sign p.2 x.2)) := by
  rw [List.pairwise_append] at hp
  refine ⟨fun h => ?_, fun h => ?_⟩
  · rw [List.filter_eq_self]
    intro p hm
    rcases List.mem_append.1 hm with hm | hm
    · exact ahead_trans (hp.2.2 p hm a (by simp)) h
    · simp only [List.mem_singleton] at hm; subst hm; exact h
  · rw [List.filter_append]; simp [h]
/-- Times rise. -/
def Rise (P : List Pt) : Prop := P.Pairwise fun a b => a.1 < b.1
/-- The first one goes. -/
theorem sfx_pop {sign : Bool} {p : Pt} {P : List Pt} (hr : Rise (p :: P)) : sfx sign P = match sfx sign (p :: P) with | [] => [] | q :: Q => if q.1 = p.1 then Q else q :: Q := by
  unfold Rise at hr
  rw [List.pairwise_cons] at hr
  have hne : ∀ q ∈ sfx sign P, q.1 ≠ p.1 := fun q hq e => by
    have := hr.1 q ((sfx_sub sign P).subset hq); omega
  by_cases h : (P.all fun q => aheadN sign p.2 q.2) = true
  · simp [sfx, h]
  · simp only [Bool.not_eq_true] at h
    simp only [sfx, h, Bool.false_eq_true, if_false]
    cases hs : sfx sign P with
    | nil => rfl
    | cons q Q =>
      have := hne q (by rw [hs]; simp)
      simp [this]
end Go.Proofs.Ytangcgfchalnaaa
