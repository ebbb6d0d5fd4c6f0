/- What Put makes of a buffer's blocks: cells, and plain law. -/
import Derived.Test.YtfblmmnofhkkaaaBfI
namespace Go.Proofs.Ytfblmmnofhkkaaa
open Go.RowKit
/-! ### A block's cells -/
theorem set_get {c : Array Value} {o j : Nat} {v : Value} (h : o < c.size) : (c.setIfInBounds o v)[j]? = if j = o then some v else c[j]? := by
  rw [Array.getElem?_setIfInBounds]
  by_cases e : o = j
  · subst e; simp [h]
  · rw [if_neg e, if_neg (fun h => e h.symm)]
theorem BlkC.get' {c : Array Value} {X : List Pt} (h : BlkC c X) {j : Nat} (hj : j < X.length * 3) : c[1 + j]? = (pcs X)[j]? := by
  have hl : j < (pcs X).length := by rw [pcs_len]; exact hj
  rw [List.getElem?_eq_getElem hl]
  exact h.get (List.getElem?_eq_getElem hl)
theorem BlkC.of_get {c : Array Value} {X : List Pt} (h1 : c.size = 193) (h2 : c[0]? = some (.int .i64 (X.length : Int))) (h3 : ∀ j, j < X.length * 3 → c[1 + j]? = (pcs X)[j]?) (h4 : X.length ≤ 64) : BlkC c X :=
  ⟨h1, h2, seg_of (pcs_len X) (fun j hj => by rw [Array.getElem?_toList]; exact h3 j hj), h4⟩
theorem BlkC.put {c : Array Value} {X : List Pt} (h : BlkC c X) (hl : X.length < 64) {k : Nat} (hk : k ≤ X.length) (q : Pt) {off : Nat} (ho : off + (X.length - k) * 3 ≤ 193) (hoff : X.length = k ∨ off = 1 + (k + 1) * 3) (n' : Nat) (hn' : n' = X.length + 1) :
    BlkC ((((((c.toList.take off ++ pcs (X.drop k) ++ c.toList.drop (off + (pcs (X.drop k)).length)).toArray.setIfInBounds (1 + k * 3) (.int .i64 q.1)).setIfInBounds (1 + k * 3 + 1) (.int .i64 q.2)).setIfInBounds (1 + k * 3 + 2) (.bool false)).setIfInBounds 0 (.int .i64 (n' : Int)))) (X.take k ++ q :: X.drop k) := by
  have hd : (X.drop k).length = X.length - k := List.length_drop
  have hpl : (pcs (X.drop k)).length = (X.length - k) * 3 := by rw [pcs_len, hd]
  have hcs : c.toList.length = 193 := by rw [Array.length_toList]; exact h.size
  obtain ⟨c1, hc1⟩ : ∃ c1, (c.toList.take off ++ pcs (X.drop k) ++ c.toList.drop (off + (pcs (X.drop k)).length)).toArray = c1 := ⟨_, rfl⟩
  have hs1 : c1.size = 193 := by rw [← hc1, List.size_toArray, splice_len (by rw [hpl, hcs]; exact ho), hcs]
  have hg1 : ∀ j, c1[j]? = if j < off then c[j]? else if j < off + (X.length - k) * 3 then (pcs (X.drop k))[j - off]? else c[j]? := fun j => by
    rw [← hc1, List.getElem?_toArray, splice_get (by rw [hpl, hcs]; exact ho), hpl, Array.getElem?_toList]
  rw [hc1]
  have hlen : (X.take k ++ q :: X.drop k).length = X.length + 1 := by rw [List.length_append, List.length_take, List.length_cons, hd]; omega
  refine BlkC.of_get (by simp [hs1]) ?_ (fun j hj => ?_) (by rw [hlen]; omega)
  · rw [set_get (by simp [hs1]), if_pos rfl, hlen, hn']
  · rw [hlen] at hj
    rw [set_get (by simp [hs1]), if_neg (by omega), set_get (by simp [hs1]; omega), set_get (by simp [hs1]; omega), set_get (by rw [hs1]; omega)]
    rw [pcs_append, pcs_cons, List.getElem?_append, List.getElem?_append, pcs_len, List.length_take, Nat.min_eq_left hk]
    have hpc : (pc q).length = 3 := rfl
    rw [hpc]
    by_cases h1 : j < k * 3
    · rw [if_neg (by omega), if_neg (by omega), if_neg (by omega), if_pos h1, hg1, ← pcs_take, List.getElem?_take, if_pos h1, ← h.get' (by omega)]
      split
      · rfl
      · rename_i hno
        rcases hoff with hx | hx
        · rw [if_neg (by omega)]
        · omega
    · rw [if_neg h1]
      by_cases h2 : j - k * 3 < 3
      · rw [if_pos h2]
        by_cases e0 : j = k * 3
        · subst e0; rw [if_neg (by omega), if_neg (by omega), if_pos rfl, Nat.sub_self]; rfl
        · by_cases e1 : j = k * 3 + 1
          · subst e1; rw [if_neg (by omega), if_pos (by omega), show k * 3 + 1 - k * 3 = 1 by omega]; rfl
          · obtain rfl : j = k * 3 + 2 := by omega
            rw [if_pos (by omega), show k * 3 + 2 - k * 3 = 2 by omega]; rfl
      · rw [if_neg h2, if_neg (by omega), if_neg (by omega), if_neg (by omega), hg1]
        rcases hoff with hx | hx
        · omega
        · rw [if_neg (by omega), if_pos (by omega)]; congr 1; omega
/-- The lower half stays. -/
theorem BlkC.low {c : Array Value} {X : List Pt} (h : BlkC c X) {k : Nat} (hk : k ≤ X.length) : BlkC (c.setIfInBounds 0 (.int .i64 (k : Int))) (X.take k) := by
  have hl : (X.take k).length = k := by rw [List.length_take]; omega
  refine BlkC.of_get (by simp [h.size]) (by rw [set_get (by rw [h.size]; omega), if_pos rfl, hl]) (fun j hj => ?_) (by have := h.le; omega)
  rw [hl] at hj
  rw [set_get (by rw [h.size]; omega), if_neg (by omega), h.get' (by omega), ← pcs_take, List.getElem?_take, if_pos hj]
/-- The upper half, copied into a new block. -/
theorem BlkC.high {zs : List Value} {X : List Pt} {k : Nat} (hk : k ≤ X.length) (hX : X.length ≤ 64) (hz : zs.length = 192) (m : Nat) (hm : m = X.length - k) {c : Array Value} (hc : c.toList = .int .i64 (m : Int) :: zs) :
    BlkC (c.toList.take 1 ++ pcs (X.drop k) ++ c.toList.drop (1 + (pcs (X.drop k)).length)).toArray (X.drop k) := by
  have hd : (X.drop k).length = X.length - k := List.length_drop
  have hp : (pcs (X.drop k)).length = (X.length - k) * 3 := by rw [pcs_len, hd]
  rw [hc]
  simp only [List.take_succ_cons, List.take_zero, List.cons_append, List.nil_append]
  rw [show 1 + (pcs (X.drop k)).length = (pcs (X.drop k)).length + 1 by omega, List.drop_succ_cons, hm, ← hd]
  refine BlkC.of_list (by omega) ?_
  simp only [List.length_drop, pcs_len, hz]; omega
/-! ### The blocks -/
section
variable {w w' : World} {F : Nat → Prop} {b n : Nat} {Z : List Blk} {v : Value} {fl : Int} {P : List Pt}
theorem ptrs_set {i x : Nat} {X X' : List Pt} (hi : i < Z.length) (hZ : Z[i] = (x, X)) : blkPtrs (Z.set i (x, X')) = blkPtrs Z := by
  unfold blkPtrs
  rw [List.map_set]
  apply List.ext_getElem?
  intro j
  rw [List.getElem?_set]
  split
  · rename_i e; subst e
    simp [hi, hZ]
  · rfl
/-- One block turns, and the count. -/
theorem BufC.one {i x : Nat} {X X' : List Pt} {wr : World} {c : Array Value} {n' : Nat} (h : BufC w F b Z v fl n) (hi : i < Z.length) (hZ : Z[i] = (x, X)) (hb : wr.heap[b]? = some (.cells (bufC v fl n') 60 (0, 0)))
    (hc : wr.heap[x]? = some (.cells c 64 (0, 0))) (hB : BlkC c X') (ho : Only (fun k => k = b ∨ k = x) w wr) : BufC wr F b (Z.set i (x, X')) v fl n' := by
  have hnd := h.nodup
  have hbx : w.heap[b]? = _ := h.buf
  have hzi : (x, X) ∈ Z := hZ ▸ List.getElem_mem hi
  have hmap : (Z.set i (x, X')).map (·.1) = Z.map (·.1) := by
    rw [List.map_set]
    apply List.ext_getElem?
    intro j
    rw [List.getElem?_set]
    split
    · rename_i e; subst e; simp [hi, hZ]
    · rfl
  refine ⟨h.inF, hb, ⟨by rw [ptrs_set hi hZ, List.length_set]; exact h.row.1, ?_⟩, fun y hy => ?_, by rw [hmap]; exact hnd⟩
  · rw [ptrs_set hi hZ, List.length_set]
    refine h.row.2.imp (fun h => h) ?_
    rintro ⟨g, o, cc, cur, h1, h2, h3, h4⟩
    refine ⟨g, o, cc, cur, h1, h2, ho.get h3 ?_, h4⟩
    rintro (rfl | rfl)
    · rw [h3] at hbx; cases hbx
    · obtain ⟨c2, hc2, _⟩ := (h.blks _ hzi).2
      rw [h3] at hc2; cases hc2
  · obtain ⟨j, hj, rfl⟩ := List.getElem_of_mem hy
    rw [List.length_set] at hj
    rw [List.getElem_set]
    split
    · exact ⟨(h.blks _ hzi).1, c, hc, hB⟩
    · rename_i hne
      obtain ⟨a1, a2⟩ := h.blks _ (List.getElem_mem hj)
      refine ⟨a1, a2.keep ho ?_⟩
      rintro (e | e)
      · obtain ⟨c2, hc2, _⟩ := a2
        rw [e, hbx] at hc2; cases hc2
      · have h1 : (Z.map (·.1))[i]'(by simpa using hi) = (Z.map (·.1))[j]'(by simpa using hj) := by simp [hZ, e]
        exact hne ((List.getElem_inj hnd).1 h1)
/-- A block is parted in two: the second one behind the first one. -/
theorem BufC.part {i x y : Nat} {X X1 X2 : List Pt} {wr : World} {c1 c2 : Array Value} {v' : Value} {G : Nat → Prop} (h : BufC w F b Z v fl n) (hi : i < Z.length) (hZ : Z[i] = (x, X)) (hb : wr.heap[b]? = some (.cells (bufC v' fl n) 60 (0, 0)))
    (hc1 : wr.heap[x]? = some (.cells c1 64 (0, 0))) (hB1 : BlkC c1 X1) (hc2 : wr.heap[y]? = some (.cells c2 64 (0, 0))) (hB2 : BlkC c2 X2) (hy : w.heap.size ≤ y) (hFG : ∀ k, F k → G k) (hGy : G y)
    (hr : RowAt wr G 61 1 v' (Z.length + 1) ((blkPtrs Z).take (i + 1) ++ .pointer (some ⟨y, 0, none⟩) :: (blkPtrs Z).drop (i + 1))) (ho : Only (fun k => k = b ∨ k = x ∨ v.ownBlock = some k) w wr) :
    BufC wr G b (Z.take i ++ (x, X1) :: (y, X2) :: Z.drop (i + 1)) v' fl n := by
  have hnd := h.nodup
  have hbx : w.heap[b]? = _ := h.buf
  have hzi : (x, X) ∈ Z := hZ ▸ List.getElem_mem hi
  have hs : Z = Z.take i ++ (x, X) :: Z.drop (i + 1) := by rw [← hZ, List.getElem_cons_drop, List.take_append_drop]
  have hkeep : ∀ z ∈ Z, z.1 ≠ x → F z.1 ∧ BlkW wr z.1 z.2 := fun z hz hne => by
    obtain ⟨a1, a2⟩ := h.blks z hz
    refine ⟨a1, a2.keep ho ?_⟩
    rintro (e | e | e)
    · obtain ⟨c3, hc3, _⟩ := a2
      rw [e, hbx] at hc3; cases hc3
    · exact hne e
    · obtain ⟨c3, hc3, _⟩ := a2
      rcases h.row.2 with ⟨rfl, _⟩ | ⟨g, o, cc, cur, rfl, h2, h3, h4⟩
      · cases e
      · cases e; rw [h3] at hc3; cases hc3
  rw [hs, List.map_append, List.map_cons, List.nodup_append] at hnd
  obtain ⟨n1, n2, n3⟩ := hnd
  rw [List.nodup_cons] at n2
  have hyn : ∀ z ∈ Z, z.1 ≠ y := fun z hz e => by have := (h.blks z hz).2.lt; omega
  have hT : ∀ z ∈ Z.take i, z ∈ Z := fun z hz => List.mem_of_mem_take hz
  have hD : ∀ z ∈ Z.drop (i + 1), z ∈ Z := fun z hz => List.mem_of_mem_drop hz
  refine ⟨hFG _ h.inF, hb, ?_, fun z hz => ?_, ?_⟩
  · have e1 : (Z.take i ++ (x, X1) :: (y, X2) :: Z.drop (i + 1)).length = Z.length + 1 := by simp; omega
    have e2 : blkPtrs (Z.take i ++ (x, X1) :: (y, X2) :: Z.drop (i + 1)) = (blkPtrs Z).take (i + 1) ++ .pointer (some ⟨y, 0, none⟩) :: (blkPtrs Z).drop (i + 1) := by
      unfold blkPtrs
      rw [← List.map_take, ← List.map_drop, ← List.take_append_getElem hi, hZ]
      simp
    rw [e1, e2]; exact hr
  · rcases List.mem_append.1 hz with hz | hz
    · obtain ⟨a, a2⟩ := hkeep z (hT z hz) (fun e => n3 _ (List.mem_map.2 ⟨z, hz, rfl⟩) x (by simp) e)
      exact ⟨hFG _ a, a2⟩
    · rcases List.mem_cons.1 hz with rfl | hz
      · exact ⟨hFG _ (h.blks _ hzi).1, c1, hc1, hB1⟩
      · rcases List.mem_cons.1 hz with rfl | hz
        · exact ⟨hGy, c2, hc2, hB2⟩
        · obtain ⟨a, a2⟩ := hkeep z (hD z hz) (fun e => n2.1 (List.mem_map.2 ⟨z, hz, e⟩))
          exact ⟨hFG _ a, a2⟩
  · rw [List.map_append, List.map_cons, List.map_cons, List.nodup_append]
    refine ⟨n1, ?_, ?_⟩
    · rw [List.nodup_cons, List.nodup_cons]
      refine ⟨?_, ?_, n2.2⟩
      · rw [List.mem_cons]
        rintro (e | e)
        · exact hyn _ hzi e
        · exact n2.1 e
      · intro e
        obtain ⟨z, hz, e⟩ := List.mem_map.1 e
        exact hyn z (hD z hz) e
    · intro a ha c hc
      rcases List.mem_cons.1 hc with rfl | hc
      · exact n3 a ha _ (by simp)
      · rcases List.mem_cons.1 hc with rfl | hc
        · obtain ⟨z, hz, rfl⟩ := List.mem_map.1 ha
          exact hyn z (hT z hz)
        · exact n3 a ha c (List.mem_cons_of_mem _ hc)
end
/-! ### Plain law -/
theorem flat_set {Bs : List (List Pt)} {k : Nat} (hk : k < Bs.length) (X : List Pt) : (Bs.set k X).flatten = (Bs.take k).flatten ++ X ++ (Bs.drop (k + 1)).flatten := by
  rw [List.set_eq_take_append_cons_drop, if_pos hk, List.flatten_append, List.flatten_cons, List.append_assoc]
theorem ins_set {Bs : List (List Pt)} {k : Nat} (hk : k < Bs.length) {q : Pt} (h1 : ∀ p ∈ (Bs.take k).flatten, p.1 < q.1) (h2 : ∀ p ∈ (Bs.drop (k + 1)).flatten, q.1 < p.1) : insP q Bs.flatten = (Bs.set k (insP q Bs[k])).flatten := by
  rw [flat_set hk, flat_at k hk, insP_mid h1 h2]
theorem good_set {Bs : List (List Pt)} (hG : Good Bs) {k : Nat} (hk : k < Bs.length) {q : Pt} (h1 : ∀ p ∈ (Bs.take k).flatten, p.1 < q.1) (h2 : ∀ p ∈ (Bs.drop (k + 1)).flatten, q.1 < p.1) : Good (Bs.set k (insP q Bs[k])) := by
  refine ⟨fun B hB => ?_, by rw [← ins_set hk h1 h2]; exact ins_rise hG.rise⟩
  rcases List.mem_or_eq_of_mem_set hB with hB | rfl
  · exact hG.ne B hB
  · unfold insP; simp
/-- A block parted in two. -/
theorem good_part {A C : List (List Pt)} {X : List Pt} (hG : Good (A ++ X :: C)) {k : Nat} (h0 : 0 < k) (hk : k < X.length) : Good (A ++ X.take k :: X.drop k :: C) ∧ (A ++ X.take k :: X.drop k :: C).flatten = (A ++ X :: C).flatten := by
  have e : (A ++ X.take k :: X.drop k :: C).flatten = (A ++ X :: C).flatten := by
    rw [List.flatten_append, List.flatten_append, List.flatten_cons, List.flatten_cons, List.flatten_cons, ← List.append_assoc (X.take k), List.take_append_drop]
  refine ⟨⟨fun B hB => ?_, by rw [e]; exact hG.rise⟩, e⟩
  rcases List.mem_append.1 hB with hB | hB
  · exact hG.ne B (by simp [hB])
  · rcases List.mem_cons.1 hB with rfl | hB
    · exact fun e => by have := congrArg List.length e; rw [List.length_take, List.length_nil] at this; omega
    · rcases List.mem_cons.1 hB with rfl | hB
      · exact fun e => by have := congrArg List.length e; simp at this; omega
      · exact hG.ne B (by simp [hB])
end Go.Proofs.Ytfblmmnofhkkaaa
