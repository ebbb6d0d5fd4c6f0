/- Parts of the proof: BfI BfO. -/
import Derived.Test.YtangcgfchalnaaaYag
import Derived.Lib.AppendZerosOnto
import Derived.Lib.Overlaps
import Derived.Lib.JoinLaws
import Derived.Lib.SliceRun
import Derived.Laws.Externs
/- slices.Insert of one block into a slice of the buffer's own. -/
namespace Go.Proofs.Ytangcgfchalnaaa
open Go.RowKit
theorem bInfo : (Try.prog.info? 103).map (fun i => (i.zero, i.size, i.bytes)) = some (some (.pointer none), 1, 8) := by kernel_rfl
theorem bSize (W : World) : (sizeOf 103).run Try.prog W = .ok 1 W := by
  obtain ⟨i, hi, _, h1, _⟩ := info_parts bInfo
  simp [sizeOf, typeInfo, hi, h1]
theorem run_copy_blks (w : World) (ty : TypeId) (g o dLen dCap : Nat) (a : Addr) (sLen sCap : Nat) (cur : Array Value) (t : TypeId) (cs : List Value)
    (hg : w.heap[g]? = some (.cells cur t (0, 0))) (hn : cs.length = Nat.min sLen dLen)
    (hsrc : ∀ j v, cs[j]? = some v → w.cell? (a.add j) = some v) (hfit : o + cs.length ≤ cur.size) (h1 : ∀ v ∈ cs, v.oneCell' = true) :
    (Builtin.copy_ #[100, 100] ty #[.slice (some ⟨g, o, none⟩) dLen dCap, .slice (some a) sLen sCap]).run Try.prog w =
      .ok (goInt (Nat.min sLen dLen)) (w.setRow g (cur.toList.take o ++ cs ++ cur.toList.drop (o + cs.length)).toArray) := by
  have hl := run_loadCells_list (P := Try.prog) w a cs hsrc
  have hst := run_storeCells_at Try.prog g o t cs 0 cur w hg (by simpa using hfit) h1
  obtain ⟨i, hi, _, h2, _⟩ := info_parts bInfo
  simp [Builtin.copy_, run_underlying Try.underlying100, Builtin.lenOf, Builtin.firstCells, sizeOf, typeInfo, hi, h2, ← hn, hl, hst]
theorem wpL_copyB {w : World} {ops : Array Oper} {rest : List Oper} {o : Oper} {a : Act} {Q : Exit → Act → World → Prop} (hgd : o.guard = none) (d s : Operand)
    (ho : o.op = .call { callee := .builtin .copy, args := #[d, s], argTypes := #[100, 100] }) (g off dLen dCap : Nat) (ad : Addr) (sLen sCap : Nat)
    (hd : a.eval d = .slice (some ⟨g, off, none⟩) dLen dCap) (hs : a.eval s = .slice (some ad) sLen sCap) (cur : Array Value) (t : TypeId) (hg : w.heap[g]? = some (.cells cur t (0, 0))) (cs : List Value) (hn : cs.length = Nat.min sLen dLen)
    (hsrc : ∀ j v, cs[j]? = some v → w.cell? (ad.add j) = some v) (hfit : off + cs.length ≤ cur.size) (h1 : ∀ v ∈ cs, v.oneCell' = true)
    (h : ∀ w', Hid (w'.heap[g]? = some (.cells (cur.toList.take off ++ cs ++ cur.toList.drop (off + cs.length)).toArray t (0, 0))) → Hid (Only (fun k => k = g) w w') → wpList Try.prog ops Q rest (a.put o.dst (goInt (Nat.min sLen dLen))) w') : wpList Try.prog ops Q (o :: rest) a w := by
  refine wpList_plain hgd fun K hK => ?_
  unfold Oper.wp execOp
  simp only [ho, resolve, invoke, builtin, Sem.run_bind, Sem.run_pure, Result.andThen_ok, List.map_toArray, List.map_cons, List.map_nil, hd, hs, run_copy_blks w o.type g off dLen dCap ad sLen sCap cur t cs hg hn hsrc hfit h1]
  exact hK _ _ (h _ (setRow_heap w g cur _ t _ hg) (only_setRow w g _))
/-! ### Cells, by their places -/
theorem splice_get {L cs : List Value} {a k : Nat} (h : a + cs.length ≤ L.length) : (L.take a ++ cs ++ L.drop (a + cs.length))[k]? = if k < a then L[k]? else if k < a + cs.length then cs[k - a]? else L[k]? := by
  rw [List.getElem?_append, List.getElem?_append]
  simp only [List.length_append, List.length_take, List.getElem?_take, List.getElem?_drop]
  have e : min a L.length = a := by omega
  rw [e]
  split
  · split
    · rfl
    · rfl
  · rw [if_neg (by omega)]; congr 1; omega
theorem splice_len {L cs : List Value} {a : Nat} (h : a + cs.length ≤ L.length) : (L.take a ++ cs ++ L.drop (a + cs.length)).length = L.length := by simp; omega
theorem seg_of {L X : List Value} {o m : Nat} (hX : X.length = m) (h : ∀ j, j < m → L[o + j]? = X[j]?) : (L.drop o).take m = X := by
  apply List.ext_getElem?
  intro j
  rw [List.getElem?_take, List.getElem?_drop]
  split
  · rename_i hj; exact h j hj
  · rw [List.getElem?_eq_none (by omega)]
theorem seg_get {L X : List Value} {o m : Nat} (h : (L.drop o).take m = X) : ∀ j, j < m → L[o + j]? = X[j]? := by
  intro j hj
  rw [← h, List.getElem?_take, if_pos hj, List.getElem?_drop]
theorem ins_get {X : List Value} {u : Value} {i j : Nat} (hi : i ≤ X.length) : (X.take i ++ u :: X.drop i)[j]? = if j < i then X[j]? else if j = i then some u else X[j - 1]? := by
  rw [List.getElem?_append, List.length_take, Nat.min_eq_left hi, List.getElem?_take]
  split
  · rfl
  · split
    · rename_i h; subst h; simp
    · obtain ⟨m, hm⟩ : ∃ m, j - i = m + 1 := ⟨j - i - 1, by omega⟩
      rw [hm, List.getElem?_cons_succ, List.getElem?_drop]; congr 1; omega
/-- One more cell let in, in place. -/
theorem seg_shift {L X : List Value} {u : Value} {o n i : Nat} (h : (L.drop o).take n = X) (hX : X.length = n) (hi : i ≤ n) (hL : o + n + 1 ≤ L.length) (L1 L2 : List Value)
    (h1 : L1 = L.take (o + (i + 1)) ++ X.drop i ++ L.drop (o + (i + 1) + (X.drop i).length)) (h2 : L2 = L1.take (o + i) ++ [u] ++ L1.drop (o + i + 1)) : (L2.drop o).take (n + 1) = X.take i ++ u :: X.drop i := by
  have hd : (X.drop i).length = n - i := by rw [List.length_drop, hX]
  have e1 : ∀ k, L1[k]? = if k < o + (i + 1) then L[k]? else if k < o + (i + 1) + (n - i) then (X.drop i)[k - (o + (i + 1))]? else L[k]? := fun k => by
    rw [h1, splice_get (by rw [hd]; omega), hd]
  have hl1 : L1.length = L.length := by rw [h1]; exact splice_len (by rw [hd]; omega)
  have e2 : ∀ k, L2[k]? = if k < o + i then L1[k]? else if k < o + i + 1 then ([u] : List Value)[k - (o + i)]? else L1[k]? := fun k => by
    rw [h2]; exact splice_get (cs := [u]) (by simp; omega)
  have hs := seg_get h
  refine seg_of (by simp; omega) (fun j hj => ?_)
  rw [ins_get (by omega), e2, e1]
  by_cases hj1 : j < i
  · rw [if_pos (by omega), if_pos hj1, if_pos (by omega)]; exact hs j (by omega)
  · by_cases hj2 : j = i
    · subst hj2
      rw [if_neg (by omega), if_pos (by omega), if_neg (by omega), if_pos rfl, Nat.sub_self]; rfl
    · rw [if_neg (by omega), if_neg (by omega), if_neg hj1, if_neg hj2, if_neg (by omega), if_pos (by omega), List.getElem?_drop]
      congr 1; omega
/-! ### Insert -/
/-- How an insertion ends. -/
def InsG (w : World) (v : Value) (n : Nat) (xs : List Value) (i : Nat) (u : Value) (e : Ending) (w' : World) : Prop :=
  ∃ v', e = .returned v' ∧ RowAt w' (fun k => v.ownBlock = some k ∨ w.heap.size ≤ k) 103 1 v' (n + 1) (xs.take i ++ u :: xs.drop i) ∧ Only (fun k => v.ownBlock = some k) w w'
theorem one_new {w : World} {H : Nat} {u : Value} {T : TypeId} (h : w.heap[H]? = some (.cells #[u] T (0, 0))) : ∀ j u1, ([u] : List Value)[j]? = some u1 → w.cell? ((⟨H, 0, none⟩ : Addr).add j) = some u1 := by
  intro j u1 hj
  match j, hj with
  | 0, hj => simp at hj; subst hj; exact cellAt (o := 0) h rfl
theorem one_one {u : Value} (h : u.oneCell' = true) : ∀ x ∈ ([u] : List Value), x.oneCell' = true := by intro x hx; simp at hx; subst hx; exact h
section
variable {w : World} {F : Nat → Prop} {v : Value} {n i H : Nat} {xs : List Value} {u : Value}
set_option maxRecDepth 100000 in
set_option maxHeartbeats 4000000 in
theorem insA (hr : RowAt w F 103 1 v n xs) (hn : n ≤ 65536) (hu : u.oneCell' = true) (hH : w.heap[H]? = some (.cells #[u] 103 (0, 0))) :
    Calls Try.prog 58 #[v, .int .i64 (n : Int), .slice (some ⟨H, 0, none⟩) 1 1] w (InsG w v n xs n u) := by
  obtain ⟨A, c, rfl, h1, h2, h3, h4, h5⟩ := hr.form
  obtain ⟨i0, hi, hz0, hz1, hz2⟩ := info_parts bInfo
  have HR := Lib.hid hr
  have HH := Lib.hid hH
  have hxl : xs.length = n := by have := hr.1; omega
  have HX := Lib.hid hxl
  unfold maxLen at h2
  clear hr hH hxl h3 h4 h5
  go_enter Try.func58, Try.ntmps58
  go_wp2_with (at_builtin; go_loud (refine wpL_row _ rfl _ _ 100 rfl 103 i0 (.pointer none) 1 8 Try.underlying100 hi hz0 hz1 hz2 rfl F _ n xs rfl HR.out ⟨H, 0, none⟩ 1 1 [u] rfl (by omega) rfl (one_new HH.out) (one_one hu) (by unfold maxLen; omega) (by omega) ?_))
  all_goals
    intro v' w' hr' ho' _
    obtain ⟨A', c', rfl, _⟩ := hr'.form
    have HR' := Lib.hid hr'
    have HO' := Lib.hid ho'
    clear hr' ho'
    go_wp2_with fail
    go_ret
    have e0 : ∀ c', (Value.slice A n c').ownBlock = (Value.slice A n c).ownBlock := fun c' => by cases A <;> rfl
    refine ⟨_, rfl, ?_, HO'.out.mono (fun k _ hk => (e0 _).symm.trans hk)⟩
    rw [List.take_of_length_le (by rw [HX.out]; exact Nat.le_refl _), List.drop_eq_nil_of_le (by rw [HX.out]; exact Nat.le_refl _)]
    exact HR'.out.weak (fun k _ h => h.elim (fun h => .inl ((e0 _).symm.trans h)) (fun e => .inr (Nat.le_of_eq (Eq.symm e))))
set_option maxRecDepth 100000 in
set_option maxHeartbeats 4000000 in
theorem insB (hr : RowAt w F 103 1 v n xs) (hn : n ≤ 65536) (hi : i < n) (hu : u.oneCell' = true) (h1x : ∀ x ∈ xs, x.oneCell' = true) (hH : w.heap[H]? = some (.cells #[u] 103 (0, 0))) (hHo : v.ownBlock ≠ some H)
    (hroom : ∃ A c, v = .slice A n c ∧ n + 1 ≤ c) :
    Calls Try.prog 58 #[v, .int .i64 (i : Int), .slice (some ⟨H, 0, none⟩) 1 1] w (InsG w v n xs i u) := by
  rcases hr.2 with ⟨_, h0⟩ | ⟨g, o, c, cur, rfl, h2, h3, h4, h5, h6, h7⟩
  · omega
  obtain ⟨_, _, e, hroom⟩ := hroom
  cases e
  have hgH : g ≠ H := fun e => hHo (by rw [e]; rfl)
  have hxl : xs.length = n := by have := hr.1; omega
  have HX := Lib.hid hxl
  have HG := Lib.hid h3
  have HH := Lib.hid hH
  have H6 := Lib.hid h6
  have H7 := Lib.hid h7
  have hb1 : ¬ c = i + 1 := by omega
  have hb2 : ¬ c = i := by omega
  unfold maxLen at h5
  have hov : ∀ lb cb, (callFunc 83 #[.slice (some ⟨H, 0, none⟩) 1 1, .slice (some ⟨g, o + (i + 1), none⟩) lb cb]).run Try.prog w = .ok (.value (.bool false)) w := fun lb cb => by
    rw [run_callFunc_extern Try.func83 (by kernel_rfl) (by kernel_rfl) (by kernel_rfl) (e := Extern.SlicesOverlaps.overlaps #[100, 100] #[4]) (by kernel_rfl),
      Lib.run_overlaps_apart w 100 4 103 Try.underlying100 1 bSize ⟨H, 0, none⟩ ⟨g, o + (i + 1), none⟩ 1 1 lb cb (fun e => hgH e.symm) 103 103 1 cur.size (by simp [World.shape?, hH]) (by simp [World.shape?, h3]) (by omega) (freeAt 0 hH) (freeAt 1 hH)]
    rfl
  clear hr h2 h3 h6 h7 hH hxl
  have hw1 : IntKind.i64.wrap ((n : Int) + 1) = ((n + 1 : Nat) : Int) := by rw [IntKind.wrap_i64]; omega
  have hw2 : IntKind.i64.wrap ((i : Int) + 1) = ((i + 1 : Nat) : Int) := by rw [IntKind.wrap_i64]; omega
  have hnc : ¬ ((c : Int) < ((n + 1 : Nat) : Int)) := by omega
  have hin : ¬ ((i : Int) = (n : Int)) := by omega
  have hb0 : (0 : Int) ≤ (i : Int) + 1 := by omega
  have hil : i ≤ n := by omega
  have hil2 : (i : Int) ≤ (n : Int) + 1 := by omega
  have hil3 : i ≤ n + 1 := by omega
  go_enter Try.func58, Try.ntmps58
  go_wp2_with (simp only [hov])
  refine wp_region_here 8 [(0, false), (1, false), (2, false), (3, false), (4, false), (5, false), (6, false), (7, false)] (fun _ => .cells #[] 0) (by kernel_rfl) (by kernel_rfl) ?_
  repeat (first | (refine wpP_q rfl rfl rfl ?_; apply Exists.intro; refine ⟨fun w' hw' => ?_, fun K hK => ?_⟩; (focus ((skip); go_simp; first | exact quiet_value | fail)); simp only [Act.put, List.setIfInBounds_toArray, List.set_cons_zero, List.set_cons_succ]; refine hK.out _ ?_; clear hK K) | (refine wpP_skip rfl rfl rfl (fun K hK => ?_); simp only [Act.put, List.setIfInBounds_toArray, List.set_cons_zero, List.set_cons_succ]; refine hK.out _ ?_; clear hK K))
  refine wpP_nil ?_
  intro w2 hb2
  have HB2 := Lib.hid hb2
  have HG2 := Lib.hid (keepB HG.out hb2)
  have HH2 := Lib.hid (keepB HH.out hb2)
  clear hb2 hov
  (try simp only [List.drop_succ_cons]); (try simp only [List.drop_zero]); (try simp only [List.drop_nil])
  refine wpL_copyB rfl _ _ rfl g (o + (i + 1)) (n - i) (c - (i + 1)) ⟨g, o + i, none⟩ (n + 1 - i) (c - i) rfl rfl cur _ HG2.out (xs.drop i) ?hn ?hs ?hf (fun x hx => h1x x (List.mem_of_mem_drop hx)) ?_
  case hn =>
    have e : Nat.min (n + 1 - i) (n - i) = n - i := Nat.min_eq_right (by omega)
    rw [List.length_drop, HX.out, e]
  case hs =>
    intro j v hj
    rw [add_mk, Nat.add_assoc]
    rw [List.getElem?_drop] at hj
    have hjn : i + j < n := by rw [← HX.out]; exact (List.getElem?_eq_some_iff.1 hj).1
    exact cellAt HG2.out (by rw [← Array.getElem?_toList, seg_get H7.out (i + j) (by omega)]; exact hj)
  case hf => rw [List.length_drop, HX.out]; have := H6.out; omega
  intro w3 HC3 HO3
  obtain ⟨L1, hL1⟩ : ∃ L1, cur.toList.take (o + (i + 1)) ++ xs.drop i ++ cur.toList.drop (o + (i + 1) + (xs.drop i).length) = L1 := ⟨_, rfl⟩
  rw [hL1] at HC3
  have HL1 := Lib.hid hL1
  clear hL1
  have HH3 : Hid (w3.heap[H]? = _) := Lib.hid (HO3.out.get HH2.out (fun e => hgH e.symm))
  go_wp2_with (refine wpL_copyB rfl _ _ rfl g (o + i) (n + 1 - i) (c - i) ⟨H, 0, none⟩ 1 1 rfl rfl L1.toArray _ HC3.out [u] ?h2n (one_new HH3.out) ?h2f (one_one hu) ?_)
  case h2n => exact (Nat.min_eq_left (by omega : 1 ≤ n + 1 - i)).symm
  case h2f =>
    have := congrArg List.length HL1.out
    rw [splice_len (by rw [List.length_drop, HX.out, Array.length_toList]; have := H6.out; omega)] at this
    simp only [Array.length_toList] at this
    have := H6.out
    simp only [List.size_toArray, List.length_singleton]
    omega
  intro w4 HC4 HO4
  go_wp2_with fail
  go_ret
  have hO : Only (fun k => k = g) w w4 := ((Only.of_below HB2.out).trans HO3.out).trans HO4.out
  refine ⟨_, rfl, ⟨by simp [HX.out]; omega, .inr ⟨g, o, c, _, rfl, .inl rfl, HC4.out, hroom, h5, ?_, ?_⟩⟩, hO.mono (fun k _ e => by rw [e]; rfl)⟩
  · have h1 := congrArg List.length HL1.out
    rw [splice_len (by rw [List.length_drop, HX.out, Array.length_toList]; have := H6.out; omega)] at h1
    simp only [Array.length_toList] at h1
    have h6 := H6.out
    have hl2 : (L1.take (o + i) ++ u :: L1.drop (o + i + 1)).length = L1.length := by
      rw [List.length_append, List.length_cons, List.length_take, List.length_drop]; omega
    rw [List.size_toArray, hl2, ← h1]; exact h6
  · have h7 := H7.out
    rw [Nat.mul_one] at h7 ⊢
    exact seg_shift h7 HX.out (by omega) (by rw [Array.length_toList]; have := H6.out; omega) L1 _ HL1.out.symm (by simp)
/-- append of zero values that moves: the world behind a letter. -/
theorem wpL_growz {ops : Array Oper} {rest : List Oper} {o : Oper} {a : Act} {Q : Exit → Act → World → Prop} (hgd : o.guard = none) (d s : Operand)
    (ho : o.op = .call { callee := .builtin .append, args := #[d, s], argTypes := #[100, 3] }) (g off i c n k : Nat) (cur : Array Value) (hg : w.heap[g]? = some (.cells cur 103 (0, 0))) (X : List Value) (hX : (cur.toList.drop off).take i = X) (hXl : X.length = i)
    (hd : a.eval d = .slice (some ⟨g, off, none⟩) i c) (hs : a.eval s = .int .i64 (k : Int)) (h0 : 0 < k) (hm : i + k = n + 1) (hc : c < n + 1) (_hic : i ≤ c) (hn : n ≤ 65536)
    (h : ∀ w' G R, Hid (w'.heap[w.heap.size]? = some (.cells (X ++ R).toArray 103 (0, 0))) → Hid (Below w.heap.size w w') → n + 1 ≤ G → G ≤ maxLen → Hid ((X ++ R).length = G) → w.heap.size < w'.heap.size →
      wpList Try.prog ops Q rest (a.put o.dst (.slice (some ⟨w.heap.size, 0, none⟩) (n + 1) G)) w') : wpList Try.prog ops Q (o :: rest) a w := by
  obtain ⟨i0, hi, hz0, hz1, hz2⟩ := info_parts bInfo
  have hold : (Builtin.firstCells i0.size i (.slice (some ⟨g, off, none⟩) i c)).run Try.prog w.drew = .ok X.toArray w.drew := by
    rw [hz1]
    refine run_firstCells_some w.drew 1 i ⟨g, off, none⟩ i c X (by omega) (fun j v hj => ?_)
    rw [add_mk]
    have hjn : j < i := by rw [← hXl]; exact (List.getElem?_eq_some_iff.1 hj).1
    exact cellAt (w := w.drew) (show w.drew.heap[g]? = _ from hg) (by rw [← Array.getElem?_toList, seg_get hX j hjn]; exact hj)
  have hrun := fun ty => Lib.run_append_grow_zeros w 100 3 ty 103 i0 _ .i64 .i64 Try.underlying100 Try.underlying3 hi hz0 (some ⟨g, off, none⟩) i c X hold k h0 (by omega) (by omega) (by omega) (by rw [hz2]; omega) (by rw [hz2, hm]; exact growslice_fits hc (by omega))
  rw [hm] at hrun
  refine Lib.wpList_append_run _ hgd _ _ _ _ ho _ _ hd hs _ _ (hrun _) ?_
  have hG := grownCap_ge w (n + 1) c 103
  have hG2 := grownCap_le_maxLen w (n + 1) c 103 (by unfold maxLen; omega)
  obtain ⟨G, hGG⟩ : ∃ G, grownCap w (n + 1) c 103 = G := ⟨_, rfl⟩
  rw [hGG] at hG hG2 ⊢
  have e : X.toArray ++ Builtin.zeroCells (Value.pointer none).cells k ++ Builtin.zeroCells (Value.pointer none).cells (G - (n + 1)) = (X ++ ((Builtin.zeroCells (Value.pointer none).cells k).toList ++ (Builtin.zeroCells (Value.pointer none).cells (G - (n + 1))).toList)).toArray := by
    apply Array.ext'
    simp
  rw [e]
  refine h _ G _ (heap_alloc_new w.drew _) (((Below.refl _ _).drew).alloc (Nat.le_refl _) _) hG hG2 (Lib.hid ?_) (by rw [alloc_size]; exact Nat.lt_succ_self _)
  simp only [List.length_append, Array.length_toList, size_zeroCells, hXl]
  simp only [Value.cells, List.size_toArray, List.length_singleton]
  omega
set_option maxRecDepth 100000 in
set_option maxHeartbeats 4000000 in
theorem insC (hr : RowAt w F 103 1 v n xs) (hn : n ≤ 65536) (hi : i < n) (hu : u.oneCell' = true) (h1x : ∀ x ∈ xs, x.oneCell' = true) (hH : w.heap[H]? = some (.cells #[u] 103 (0, 0)))
    (hroom : ∃ A c, v = .slice A n c ∧ c < n + 1) :
    Calls Try.prog 58 #[v, .int .i64 (i : Int), .slice (some ⟨H, 0, none⟩) 1 1] w (InsG w v n xs i u) := by
  rcases hr.2 with ⟨_, h0⟩ | ⟨g, o, c, cur, rfl, h2, h3, h4, h5, h6, h7⟩
  · omega
  obtain ⟨_, _, e, hroom⟩ := hroom
  cases e
  obtain ⟨k, hk⟩ : ∃ k, n + 1 - i = k := ⟨_, rfl⟩
  have hxl : xs.length = n := by have := hr.1; omega
  have HX := Lib.hid hxl
  have HG := Lib.hid h3
  have HH := Lib.hid hH
  have H6 := Lib.hid h6
  have H7 := Lib.hid h7
  have hb2 : ¬ c = i := by omega
  unfold maxLen at h5
  have hgl := only_lt h3
  have hHl := only_lt hH
  clear hr h2 h3 h6 h7 hH hxl
  have hw1 : IntKind.i64.wrap ((n : Int) + 1) = (n : Int) + 1 := by rw [IntKind.wrap_i64]; omega
  have hw2 : IntKind.i64.wrap ((i : Int) + 1) = (i : Int) + 1 := by rw [IntKind.wrap_i64]; omega
  have hw3 : IntKind.i64.wrap ((n : Int) + 1 - (i : Int)) = (k : Int) := by rw [IntKind.wrap_i64]; omega
  have hnc : (c : Int) < (n : Int) + 1 := by omega
  have hin : ¬ ((i : Int) = (n : Int)) := by omega
  have hb0 : (0 : Int) ≤ (i : Int) + 1 := by omega
  have hil : i ≤ n := by omega
  have hil2 : (i : Int) ≤ (n : Int) + 1 := by omega
  have hil3 : i ≤ n + 1 := by omega
  have hic : i ≤ c := by omega
  go_enter Try.func58, Try.ntmps58
  go_wp2_with (at_builtin; go_loud (refine wpL_growz rfl _ _ rfl g o i c n k cur HG.out (xs.take i) ?g1 ?g2 rfl rfl ?g3 ?g4 ?g5 hic hn ?_))
  case g1 =>
    rw [← H7.out, Nat.mul_one, List.take_take, Nat.min_eq_left hil]
  case g2 => rw [List.length_take, HX.out]; omega
  case g3 => omega
  case g4 => omega
  case g5 => omega
  intro w1 G R HR HB1 hG1 hG2 hGl hN1
  obtain ⟨N, hN⟩ : ∃ N, w.heap.size = N := ⟨_, rfl⟩
  rw [hN] at HR hN1 ⊢
  have HN := Lib.hid hN
  have HK := Lib.hid hk
  have HGL : Hid ((xs.take i ++ R).length = G) := Lib.hid (by have h := hGl.out; rw [List.length_append, List.length_take]; exact h)
  clear hN hk hGl
  unfold maxLen at hG2
  have hGi : ¬ G = i := by omega
  have hGi1 : ¬ G = i + 1 := by omega
  have HG1 := Lib.hid (keepB HG.out HB1.out)
  have HH1 := Lib.hid (keepB HH.out HB1.out)
  have hNg : g ≠ N := by have := HN.out; omega
  have hNH : H ≠ N := by have := HN.out; omega
  go_wp2_with (refine wpL_copyB rfl _ _ rfl N i (n + 1 - i) (G - i) ⟨H, 0, none⟩ 1 1 rfl rfl _ _ HR.out [u] ?g6 (one_new HH1.out) ?g7 (one_one hu) ?_)
  case g6 => exact (Nat.min_eq_left (by omega : 1 ≤ n + 1 - i)).symm
  case g7 =>
    rw [List.size_toArray, HGL.out, List.length_singleton]; omega
  intro w2 HR2 HO2
  have HG2 : Hid (w2.heap[g]? = _) := Lib.hid (HO2.out.get HG1.out hNg)
  obtain ⟨R1, hR1⟩ : ∃ R1, (xs.take i ++ R).take i ++ [u] ++ (xs.take i ++ R).drop (i + [u].length) = R1 := ⟨_, rfl⟩
  have hR2 : w2.heap[N]? = some (.cells ((xs.take i ++ R).take i ++ [u] ++ (xs.take i ++ R).drop (i + [u].length)).toArray 103 (0, 0)) := by rw [List.append_assoc]; exact HR2.out
  rw [hR1] at hR2
  have HR1 := Lib.hid hR1
  clear HR2
  have HR2 := Lib.hid hR2
  clear hR1 hR2
  have hl1 : R1.length = G := by rw [← HR1.out, splice_len (by rw [HGL.out, List.length_singleton]; omega)]; exact HGL.out
  go_wp2_with fail
  refine wp_region_here 8 [(0, false), (1, false), (2, false), (3, false), (4, false), (5, false), (6, false), (7, false)] (fun _ => .cells #[] 0) (by kernel_rfl) (by kernel_rfl) ?_
  repeat (first | (refine wpP_q rfl rfl rfl ?_; apply Exists.intro; refine ⟨fun w' hw' => ?_, fun K hK => ?_⟩; (focus ((skip); go_simp; first | exact quiet_value | fail)); simp only [Act.put, List.setIfInBounds_toArray, List.set_cons_zero, List.set_cons_succ]; refine hK.out _ ?_; clear hK K) | (refine wpP_skip rfl rfl rfl (fun K hK => ?_); simp only [Act.put, List.setIfInBounds_toArray, List.set_cons_zero, List.set_cons_succ]; refine hK.out _ ?_; clear hK K))
  refine wpP_nil ?_
  intro w3 hb3
  have HB3 := Lib.hid hb3
  have HG3 := Lib.hid (keepB HG2.out hb3)
  have HR3 := Lib.hid (keepB HR2.out hb3)
  clear hb3
  (try simp only [List.drop_succ_cons]); (try simp only [List.drop_zero]); (try simp only [List.drop_nil])
  refine wpL_copyB rfl _ _ rfl N (i + 1) (n - i) (G - (i + 1)) ⟨g, o + i, none⟩ (n - i) (c - i) rfl rfl _ _ HR3.out (xs.drop i) ?g8 ?g9 ?g10 (fun x hx => h1x x (List.mem_of_mem_drop hx)) ?_
  case g8 =>
    have e : Nat.min (n - i) (n - i) = n - i := Nat.min_self _
    rw [List.length_drop, HX.out, e]
  case g9 =>
    intro j v hj
    rw [add_mk, Nat.add_assoc]
    rw [List.getElem?_drop] at hj
    have hjn : i + j < n := by rw [← HX.out]; exact (List.getElem?_eq_some_iff.1 hj).1
    exact cellAt HG3.out (by rw [← Array.getElem?_toList, seg_get H7.out (i + j) (by omega)]; exact hj)
  case g10 => rw [List.length_drop, HX.out, List.size_toArray, hl1]; omega
  intro w4 HR4 HO4
  have HO := Lib.hid (((Only.of_below HB1.out).trans ((HO2.out.mono (fun k _ h => .inr h)).trans (((Only.of_below HB3.out)).trans (HO4.out.mono (fun k _ h => .inr h)))) : Only (fun k => False ∨ k = N) w w4))
  go_wp2_with fail
  go_ret
  refine ⟨_, rfl, ⟨by simp [HX.out]; omega, .inr ⟨N, 0, G, _, rfl, .inr (Nat.le_of_eq HN.out), HR4.out, hG1, by unfold maxLen; omega, ?_, ?_⟩⟩, ?_⟩
  · rw [List.size_toArray, splice_len (by rw [List.length_drop, HX.out, hl1]; omega), hl1]; omega
  · rw [Nat.mul_one]
    refine seg_of (by simp [HX.out]; omega) (fun j hj => ?_)
    rw [Nat.zero_add, ins_get (by rw [HX.out]; exact hil), splice_get (by rw [List.length_drop, HX.out, hl1]; omega), ← HR1.out, splice_get (by rw [HGL.out, List.length_singleton]; omega), List.length_drop, HX.out]
    by_cases hj1 : j < i
    · rw [if_pos (by omega), if_pos hj1, if_pos hj1, List.getElem?_append_left (by rw [List.length_take, HX.out]; omega), List.getElem?_take, if_pos hj1]
    · by_cases hj2 : j = i
      · subst hj2
        rw [if_pos (by omega), if_neg hj1, if_pos (by simp), if_neg hj1, if_pos rfl, Nat.sub_self]; rfl
      · rw [if_neg (by omega), if_pos (by omega), if_neg hj1, if_neg hj2, List.getElem?_drop]; congr 1; omega
  · refine ⟨HO.out.os, HO.out.tape, HO.out.output, HO.out.size, fun k hk hn => HO.out.block k hk (fun h => h.elim (fun h => h) (fun e => by have := HN.out; omega))⟩
/-- slices.Insert of one. -/
theorem ins_any (hr : RowAt w F 103 1 v n xs) (hn : n ≤ 65536) (hi : i ≤ n) (hu : u.oneCell' = true) (h1x : ∀ x ∈ xs, x.oneCell' = true) (hH : w.heap[H]? = some (.cells #[u] 103 (0, 0))) (hHo : v.ownBlock ≠ some H) :
    Calls Try.prog 58 #[v, .int .i64 (i : Int), .slice (some ⟨H, 0, none⟩) 1 1] w (InsG w v n xs i u) := by
  by_cases hin : i = n
  · subst hin; exact insA hr hn hu hH
  · obtain ⟨A, c, rfl, _⟩ := hr.form
    by_cases hc : n + 1 ≤ c
    · exact insB hr hn (by omega) hu h1x hH hHo ⟨A, c, rfl, hc⟩
    · exact insC hr hn (by omega) hu h1x hH ⟨A, c, rfl, by omega⟩
end
end Go.Proofs.Ytangcgfchalnaaa

/- What Put makes of a buffer's blocks: cells, and plain law. -/
namespace Go.Proofs.Ytangcgfchalnaaa
open Go.RowKit
/-! ### A block's cells -/
theorem set_get {c : Array Value} {o j : Nat} {v : Value} (h : o < c.size) : (c.setIfInBounds o v)[j]? = if j = o then some v else c[j]? := by
  rw [Array.getElem?_setIfInBounds]
  by_cases e : o = j
  · subst e; simp [h]
  · rw [if_neg e, if_neg (fun h => e h.symm)]
theorem BlkC.get' {c : Array Value} {X : List Pt} (h : BlkC c X) {j : Nat} (hj : j < X.length * 3) : c[1 + j]? = (pcs X)[j]? := by
  have hl : j < (pcs X).length := by rw [pcs_len]; exact hj
  rw [List.getElem?_eq_getElem hl]
  exact h.get (List.getElem?_eq_getElem hl)
theorem BlkC.of_get {c : Array Value} {X : List Pt} (h1 : c.size = 193) (h2 : c[0]? = some (.int .i64 (X.length : Int))) (h3 : ∀ j, j < X.length * 3 → c[1 + j]? = (pcs X)[j]?) (h4 : X.length ≤ 64) : BlkC c X :=
  ⟨h1, h2, seg_of (pcs_len X) (fun j hj => by rw [Array.getElem?_toList]; exact h3 j hj), h4⟩
theorem BlkC.put {c : Array Value} {X : List Pt} (h : BlkC c X) (hl : X.length < 64) {k : Nat} (hk : k ≤ X.length) (q : Pt) {off : Nat} (ho : off + (X.length - k) * 3 ≤ 193) (hoff : X.length = k ∨ off = 1 + (k + 1) * 3) (n' : Nat) (hn' : n' = X.length + 1) :
    BlkC ((((((c.toList.take off ++ pcs (X.drop k) ++ c.toList.drop (off + (pcs (X.drop k)).length)).toArray.setIfInBounds (1 + k * 3) (.int .i64 q.1)).setIfInBounds (1 + k * 3 + 1) (.int .i64 q.2)).setIfInBounds (1 + k * 3 + 2) (.bool false)).setIfInBounds 0 (.int .i64 (n' : Int)))) (X.take k ++ q :: X.drop k) := by
  have hd : (X.drop k).length = X.length - k := List.length_drop
  have hpl : (pcs (X.drop k)).length = (X.length - k) * 3 := by rw [pcs_len, hd]
  have hcs : c.toList.length = 193 := by rw [Array.length_toList]; exact h.size
  obtain ⟨c1, hc1⟩ : ∃ c1, (c.toList.take off ++ pcs (X.drop k) ++ c.toList.drop (off + (pcs (X.drop k)).length)).toArray = c1 := ⟨_, rfl⟩
  have hs1 : c1.size = 193 := by rw [← hc1, List.size_toArray, splice_len (by rw [hpl, hcs]; exact ho), hcs]
  have hg1 : ∀ j, c1[j]? = if j < off then c[j]? else if j < off + (X.length - k) * 3 then (pcs (X.drop k))[j - off]? else c[j]? := fun j => by
    rw [← hc1, List.getElem?_toArray, splice_get (by rw [hpl, hcs]; exact ho), hpl, Array.getElem?_toList]
  rw [hc1]
  have hlen : (X.take k ++ q :: X.drop k).length = X.length + 1 := by rw [List.length_append, List.length_take, List.length_cons, hd]; omega
  refine BlkC.of_get (by simp [hs1]) ?_ (fun j hj => ?_) (by rw [hlen]; omega)
  · rw [set_get (by simp [hs1]), if_pos rfl, hlen, hn']
  · rw [hlen] at hj
    rw [set_get (by simp [hs1]), if_neg (by omega), set_get (by simp [hs1]; omega), set_get (by simp [hs1]; omega), set_get (by rw [hs1]; omega)]
    rw [pcs_append, pcs_cons, List.getElem?_append, List.getElem?_append, pcs_len, List.length_take, Nat.min_eq_left hk]
    have hpc : (pc q).length = 3 := rfl
    rw [hpc]
    by_cases h1 : j < k * 3
    · rw [if_neg (by omega), if_neg (by omega), if_neg (by omega), if_pos h1, hg1, ← pcs_take, List.getElem?_take, if_pos h1, ← h.get' (by omega)]
      split
      · rfl
      · rename_i hno
        rcases hoff with hx | hx
        · rw [if_neg (by omega)]
        · omega
    · rw [if_neg h1]
      by_cases h2 : j - k * 3 < 3
      · rw [if_pos h2]
        by_cases e0 : j = k * 3
        · subst e0; rw [if_neg (by omega), if_neg (by omega), if_pos rfl, Nat.sub_self]; rfl
        · by_cases e1 : j = k * 3 + 1
          · subst e1; rw [if_neg (by omega), if_pos (by omega), show k * 3 + 1 - k * 3 = 1 by omega]; rfl
          · obtain rfl : j = k * 3 + 2 := by omega
            rw [if_pos (by omega), show k * 3 + 2 - k * 3 = 2 by omega]; rfl
      · rw [if_neg h2, if_neg (by omega), if_neg (by omega), if_neg (by omega), hg1]
        rcases hoff with hx | hx
        · omega
        · rw [if_neg (by omega), if_pos (by omega)]; congr 1; omega
/-- The lower half stays. -/
theorem BlkC.low {c : Array Value} {X : List Pt} (h : BlkC c X) {k : Nat} (hk : k ≤ X.length) : BlkC (c.setIfInBounds 0 (.int .i64 (k : Int))) (X.take k) := by
  have hl : (X.take k).length = k := by rw [List.length_take]; omega
  refine BlkC.of_get (by simp [h.size]) (by rw [set_get (by rw [h.size]; omega), if_pos rfl, hl]) (fun j hj => ?_) (by have := h.le; omega)
  rw [hl] at hj
  rw [set_get (by rw [h.size]; omega), if_neg (by omega), h.get' (by omega), ← pcs_take, List.getElem?_take, if_pos hj]
/-- The upper half, copied into a new block. -/
theorem BlkC.high {zs : List Value} {X : List Pt} {k : Nat} (hk : k ≤ X.length) (hX : X.length ≤ 64) (hz : zs.length = 192) (m : Nat) (hm : m = X.length - k) {c : Array Value} (hc : c.toList = .int .i64 (m : Int) :: zs) :
    BlkC (c.toList.take 1 ++ pcs (X.drop k) ++ c.toList.drop (1 + (pcs (X.drop k)).length)).toArray (X.drop k) := by
  have hd : (X.drop k).length = X.length - k := List.length_drop
  have hp : (pcs (X.drop k)).length = (X.length - k) * 3 := by rw [pcs_len, hd]
  rw [hc]
  simp only [List.take_succ_cons, List.take_zero, List.cons_append, List.nil_append]
  rw [show 1 + (pcs (X.drop k)).length = (pcs (X.drop k)).length + 1 by omega, List.drop_succ_cons, hm, ← hd]
  refine BlkC.of_list (by omega) ?_
  simp only [List.length_drop, pcs_len, hz]; omega
/-! ### The blocks -/
section
variable {w w' : World} {F : Nat → Prop} {b n : Nat} {Z : List Blk} {v : Value} {fl : Int} {P : List Pt}
theorem ptrs_set {i x : Nat} {X X' : List Pt} (hi : i < Z.length) (hZ : Z[i] = (x, X)) : blkPtrs (Z.set i (x, X')) = blkPtrs Z := by
  unfold blkPtrs
  rw [List.map_set]
  apply List.ext_getElem?
  intro j
  rw [List.getElem?_set]
  split
  · rename_i e; subst e
    simp [hi, hZ]
  · rfl
/-- One block turns, and the count. -/
theorem BufC.one {i x : Nat} {X X' : List Pt} {wr : World} {c : Array Value} {n' : Nat} (h : BufC w F b Z v fl n) (hi : i < Z.length) (hZ : Z[i] = (x, X)) (hb : wr.heap[b]? = some (.cells (bufC v fl n') 102 (0, 0)))
    (hc : wr.heap[x]? = some (.cells c 107 (0, 0))) (hB : BlkC c X') (ho : Only (fun k => k = b ∨ k = x) w wr) : BufC wr F b (Z.set i (x, X')) v fl n' := by
  have hnd := h.nodup
  have hbx : w.heap[b]? = _ := h.buf
  have hzi : (x, X) ∈ Z := hZ ▸ List.getElem_mem hi
  have hmap : (Z.set i (x, X')).map (·.1) = Z.map (·.1) := by
    rw [List.map_set]
    apply List.ext_getElem?
    intro j
    rw [List.getElem?_set]
    split
    · rename_i e; subst e; simp [hi, hZ]
    · rfl
  refine ⟨h.inF, hb, ⟨by rw [ptrs_set hi hZ, List.length_set]; exact h.row.1, ?_⟩, fun y hy => ?_, by rw [hmap]; exact hnd⟩
  · rw [ptrs_set hi hZ, List.length_set]
    refine h.row.2.imp (fun h => h) ?_
    rintro ⟨g, o, cc, cur, h1, h2, h3, h4⟩
    refine ⟨g, o, cc, cur, h1, h2, ho.get h3 ?_, h4⟩
    rintro (rfl | rfl)
    · rw [h3] at hbx; cases hbx
    · obtain ⟨c2, hc2, _⟩ := (h.blks _ hzi).2
      rw [h3] at hc2; cases hc2
  · obtain ⟨j, hj, rfl⟩ := List.getElem_of_mem hy
    rw [List.length_set] at hj
    rw [List.getElem_set]
    split
    · exact ⟨(h.blks _ hzi).1, c, hc, hB⟩
    · rename_i hne
      obtain ⟨a1, a2⟩ := h.blks _ (List.getElem_mem hj)
      refine ⟨a1, a2.keep ho ?_⟩
      rintro (e | e)
      · obtain ⟨c2, hc2, _⟩ := a2
        rw [e, hbx] at hc2; cases hc2
      · have h1 : (Z.map (·.1))[i]'(by simpa using hi) = (Z.map (·.1))[j]'(by simpa using hj) := by simp [hZ, e]
        exact hne ((List.getElem_inj hnd).1 h1)
/-- A block is parted in two: the second one behind the first one. -/
theorem BufC.part {i x y : Nat} {X X1 X2 : List Pt} {wr : World} {c1 c2 : Array Value} {v' : Value} {G : Nat → Prop} (h : BufC w F b Z v fl n) (hi : i < Z.length) (hZ : Z[i] = (x, X)) (hb : wr.heap[b]? = some (.cells (bufC v' fl n) 102 (0, 0)))
    (hc1 : wr.heap[x]? = some (.cells c1 107 (0, 0))) (hB1 : BlkC c1 X1) (hc2 : wr.heap[y]? = some (.cells c2 107 (0, 0))) (hB2 : BlkC c2 X2) (hy : w.heap.size ≤ y) (hFG : ∀ k, F k → G k) (hGy : G y)
    (hr : RowAt wr G 103 1 v' (Z.length + 1) ((blkPtrs Z).take (i + 1) ++ .pointer (some ⟨y, 0, none⟩) :: (blkPtrs Z).drop (i + 1))) (ho : Only (fun k => k = b ∨ k = x ∨ v.ownBlock = some k) w wr) :
    BufC wr G b (Z.take i ++ (x, X1) :: (y, X2) :: Z.drop (i + 1)) v' fl n := by
  have hnd := h.nodup
  have hbx : w.heap[b]? = _ := h.buf
  have hzi : (x, X) ∈ Z := hZ ▸ List.getElem_mem hi
  have hs : Z = Z.take i ++ (x, X) :: Z.drop (i + 1) := by rw [← hZ, List.getElem_cons_drop, List.take_append_drop]
  have hkeep : ∀ z ∈ Z, z.1 ≠ x → F z.1 ∧ BlkW wr z.1 z.2 := fun z hz hne => by
    obtain ⟨a1, a2⟩ := h.blks z hz
    refine ⟨a1, a2.keep ho ?_⟩
    rintro (e | e | e)
    · obtain ⟨c3, hc3, _⟩ := a2
      rw [e, hbx] at hc3; cases hc3
    · exact hne e
    · obtain ⟨c3, hc3, _⟩ := a2
      rcases h.row.2 with ⟨rfl, _⟩ | ⟨g, o, cc, cur, rfl, h2, h3, h4⟩
      · cases e
      · cases e; rw [h3] at hc3; cases hc3
  rw [hs, List.map_append, List.map_cons, List.nodup_append] at hnd
  obtain ⟨n1, n2, n3⟩ := hnd
  rw [List.nodup_cons] at n2
  have hyn : ∀ z ∈ Z, z.1 ≠ y := fun z hz e => by have := (h.blks z hz).2.lt; omega
  have hT : ∀ z ∈ Z.take i, z ∈ Z := fun z hz => List.mem_of_mem_take hz
  have hD : ∀ z ∈ Z.drop (i + 1), z ∈ Z := fun z hz => List.mem_of_mem_drop hz
  refine ⟨hFG _ h.inF, hb, ?_, fun z hz => ?_, ?_⟩
  · have e1 : (Z.take i ++ (x, X1) :: (y, X2) :: Z.drop (i + 1)).length = Z.length + 1 := by simp; omega
    have e2 : blkPtrs (Z.take i ++ (x, X1) :: (y, X2) :: Z.drop (i + 1)) = (blkPtrs Z).take (i + 1) ++ .pointer (some ⟨y, 0, none⟩) :: (blkPtrs Z).drop (i + 1) := by
      unfold blkPtrs
      rw [← List.map_take, ← List.map_drop, ← List.take_append_getElem hi, hZ]
      simp
    rw [e1, e2]; exact hr
  · rcases List.mem_append.1 hz with hz | hz
    · obtain ⟨a, a2⟩ := hkeep z (hT z hz) (fun e => n3 _ (List.mem_map.2 ⟨z, hz, rfl⟩) x (by simp) e)
      exact ⟨hFG _ a, a2⟩
    · rcases List.mem_cons.1 hz with rfl | hz
      · exact ⟨hFG _ (h.blks _ hzi).1, c1, hc1, hB1⟩
      · rcases List.mem_cons.1 hz with rfl | hz
        · exact ⟨hGy, c2, hc2, hB2⟩
        · obtain ⟨a, a2⟩ := hkeep z (hD z hz) (fun e => n2.1 (List.mem_map.2 ⟨z, hz, e⟩))
          exact ⟨hFG _ a, a2⟩
  · rw [List.map_append, List.map_cons, List.map_cons, List.nodup_append]
    refine ⟨n1, ?_, ?_⟩
    · rw [List.nodup_cons, List.nodup_cons]
      refine ⟨?_, ?_, n2.2⟩
      · rw [List.mem_cons]
        rintro (e | e)
        · exact hyn _ hzi e
        · exact n2.1 e
      · intro e
        obtain ⟨z, hz, e⟩ := List.mem_map.1 e
        exact hyn z (hD z hz) e
    · intro a ha c hc
      rcases List.mem_cons.1 hc with rfl | hc
      · exact n3 a ha _ (by simp)
      · rcases List.mem_cons.1 hc with rfl | hc
        · obtain ⟨z, hz, rfl⟩ := List.mem_map.1 ha
          exact hyn z (hT z hz)
        · exact n3 a ha c (List.mem_cons_of_mem _ hc)
end
/-! ### Plain law -/
theorem flat_set {Bs : List (List Pt)} {k : Nat} (hk : k < Bs.length) (X : List Pt) : (Bs.set k X).flatten = (Bs.take k).flatten ++ X ++ (Bs.drop (k + 1)).flatten := by
  rw [List.set_eq_take_append_cons_drop, if_pos hk, List.flatten_append, List.flatten_cons, List.append_assoc]
theorem ins_set {Bs : List (List Pt)} {k : Nat} (hk : k < Bs.length) {q : Pt} (h1 : ∀ p ∈ (Bs.take k).flatten, p.1 < q.1) (h2 : ∀ p ∈ (Bs.drop (k + 1)).flatten, q.1 < p.1) : insP q Bs.flatten = (Bs.set k (insP q Bs[k])).flatten := by
  rw [flat_set hk, flat_at k hk, insP_mid h1 h2]
theorem good_set {Bs : List (List Pt)} (hG : Good Bs) {k : Nat} (hk : k < Bs.length) {q : Pt} (h1 : ∀ p ∈ (Bs.take k).flatten, p.1 < q.1) (h2 : ∀ p ∈ (Bs.drop (k + 1)).flatten, q.1 < p.1) : Good (Bs.set k (insP q Bs[k])) := by
  refine ⟨fun B hB => ?_, by rw [← ins_set hk h1 h2]; exact ins_rise hG.rise⟩
  rcases List.mem_or_eq_of_mem_set hB with hB | rfl
  · exact hG.ne B hB
  · unfold insP; simp
/-- A block parted in two. -/
theorem good_part {A C : List (List Pt)} {X : List Pt} (hG : Good (A ++ X :: C)) {k : Nat} (h0 : 0 < k) (hk : k < X.length) : Good (A ++ X.take k :: X.drop k :: C) ∧ (A ++ X.take k :: X.drop k :: C).flatten = (A ++ X :: C).flatten := by
  have e : (A ++ X.take k :: X.drop k :: C).flatten = (A ++ X :: C).flatten := by
    rw [List.flatten_append, List.flatten_append, List.flatten_cons, List.flatten_cons, List.flatten_cons, ← List.append_assoc (X.take k), List.take_append_drop]
  refine ⟨⟨fun B hB => ?_, by rw [e]; exact hG.rise⟩, e⟩
  rcases List.mem_append.1 hB with hB | hB
  · exact hG.ne B (by simp [hB])
  · rcases List.mem_cons.1 hB with rfl | hB
    · exact fun e => by have := congrArg List.length e; rw [List.length_take, List.length_nil] at this; omega
    · rcases List.mem_cons.1 hB with rfl | hB
      · exact fun e => by have := congrArg List.length e; simp at this; omega
      · exact hG.ne B (by simp [hB])
end Go.Proofs.Ytangcgfchalnaaa
