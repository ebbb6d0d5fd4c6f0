/- Parts of the proof: TbJ. -/
import Derived.Test.YtangcgfchalnaaaYap
import Derived.Test.YtangcgfchalnaaaYao
/- intern: a table with one more series; a row of numbers of one of its maps grows. -/
namespace Go.Proofs.Ytangcgfchalnaaa
open Go.RowKit Go.MapKept
section
variable {w w' w2 W : World} {F G S : Nat → Prop} {t by_ me ix B : Nat} {l l' v u : Value} {own own' : Nat → Nat × ByteArray} {X : List Se} {r0 n : Nat} {s0 : ByteArray} {xs : List Value}
theorem reads_cells {size n : Nat} {A : Option Addr} {xs : List Value} {ad : Addr} {B : Nat} (hr : Reads w B size A n xs) (hl : 0 < xs.length) (h0 : 0 < n) (e : A = some ad) : ∀ es c, w.heap[ad.block]? ≠ some (.map es c) := by
  intro es c hm
  obtain ⟨ad', e', _, hc⟩ := hr.2 h0
  rw [e] at e'; cases e'
  have := hc 0 xs[0] (List.getElem?_eq_getElem hl)
  unfold World.cell? at this
  rw [block_of_add, hm] at this
  simp at this
theorem lab_nomap {x : Se} (h : RdLs w x.2) (h0 : 0 < x.2.2.2.length) {ad : Addr} (e : x.2.1 = some ad) : ∀ es c, w.heap[ad.block]? ≠ some (.map es c) :=
  reads_cells (B := w.heap.size) h (by have := h.1; omega) h0 e
theorem IntAt.re {p : Nat × ByteArray} (h : IntAt w F own p B v) (hO : ∀ k, k < w.heap.size → own' k = own k) : IntAt w F own' p B v := by
  rcases h with h | ⟨g, n, c, cur, h1, h2, h3, h4, h5⟩
  · exact .inl h
  · exact .inr ⟨g, n, c, cur, h1, h2, by rw [hO g (only_lt h4)]; exact h3, h4, h5⟩
theorem IntsAt.re {r : Nat} (h : IntsAt w F own B r) (hO : ∀ k, k < w.heap.size → own' k = own k) : IntsAt w F own' B r :=
  MapV.mono h (fun _ _ hv => hv.re hO)
theorem RowAt.ty {e : TypeId} {size : Nat} (h : RowAt w F e size v n xs) : ∀ k, v.ownBlock = some k → ∃ cur, w.heap[k]? = some (.cells cur e (0, 0)) := by
  intro k hk
  rcases h.2 with ⟨rfl, _⟩ | ⟨g, o, c, cur, rfl, h2, h3, _⟩
  · cases hk
  · cases hk; exact ⟨cur, h3⟩
theorem IntAt.blk {p : Nat × ByteArray} (h : IntAt w F own p B v) : ∀ k, v.ownBlock = some k → F k ∧ own k = p ∧ ∃ cur, w.heap[k]? = some (.cells cur 3 (0, 0)) := by
  intro k hk
  rcases h with rfl | ⟨g, n, c, cur, rfl, h2, h3, h4, h5⟩
  · cases hk
  · cases hk; exact ⟨h2, h3, cur, h4⟩
/-- One more series. -/
theorem TabC.snoc {x : Se} (h : TabC w F t l by_ me ix own B X) (ho : Only (fun k => l.ownBlock = some k ∨ k = t ∨ k = by_) w w')
    (ht : w'.heap[t]? = some (.cells #[l', .map (some by_), .map (some me), .map (some ix)] 96 (0, 0)))
    (hrow : RowAt w' (fun k => l.ownBlock = some k ∨ w.heap.size ≤ k) 32 2 l' (X.length + 1) (rowF sec X ++ sec x))
    (hm : MapS w' by_ (byL 0 (X.map seC) ++ [(seK (seC x), .int .i64 ((X.length + 1 : Nat) : Int))]))
    (hl : RdLs w' x.2) (hl2 : 0 < x.2.2.2.length → ∀ ad, x.2.1 = some ad → w.heap.size ≤ ad.block ∧ l'.ownBlock ≠ some ad.block) (hsm : smallS x.1 x.2.2.2 ∧ serE x.1 x.2.2.2 = 0) :
    TabC w' (fun k => F k ∨ w.heap.size ≤ k) t l' by_ me ix (fun k => if w.heap.size ≤ k then (t, ⟨#[]⟩) else own k) B (X ++ [x]) := by
  have htl := only_lt h.tab
  have hown : ∀ k, k < w.heap.size → (fun k => if w.heap.size ≤ k then (t, (⟨#[]⟩ : ByteArray)) else own k) k = own k := fun k hk => if_neg (by omega)
  have hob : ∀ k, l.ownBlock = some k → (F k ∧ k ≠ t) ∧ k < w.heap.size := fun k hk => h.row.lt k hk
  have hby : ∃ es c, w.heap[by_]? = some (.map es c) := by obtain ⟨es, c, h1, _⟩ := h.bym; exact ⟨es, c, h1⟩
  obtain ⟨be, bc, hby⟩ := hby
  have hmapn : ∀ r es c, w.heap[r]? = some (.map es c) → r ≠ by_ → ¬ (l.ownBlock = some r ∨ r = t ∨ r = by_) := by
    rintro r es c hr hne (e | e | e)
    · obtain ⟨cur, hc⟩ := h.row.ty r e
      rw [hc] at hr; cases hr
    · rw [e, h.tab] at hr; cases hr
    · exact hne e
  have hintn : ∀ k cur, (F k ∧ k ≠ t) → w.heap[k]? = some (.cells cur 3 (0, 0)) → ¬ (l.ownBlock = some k ∨ k = t ∨ k = by_) := by
    rintro k cur hk hc (e | e | e)
    · obtain ⟨cur', hc'⟩ := h.row.ty k e
      rw [hc'] at hc; cases hc
    · exact hk.2 e
    · rw [e, hby] at hc; cases hc
  have hI : ∀ r, r ≠ by_ → IntsAt w (fun k => F k ∧ k ≠ t) own B r → IntsAt w' (fun k => (F k ∨ w.heap.size ≤ k) ∧ k ≠ t) (fun k => if w.heap.size ≤ k then (t, ⟨#[]⟩) else own k) B r := by
    intro r hne hr
    have hr2 := IntsAt.re hr hown
    obtain ⟨es, c, h1, _⟩ := hr
    exact IntsAt.weak (IntsAt.keep2 hr2 ho (hmapn r es c h1 hne) (fun k cur hk hc => hintn k cur hk hc)) (fun k _ hk => ⟨.inl hk.1, hk.2⟩) (Nat.le_refl _)
  exact {
    int := .inl h.int
    inb := .inl h.inb
    inm := .inl h.inm
    ini := .inl h.ini
    ne := h.ne
    tab := ht
    row := by
      rw [List.length_append, List.length_singleton]
      have e : rowF sec (X ++ [x]) = rowF sec X ++ sec x := by rw [rowF_append]; simp [rowF]
      rw [e]
      exact hrow.weak (fun k _ hk => hk.elim (fun hk => ⟨.inl (hob k hk).1.1, (hob k hk).1.2⟩) (fun hk => ⟨.inr hk, by omega⟩))
    lab := fun y hy => by
      rcases List.mem_append.1 hy with hy | hy
      · have hb : ∀ (_ : 0 < y.2.2.2.length) ad, y.2.1 = some ad → ad.block < w.heap.size := fun h0 ad e => by
          obtain ⟨ad', e', hb, _⟩ := (h.lab y hy).1.2 h0
          rw [e] at e'; cases e'; exact hb
        refine ⟨reads_keep ho (h.lab y hy).1 (fun h0 ad e => ?_), fun h0 ad e => ?_⟩
        · obtain ⟨_, h3, h4, _⟩ := (h.lab y hy).2 h0 ad e
          rintro (e1 | e1 | e1)
          · exact h4 e1
          · exact h3 e1
          · exact lab_nomap (h.lab y hy).1 h0 e be bc (by rw [e1]; exact hby)
        · obtain ⟨h2, h3, h4, h5⟩ := (h.lab y hy).2 h0 ad e
          refine ⟨.inl h2, h3, fun e1 => ?_, (hown _ (hb h0 ad e)).trans h5⟩
          rcases (hrow.lt _ e1).1 with e2 | e2
          · exact h4 e2
          · have := hb h0 ad e; omega
      · obtain rfl := List.mem_singleton.1 hy
        exact ⟨hl, fun h0 ad e => ⟨.inr (hl2 h0 ad e).1, by have := (hl2 h0 ad e).1; omega, (hl2 h0 ad e).2, if_pos (hl2 h0 ad e).1⟩⟩
    sm := fun y hy => by
      rcases List.mem_append.1 hy with hy | hy
      · exact h.sm y hy
      · obtain rfl := List.mem_singleton.1 hy
        exact hsm
    bym := by
      rw [List.map_append, List.map_cons, List.map_nil, byL_snoc, List.length_map, Nat.zero_add]
      exact hm
    mem := hI me (fun e => h.ne.1 e.symm) h.mem
    ind := by
      obtain ⟨es, c, h1, _⟩ := h.ind
      exact (MapV.mono h.ind (fun _ _ ⟨r, h1, h2, h3, h4, h5, h6⟩ => ⟨r, h1, .inl h2, h3, h4, h5, hI r h3 h6⟩)).keep ho (hmapn ix es c h1 (fun e => h.ne.2.1 e.symm)) }
/-- A row of numbers of one of its maps has grown, and is stored. -/
theorem TabC.bump {T : TypeId} (hT : Try.prog.underlying T = some (.map 9 39)) (h : TabC w F t l by_ me ix own B X) (hF : ∀ k, w.heap.size ≤ k → F k)
    (hrF : F r0) (hne : r0 ≠ by_ ∧ r0 ≠ ix) (hr : IntsAt w (fun k => F k ∧ k ≠ t) own B r0) (hv : IntAt w (fun k => F k ∧ k ≠ t) own (r0, s0) B v)
    (hb : Below w.heap.size w w2) (hO : Only (fun i => v.ownBlock = some i) w2 W) (hu : W.ownsRow 0 3 1 u n xs) (hn : n ≤ B + 1) (huB : u.ownBlock = v.ownBlock ∨ u.ownBlock = some w2.heap.size) :
    ∃ w', (Instr.mapUpdate T (.map (some r0)) (.string s0) u).run Try.prog W = .ok () w' ∧ (∃ own', TabC w' F t l by_ me ix own' (B + 1) X) ∧ Only (fun i => v.ownBlock = some i ∨ i = r0) w w' ∧ ∀ i, v.ownBlock = some i → F i ∧ ∃ cur, w.heap[i]? = some (.cells cur 3 (0, 0)) := by
  have htl := only_lt h.tab
  have hs2 := hb.size
  obtain ⟨own', ho'⟩ : ∃ o : Nat → Nat × ByteArray, o = fun k => if k = w2.heap.size then (r0, s0) else own k := ⟨_, rfl⟩
  have hown : ∀ k, k < w.heap.size → own' k = own k := fun k hk => by rw [ho']; exact if_neg (by omega)
  have hbl := hv.blk
  obtain ⟨re, rc, hr0⟩ : ∃ es c, w.heap[r0]? = some (.map es c) := by obtain ⟨es, c, h1, _⟩ := hr; exact ⟨es, c, h1⟩
  have hrlt := only_lt hr0
  have hOw : Only (fun i => v.ownBlock = some i) w W := (Only.of_below hb).trans hO
  have hvmap : ∀ r es c, w.heap[r]? = some (.map es c) → v.ownBlock ≠ some r := fun r es c hr e => by
    obtain ⟨_, _, cur, hc⟩ := hbl r e
    rw [hc] at hr; cases hr
  -- a row of another key
  have hrow : ∀ r s x, (r, s) ≠ (r0, s0) → IntAt w (fun k => F k ∧ k ≠ t) own (r, s) B x → IntAt W (fun k => F k ∧ k ≠ t) own' (r, s) (B + 1) x := by
    intro r s x hrs hx
    refine IntAt.weak (IntAt.keep (hx.re hown) hOw ?_) (fun _ _ hk => hk) (by omega)
    intro k cur _ hk hc e
    obtain ⟨_, ho2, _⟩ := hbl k e
    rw [hown k (only_lt hc), ho2] at hk
    exact hrs hk.symm
  have hnew : IntAt W (fun k => F k ∧ k ≠ t) own' (r0, s0) (B + 1) u := IntAt.of_own hu hn (fun g hg => by
    rcases huB with e | e
    · rw [e] at hg
      obtain ⟨h1, h2, cur, h3⟩ := hbl g hg
      exact ⟨h1, by rw [hown g (only_lt h3)]; exact h2⟩
    · rw [e] at hg; cases hg
      exact ⟨⟨hF _ hs2, by omega⟩, by rw [ho']; exact if_pos rfl⟩)
  obtain ⟨w', hrun, hm', hO'⟩ := MapV.upd (P := Try.prog) (T := T) (V' := fun s x => IntAt W (fun k => F k ∧ k ≠ t) own' (r0, s) (B + 1) x) hT Try.underlying9 (MapV.keep hr hOw (hvmap r0 re rc hr0)) s0 (v := u) (fun s x hs hx => hrow r0 s x (fun e => hs (by cases e; rfl)) hx) hnew
  have hW0 : W.heap[r0]? = some (.map re rc) := hOw.get hr0 (hvmap r0 re rc hr0)
  have hOt : Only (fun i => v.ownBlock = some i ∨ i = r0) w w' := (hOw.mono (fun _ _ e => .inl e)).trans (hO'.mono (fun _ _ e => .inr e))
  have hints : ∀ k cur, W.heap[k]? = some (.cells cur 3 (0, 0)) → ¬ k = r0 := fun k cur hc e => by rw [e, hW0] at hc; cases hc
  have hI : ∀ r, IntsAt w (fun k => F k ∧ k ≠ t) own B r → IntsAt w' (fun k => F k ∧ k ≠ t) own' (B + 1) r := by
    intro r hrr
    by_cases e : r = r0
    · subst e
      exact MapV.mono hm' (fun s x hx => hx.keep hO' (fun k cur _ _ hc => hints k cur hc))
    · have hrr' : MapV W r fun s x => IntAt W (fun k => F k ∧ k ≠ t) own' (r, s) (B + 1) x := by
        obtain ⟨es, c, h1, _⟩ := id hrr
        exact MapV.keep (MapV.mono hrr (fun s x hx => hrow r s x (fun e' => e (by cases e'; rfl)) hx)) hOw (hvmap r es c h1)
      exact (MapV.mono hrr' (fun s x hx => hx.keep hO' (fun k cur _ _ hc => hints k cur hc))).keep hO' e
  refine ⟨w', hrun, ⟨own', ?_⟩, hOt, fun i hi => ⟨(hbl i hi).1.1, (hbl i hi).2.2⟩⟩
  have hmapn : ∀ r es c, w.heap[r]? = some (.map es c) → r ≠ r0 → ¬ (v.ownBlock = some r ∨ r = r0) := fun r es c hr hne e => e.elim (hvmap r es c hr) hne
  exact {
    int := h.int
    inb := h.inb
    inm := h.inm
    ini := h.ini
    ne := h.ne
    tab := hOt.get h.tab (fun e => by
      rcases e with e | e
      · exact (hbl t e).1.2 rfl
      · rw [← e, h.tab] at hr0; cases hr0)
    row := h.row.keep' hOt (fun k hk e => by
      obtain ⟨cur, hc⟩ := h.row.ty k hk
      rcases e with e | e
      · obtain ⟨_, _, cur', hc'⟩ := hbl k e
        rw [hc] at hc'; cases hc'
      · rw [← e, hc] at hr0; cases hr0)
    lab := fun y hy => by
      refine ⟨reads_keep hOt (h.lab y hy).1 (fun h0 ad e => ?_), fun h0 ad e => ?_⟩
      · obtain ⟨_, h3, h4, h5⟩ := (h.lab y hy).2 h0 ad e
        rintro (e1 | e1)
        · obtain ⟨_, h6, _⟩ := hbl _ e1
          rw [h5] at h6
          cases h6
          rw [h.tab] at hr0; cases hr0
        · exact lab_nomap (h.lab y hy).1 h0 e re rc (by rw [e1]; exact hr0)
      · obtain ⟨h2, h3, h4, h5⟩ := (h.lab y hy).2 h0 ad e
        refine ⟨h2, h3, h4, (hown _ ?_).trans h5⟩
        obtain ⟨ad', e', hb, _⟩ := (h.lab y hy).1.2 h0
        rw [e] at e'; cases e'; exact hb
    sm := h.sm
    bym := by
      obtain ⟨es, c, h1, _⟩ := id h.bym
      exact h.bym.keep hOt (hmapn by_ es c h1 (fun e => hne.1 e.symm))
    mem := hI me h.mem
    ind := by
      obtain ⟨es, c, h1, _⟩ := id h.ind
      exact (MapV.mono h.ind (fun _ _ ⟨r, h1, h2, h3, h4, h5, h6⟩ => ⟨r, h1, h2, h3, h4, h5, hI r h6⟩)).keep hOt (hmapn ix es c h1 (fun e => hne.2 e.symm)) }
/-- A map for a name that has none yet. -/
theorem TabC.name {T : TypeId} {H : Nat} (hT : Try.prog.underlying T = some (.map 9 92)) (h : TabC w F t l by_ me ix own B X) (hF : ∀ k, w.heap.size ≤ k → F k) (s : ByteArray) (hb : Below w.heap.size w W) (hH : w.heap.size ≤ H) (hHm : W.heap[H]? = some (.map #[] 0)) :
    ∃ w', (Instr.mapUpdate T (.map (some ix)) (.string s) (.map (some H))).run Try.prog W = .ok () w' ∧ TabC w' F t l by_ me ix own B X ∧ Only (fun i => i = ix) w w' ∧ Only (fun i => i = ix) W w' ∧ ∃ es c, w'.heap[ix]? = some (.map es c) ∧ ∃ e ∈ es.toList, e.key = .string s := by
  have hC := h.keep (S := fun _ => False) (Only.of_below hb) (fun _ _ _ h => h)
  have hbl : by_ < w.heap.size := h.bym.lt
  have hml : me < w.heap.size := MapV.lt h.mem
  have hil : ix < w.heap.size := h.ind.lt
  obtain ⟨w', hrun, hm', hO', hin⟩ := MapV.upd2 (P := Try.prog) (T := T) (V' := fun _ v => ∃ r, v = .map (some r) ∧ F r ∧ r ≠ by_ ∧ r ≠ me ∧ r ≠ ix ∧ IntsAt W (fun k => F k ∧ k ≠ t) own B r) hT Try.underlying9 hC.ind s (v := .map (some H)) (fun s x _ hx => hx) ⟨H, rfl, hF _ hH, by omega, by omega, by omega, ⟨#[], 0, hHm, by simp, fun _ h => by cases h⟩⟩
  have hOt : Only (fun i => i = ix) w w' := (Only.of_below hb).trans hO'
  obtain ⟨xe, xc, hx0⟩ : ∃ es c, W.heap[ix]? = some (.map es c) := by obtain ⟨es, c, h1, _⟩ := hC.ind; exact ⟨es, c, h1⟩
  have hints : ∀ k cur, (F k ∧ k ≠ t) → W.heap[k]? = some (.cells cur 3 (0, 0)) → ¬ k = ix := fun k cur _ hc e => by rw [e, hx0] at hc; cases hc
  refine ⟨w', hrun, ?_, hOt, hO', hin⟩
  exact {
    int := h.int
    inb := h.inb
    inm := h.inm
    ini := h.ini
    ne := h.ne
    tab := hO'.get hC.tab (fun e => by have h3 := hC.tab; rw [e, hx0] at h3; cases h3)
    row := hC.row.keep' hO' (fun k hk e => by
      obtain ⟨cur, hc⟩ := hC.row.ty k hk
      rw [e, hx0] at hc; cases hc)
    lab := fun y hy => ⟨reads_keep hO' (hC.lab y hy).1 (fun h0 ad e e1 => lab_nomap (hC.lab y hy).1 h0 e xe xc (by rw [e1]; exact hx0)), (hC.lab y hy).2⟩
    sm := h.sm
    bym := hC.bym.keep hO' h.ne.2.1
    mem := IntsAt.keep2 hC.mem hO' h.ne.2.2 hints
    ind := MapV.mono hm' (fun _ _ ⟨r, h1, h2, h3, h4, h5, h6⟩ => ⟨r, h1, h2, h3, h4, h5, IntsAt.keep2 h6 hO' h5 hints⟩) }
end
/-- What the append of a number leaves. -/
def D7i (wr : World) (B : Nat) (v9 v : Value) (W : World) : Prop := ∃ w2 n xs, Below wr.heap.size wr w2 ∧ n ≤ B + 1 ∧ W.ownsRow 0 3 1 v n xs ∧ Only (fun i => v9.ownBlock = some i) w2 W ∧ (v.ownBlock = v9.ownBlock ∨ v.ownBlock = some w2.heap.size)
theorem D7i.stab (wr : World) (B : Nat) (v9 v : Value) : Stab (D7i wr B v9 v) := fun _ _ ⟨w2, n, xs, h1, h2, h3, h4, h5⟩ hb => ⟨w2, n, xs, h1, h2, or_below h3 hb, h4.trans (Only.of_below hb), h5⟩
section
variable {Φ : Phi} {P : Program} {ts : List Value} {df : List Deferred} {E : (World → Prop) → (World → Prop) → Act → Prop} {r : List (Nat × Bool)} {i : Nat} {o : Oper} {lo : List Oper}
theorem api_run {wr w : World} {G : Nat → Prop} {own : Nat → Nat × ByteArray} {p : Nat × ByteArray} {B : Nat} {v9 v : Value} {x : Int} {fs : List (Nat × Obj)} (hv : IntAt wr G own p B v9) (hB : B ≤ 1000000) (hn : ∀ p ∈ fs, ¬ v9.ownBlock = some p.1)
    (hc : FC wr (fun k => v9.ownBlock = some k) fs w ∧ Triv w) (hd : D6 wr 3 #[.int .i64 x] v w) (ty : TypeId) :
    ∃ u w', (Builtin.append_ #[39, 39] ty #[v9, v]).run Try.prog w = .ok u w' ∧ stepR (fun w => FC wr (fun k => v9.ownBlock = some k) fs w ∧ Triv w) (fun _ => Triv) (D7i wr B v9) u w' := by
  obtain ⟨hb, H, h2, rfl, h4⟩ := hd
  obtain ⟨n, xs, u, W', hrun, h1, h3, h5, h6⟩ := int_app (hv.keep (S := fun _ => False) (Only.of_below hb) (fun _ _ _ _ _ h => h)) h4 hB ty
  exact ⟨u, W', hrun, ⟨FC.step hn _ _ hc.1 h5, triv _⟩, triv _, w, n, xs, hb, h1, h3, h5, h6⟩
theorem wt_api {wr : World} {S : Nat → Prop} {fs : List (Nat × Obj)} {e : TypeId} {cs : Array Value} {v v9 : Value} {B : Nat} (hφ : Φ i = none) (ho : nthO lo i = some o) (hw : wantB lo ts o.guard = true)
    (hl : ∀ w, (FC wr S fs w ∧ Triv w) → D6 wr e cs v w → stepRes P (stepR (fun w => FC wr S fs w ∧ Triv w) (fun _ => Triv) (D7i wr B v9)) ((execOp (Act.eval { tmps := ts.toArray, defers := df }) o).run P w))
    (h : ∀ K : (World → Prop) → (World → Prop) → Act → Prop, Shut (∀ C D a, WpT Φ P lo E r C D a → K C D a) → ∀ u, K (fun w => (FC wr S fs w ∧ Triv w) ∧ Triv w) (D7i wr B v9 u) (Act.put { tmps := ts.toArray, defers := df } o.dst u)) :
    WpT Φ P lo E ((i, true) :: r) (fun w => FC wr S fs w ∧ Triv w) (D6 wr e cs v) { tmps := ts.toArray, defers := df } :=
  wt_step hφ (fun _ => Triv) (D7i wr B v9) (fun _ _ _ _ _ => triv _) (fun u => D7i.stab wr B v9 u) ho hw hl h
end
/-- A map has been made. -/
def MkM (wr : World) (v : Value) (W : World) : Prop := ∃ H, v = .map (some H) ∧ wr.heap.size ≤ H ∧ W.heap[H]? = some (.map #[] 0)
theorem MkM.stab (wr : World) (v : Value) : Stab (MkM wr v) := fun _ _ ⟨H, h1, h2, h3⟩ hb => ⟨H, h1, h2, keepB h3 hb⟩
end Go.Proofs.Ytangcgfchalnaaa
