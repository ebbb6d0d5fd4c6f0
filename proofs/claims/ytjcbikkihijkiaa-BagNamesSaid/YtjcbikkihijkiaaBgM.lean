/- A bag's tree in memory: count, high, tell. -/
import Derived.Test.YtjcbikkihijkiaaBgL
import Derived.Test.YtjcbikkihijkiaaRegU
namespace Go.Proofs.Ytjcbikkihijkiaa
open Go.RowKit
def pq : Option Nat → Option Addr
  | none => none
  | some b => some ⟨b, 0, none⟩
abbrev pv (p : Option Nat) : Value := .pointer (pq p)
/-- The node at block b. -/
def NodeW (w : World) (b : Nat) (n : Int) (k : Nat) (a v : Int) (pl pr : Option Nat) : Prop :=
  w.heap[b]? = some (.cells #[.int .i64 n, .int .i64 (k : Int), .int .i64 a, .int .i64 v, pv pl, pv pr] 69 (0, 0))
/-- The tree at p, in memory of F. -/
def TreeW (w : World) : (Nat → Prop) → Option Nat → Tr → Prop
  | _, p, .nil => p = none
  | F, p, .node n k l r => ∃ b pl pr Fl Fr, p = some b ∧ F b ∧ NodeW w b n k (Tr.node n k l r).all (Tr.node n k l r).lev pl pr ∧ TreeW w Fl pl l ∧ TreeW w Fr pr r ∧
      (∀ k, Fl k → F k ∧ k ≠ b) ∧ (∀ k, Fr k → F k ∧ k ≠ b) ∧ ∀ k, ¬ (Fl k ∧ Fr k)
section
variable {w w' : World} {F G S : Nat → Prop} {p : Option Nat}
theorem TreeW.weak : ∀ {T : Tr} {F G : Nat → Prop} {p : Option Nat}, TreeW w F p T → (∀ k, F k → G k) → TreeW w G p T
  | .nil, _, _, _, h, _ => h
  | .node _ _ _ _, _, _, _, ⟨b, pl, pr, Fl, Fr, h1, h2, h3, h4, h5, h6, h7, h8⟩, hG =>
    ⟨b, pl, pr, Fl, Fr, h1, hG _ h2, h3, h4, h5, fun k hk => ⟨hG _ (h6 k hk).1, (h6 k hk).2⟩, fun k hk => ⟨hG _ (h7 k hk).1, (h7 k hk).2⟩, h8⟩
theorem TreeW.keep : ∀ {T : Tr} {F : Nat → Prop} {p : Option Nat}, TreeW w F p T → Only S w w' → (∀ k, F k → k < w.heap.size → ¬ S k) → TreeW w' F p T
  | .nil, _, _, h, _, _ => h
  | .node _ _ _ _, _, _, ⟨b, pl, pr, Fl, Fr, h1, h2, h3, h4, h5, h6, h7, h8⟩, ho, hn =>
    ⟨b, pl, pr, Fl, Fr, h1, h2, ho.get h3 (hn b h2 (only_lt h3)), h4.keep ho (fun k hk => hn k (h6 k hk).1), h5.keep ho (fun k hk => hn k (h7 k hk).1), h6, h7, h8⟩
theorem TreeW.below {T : Tr} (h : TreeW w F p T) (hb : Below w.heap.size w w') : TreeW w' F p T := h.keep (S := fun _ => False) (Only.of_below hb) (fun _ _ _ h => h)
/-- A tree lies in blocks that there are. -/
theorem TreeW.old : ∀ {T : Tr} {F : Nat → Prop} {p : Option Nat}, TreeW w F p T → TreeW w (fun k => F k ∧ k < w.heap.size) p T
  | .nil, _, _, h => h
  | .node _ _ _ _, _, _, ⟨b, pl, pr, _, _, h1, h2, h3, h4, h5, h6, h7, h8⟩ =>
    ⟨b, pl, pr, _, _, h1, ⟨h2, only_lt h3⟩, h3, h4.old, h5.old, fun k hk => ⟨⟨(h6 k hk.1).1, hk.2⟩, (h6 k hk.1).2⟩, fun k hk => ⟨⟨(h7 k hk.1).1, hk.2⟩, (h7 k hk.1).2⟩, fun k hk => h8 k ⟨hk.1.1, hk.2.1⟩⟩
end
theorem count_any {w : World} {F : Nat → Prop} {p : Option Nat} {T : Tr} (h : TreeW w F p T) : Calls Try.prog 33 #[pv p] w fun e w' => e = .returned (.int .i64 (T.all : Int)) ∧ w = w' := by
  cases T with
  | nil =>
    obtain rfl : p = none := h
    unfold pv pq
    go_enter Try.func33, Try.ntmps33
    go_wp2_with fail
    go_ret
    exact ⟨rfl, rfl⟩
  | node n k l r =>
    obtain ⟨b, pl, pr, Fl, Fr, rfl, _, h3, _⟩ := h
    have k2 := cellAt (o := 2) h3 rfl
    clear h3
    generalize (Tr.node n k l r).all = a at *
    unfold pv pq
    go_enter Try.func33, Try.ntmps33
    go_wp2_with fail
    go_ret
    exact ⟨rfl, rfl⟩
theorem high_any {w : World} {F : Nat → Prop} {p : Option Nat} {T : Tr} (h : TreeW w F p T) : Calls Try.prog 67 #[pv p] w fun e w' => e = .returned (.int .i64 (T.lev : Int)) ∧ w = w' := by
  cases T with
  | nil =>
    obtain rfl : p = none := h
    unfold pv pq
    go_enter Try.func67, Try.ntmps67
    go_wp2_with fail
    go_ret
    exact ⟨rfl, rfl⟩
  | node n k l r =>
    obtain ⟨b, pl, pr, Fl, Fr, rfl, _, h3, _⟩ := h
    have k3 := cellAt (o := 3) h3 rfl
    clear h3
    generalize (Tr.node n k l r).lev = a at *
    unfold pv pq
    go_enter Try.func67, Try.ntmps67
    go_wp2_with fail
    go_ret
    exact ⟨rfl, rfl⟩
theorem quiet_same {P : Program} {f : FuncId} {args : Array Value} {w : World} {v : Value} (h : Calls P f args w fun e w' => e = .returned v ∧ w = w') : Calls P f args w fun e w' => e = .returned v ∧ Below w.heap.size w w' := h.mono fun _ _ h => ⟨h.1, h.2 ▸ Below.refl _ _⟩
set_option maxHeartbeats 4000000 in
set_option maxRecDepth 100000 in
theorem tell_any {w : World} {b : Nat} {n a v : Int} {k : Nat} {pl pr : Option Nat} {Fl Fr : Nat → Prop} {l r : Tr} (h : NodeW w b n k a v pl pr) (hl : TreeW w Fl pl l) (hr : TreeW w Fr pr r) (nl : ¬ Fl b) (nr : ¬ Fr b)
    (hall : (Tr.node n k l r).all ≤ 1099511627776) (hlev : (Tr.node n k l r).cnt ≤ 1099511627776) :
    Calls Try.prog 66 #[.pointer (some ⟨b, 0, none⟩)] w fun e w' => e = .returned (.tuple #[]) ∧ NodeW w' b n k (Tr.node n k l r).all (Tr.node n k l r).lev pl pr ∧ Only (fun k => k = b) w w' := by
  have H1 := Lib.hid h
  have HL := Lib.hid hl
  have HR := Lib.hid hr
  have hlv := Tr.lev_cnt (Tr.node n k l r)
  have hz : l.all ≤ 1099511627776 ∧ r.all ≤ 1099511627776 ∧ k ≤ 1099511627776 ∧ k + l.all + r.all ≤ 1099511627776 := by simp only [Tr.all] at hall; omega
  have hy : l.lev ≤ 1099511627776 ∧ r.lev ≤ 1099511627776 ∧ 1 + max l.lev r.lev ≤ 1099511627776 := by simp only [Tr.lev] at hlv; omega
  obtain ⟨la, hla⟩ : ∃ x, l.all = x := ⟨_, rfl⟩
  obtain ⟨ra, hra⟩ : ∃ x, r.all = x := ⟨_, rfl⟩
  obtain ⟨lv, hlv'⟩ : ∃ x, l.lev = x := ⟨_, rfl⟩
  obtain ⟨rv, hrv⟩ : ∃ x, r.lev = x := ⟨_, rfl⟩
  have CL := Lib.hid (fun W (hb : TreeW W Fl pl l) => by have := quiet_same (count_any hb); rw [hla] at this; exact this)
  have CR := Lib.hid (fun W (hb : TreeW W Fr pr r) => by have := quiet_same (count_any hb); rw [hra] at this; exact this)
  have VL := Lib.hid (fun W (hb : TreeW W Fl pl l) => by have := quiet_same (high_any hb); rw [hlv'] at this; exact this)
  have VR := Lib.hid (fun W (hb : TreeW W Fr pr r) => by have := quiet_same (high_any hb); rw [hrv] at this; exact this)
  rw [hla, hra] at hz
  rw [hlv', hrv] at hy
  have w1 : IntKind.i64.wrap ((k : Int) + (la : Int)) = (k : Int) + la := by rw [IntKind.wrap_i64]; omega
  have w2 : IntKind.i64.wrap ((k : Int) + (la : Int) + (ra : Int)) = (k : Int) + la + ra := by rw [IntKind.wrap_i64]; omega
  have HA : Hid (((Tr.node n k l r).all : Int) = (k : Int) + la + ra) := Lib.hid (by simp only [Tr.all, hla, hra]; omega)
  have HV : Hid (((Tr.node n k l r).lev : Int) = if (lv : Int) < (rv : Int) then (rv : Int) + 1 else (lv : Int) + 1) := Lib.hid (by simp only [Tr.lev, hlv', hrv]; split <;> omega)
  obtain ⟨vv, hvv⟩ : ∃ vv : Int, ((Tr.node n k l r).lev : Int) = vv := ⟨_, rfl⟩
  have HVV := Lib.hid (hvv.symm.trans HV.out)
  rw [HA.out, hvv]
  clear HV hvv
  clear hall hlev hlv hl hr h hla hra hlv' hrv
  go_enter Try.func66, Try.ntmps66
  go_wp2_with fail
  refine wp_region_here 17 [(0, false), (1, false), (2, false), (3, false), (4, false), (5, false), (6, false), (7, false), (8, false), (9, false), (10, false), (11, false), (12, false), (13, false), (14, false), (15, false), (16, false)] (fun _ => .cells #[] 0) (by kernel_rfl) (by kernel_rfl) ?_
  repeat (first | (refine wpP_q rfl rfl rfl ?_; apply Exists.intro; refine ⟨fun w' hw' => ?_, fun K hK => ?_⟩; (focus ((have q0 := keepB (show w.heap[b]? = _ from H1.out) hw'; have j1 := cellAt (o := 1) q0 rfl; have j4 := cellAt (o := 4) q0 rfl; have j5 := cellAt (o := 5) q0 rfl; clear q0); go_simp; first | exact quiet_value | first | with_reducible exact quiet_enter (CL.out _ (HL.out.below hw')) | with_reducible exact quiet_enter (CR.out _ (HR.out.below hw')))); simp only [Act.put, List.setIfInBounds_toArray, List.set_cons_zero, List.set_cons_succ]; refine hK.out _ ?_; clear hK K) | (refine wpP_skip rfl rfl rfl (fun K hK => ?_); simp only [Act.put, List.setIfInBounds_toArray, List.set_cons_zero, List.set_cons_succ]; refine hK.out _ ?_; clear hK K))
  refine wpP_nil ?_
  intro w3 hb1
  have k9 := keepB (show w.heap[b]? = _ from H1.out) hb1
  have f2 := freeAt 2 k9
  have m2 := cellAt (o := 2) k9 rfl
  have HS := Lib.hid (setCell_get (o := 2) (u := .int .i64 ((k : Int) + la + ra)) k9)
  have HO := Lib.hid ((Only.of_below hb1).trans (Only.set w3 b 2 (.int .i64 ((k : Int) + la + ra))) : Only (fun k => k = b) w (w3.setCell ⟨b, 2, none⟩ (.int .i64 ((k : Int) + la + ra))))
  clear hb1 k9
  try simp only [List.drop_succ_cons, List.drop_zero]
  go_wp2_with fail
  clear f2 m2
  generalize (World.setCell w3 _ _) = W4 at *
  have HL4 := Lib.hid (HL.out.keep HO.out (fun k hk _ e => nl (e ▸ hk)))
  have HR4 := Lib.hid (HR.out.keep HO.out (fun k hk _ e => nr (e ▸ hk)))
  by_cases hm : (lv : Int) < (rv : Int)
  · have w5 : IntKind.i64.wrap ((rv : Int) + 1) = (rv : Int) + 1 := by rw [IntKind.wrap_i64]; omega
    have w6 : IntKind.i64.wrap (1 + (rv : Int)) = (rv : Int) + 1 := by rw [IntKind.wrap_i64]; omega
    have hv9 : vv = (rv : Int) + 1 := by rw [HVV.out, if_pos hm]
    clear HVV
    subst hv9
    refine wp_region_here 13 [(0, false), (1, false), (2, false), (3, false), (4, false), (5, false), (6, false), (7, false), (8, false), (9, false), (10, false), (11, false), (12, false)] (fun _ => .cells #[] 0) (by kernel_rfl) (by kernel_rfl) ?_
    repeat (first | (refine wpP_q rfl rfl rfl ?_; apply Exists.intro; refine ⟨fun w' hw' => ?_, fun K hK => ?_⟩; (focus ((have q0 := keepB HS.out hw'; have j4 := cellAt (o := 4) q0 rfl; have j5 := cellAt (o := 5) q0 rfl; clear q0); go_simp; first | exact quiet_value | first | with_reducible exact quiet_enter (VL.out _ (HL4.out.below hw')) | with_reducible exact quiet_enter (VR.out _ (HR4.out.below hw')))); simp only [Act.put, List.setIfInBounds_toArray, List.set_cons_zero, List.set_cons_succ]; refine hK.out _ ?_; clear hK K) | (refine wpP_skip rfl rfl rfl (fun K hK => ?_); simp only [Act.put, List.setIfInBounds_toArray, List.set_cons_zero, List.set_cons_succ]; refine hK.out _ ?_; clear hK K))
    refine wpP_nil ?_
    intro w7 hb7
    have k9 := keepB HS.out hb7
    have f3 := freeAt 3 k9
    have m3 := cellAt (o := 3) k9 rfl
    have HS7 := Lib.hid (setCell_get (o := 3) (u := .int .i64 ((rv : Int) + 1)) k9)
    have HO7 := Lib.hid (HO.out.trans ((Only.of_below hb7).trans (Only.set w7 b 3 (.int .i64 ((rv : Int) + 1)))))
    clear hb7 k9
    try simp only [List.drop_succ_cons, List.drop_zero]
    go_wp2_with fail
    go_end0
    exact ⟨rfl, by unfold NodeW; rw [HS7.out]; rfl, HO7.out⟩
  · have w5 : IntKind.i64.wrap ((lv : Int) + 1) = (lv : Int) + 1 := by rw [IntKind.wrap_i64]; omega
    have w6 : IntKind.i64.wrap (1 + (lv : Int)) = (lv : Int) + 1 := by rw [IntKind.wrap_i64]; omega
    have hv9 : vv = (lv : Int) + 1 := by rw [HVV.out, if_neg hm]
    clear HVV
    subst hv9
    refine wp_region_here 13 [(0, false), (1, false), (2, false), (3, false), (4, false), (5, false), (6, false), (7, false), (8, false), (9, false), (10, false), (11, false), (12, false)] (fun _ => .cells #[] 0) (by kernel_rfl) (by kernel_rfl) ?_
    repeat (first | (refine wpP_q rfl rfl rfl ?_; apply Exists.intro; refine ⟨fun w' hw' => ?_, fun K hK => ?_⟩; (focus ((have q0 := keepB HS.out hw'; have j4 := cellAt (o := 4) q0 rfl; have j5 := cellAt (o := 5) q0 rfl; clear q0); go_simp; first | exact quiet_value | first | with_reducible exact quiet_enter (VL.out _ (HL4.out.below hw')) | with_reducible exact quiet_enter (VR.out _ (HR4.out.below hw')))); simp only [Act.put, List.setIfInBounds_toArray, List.set_cons_zero, List.set_cons_succ]; refine hK.out _ ?_; clear hK K) | (refine wpP_skip rfl rfl rfl (fun K hK => ?_); simp only [Act.put, List.setIfInBounds_toArray, List.set_cons_zero, List.set_cons_succ]; refine hK.out _ ?_; clear hK K))
    refine wpP_nil ?_
    intro w7 hb7
    have k9 := keepB HS.out hb7
    have f3 := freeAt 3 k9
    have m3 := cellAt (o := 3) k9 rfl
    have HS7 := Lib.hid (setCell_get (o := 3) (u := .int .i64 ((lv : Int) + 1)) k9)
    have HO7 := Lib.hid (HO.out.trans ((Only.of_below hb7).trans (Only.set w7 b 3 (.int .i64 ((lv : Int) + 1)))))
    clear hb7 k9
    try simp only [List.drop_succ_cons, List.drop_zero]
    go_wp2_with fail
    go_end0
    exact ⟨rfl, by unfold NodeW; rw [HS7.out]; rfl, HO7.out⟩
end Go.Proofs.Ytjcbikkihijkiaa
