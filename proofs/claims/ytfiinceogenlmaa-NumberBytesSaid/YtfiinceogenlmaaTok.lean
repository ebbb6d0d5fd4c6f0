/- Rows that are handed to the next writer, in a region whose order is open: words shared by laws. -/
import Derived.Test.YtfiinceogenlmaaWRef
import Derived.Test.YtfiinceogenlmaaStr
import Derived.Test.YtfiinceogenlmaaRegT
namespace Go.Proofs.Ytfiinceogenlmaa
open Go.RowKit
/-- Readings that stay. -/
def Kept (W : World) (ks : List (Option Addr × List UInt8)) : Prop := ∀ p ∈ ks, Rd W p.1 p.2
theorem Kept.below {W W' : World} {ks : List (Option Addr × List UInt8)} (h : Kept W ks) (hb : Below W.heap.size W W') : Kept W' ks := fun p hp => (h p hp).below hb
theorem Kept.cons {W : World} {ks : List (Option Addr × List UInt8)} {A : Option Addr} {l : List UInt8} (h : Kept W ks) (hr : Rd W A l) : Kept W ((A, l) :: ks) := fun p hp => by
  rcases List.mem_cons.1 hp with rfl | hp
  · exact hr
  · exact h p hp
theorem Kept.get {W : World} {ks : List (Option Addr × List UInt8)} (h : Kept W ks) (i : Nat) {A : Option Addr} {l : List UInt8} (hi : ks[i]? = some (A, l)) : Rd W A l := h (A, l) (List.mem_of_getElem? hi)
/-- Bytes of a value, read. -/
def RV (m : List UInt8) (v : Value) (W : World) : Prop := ∃ A c, v = .slice A m.length c ∧ Rd W A m
theorem RV.stab (m : List UInt8) (v : Value) : Stab (RV m v) := fun _ _ h hb => by
  obtain ⟨A, c, h1, h2⟩ := h; exact ⟨A, c, h1, h2.below hb⟩
theorem RV.conv {m : List UInt8} {v : Value} {W : World} (h : RV m v W) : (convert 48 9 v).run Try.prog W = .ok (.string ⟨m.toArray⟩) W := by
  obtain ⟨A, c, rfl, h2⟩ := h; exact conv_rd h2
/-- A row that its maker's successor may write. -/
def Tok (C : World → Prop) (l : List UInt8) (v : Value) (W : World) : Prop := ∃ N, N ≤ W.heap.size ∧ OwnB W N v l ∧ ∀ W', Below N W W' → C W'
theorem Tok.stab (C : World → Prop) (l : List UInt8) (v : Value) : Stab (Tok C l v) := fun _ _ h hb => by
  obtain ⟨N, h1, h2, h3⟩ := h
  exact ⟨N, Nat.le_trans h1 hb.size, h2.below hb, fun W2 h4 => h3 W2 ((hb.mono h1).trans h4)⟩
theorem own_tok {C : World → Prop} (SC : Stab C) (A : Option Addr) (c : Nat) (l : List UInt8) (hl : l.length ≤ 5000) (W : World) (hc : C W) (hr : Rd W A l) :
    Calls Try.prog 31 #[.slice A l.length c] W (fun e W' => ∃ v, e = .returned v ∧ stepR C (fun _ => Triv) (Tok C l) v W') :=
  (own_any A c l W hr (by omega)).mono fun e W' ⟨v, he, ho, hb⟩ => ⟨v, he, SC _ _ hc hb, triv _, W.heap.size, hb.size, ho, fun W2 h2 => SC _ _ hc (hb.trans h2)⟩
theorem tok_fresh {C : World → Prop} {f : FuncId} {args : Array Value} {l m : List UInt8} {v : Value} {W : World} (hT : Tok C l v W) (h : ∀ A c, v = .slice A l.length c → Rd W A l → Calls Try.prog f args W (FreshB W m)) :
    Calls Try.prog f args W (fun e W' => ∃ u, e = .returned u ∧ stepR (fun W => C W ∧ Triv W) (RV m) (fun _ => Triv) u W') := by
  obtain ⟨N, h1, h2, h3⟩ := hT
  obtain ⟨A, c, hv, _, _, hr⟩ := h2.form
  refine (h A c hv hr).mono fun e W' hf => ?_
  obtain ⟨A', c', he, _, _, hR, _, hB⟩ := hf.read
  exact ⟨_, he, ⟨h3 W' (hB.mono h1), triv _⟩, ⟨A', c', rfl, hR⟩, triv _⟩
theorem tok_made {C : World → Prop} {f : FuncId} {args : Array Value} {l m : List UInt8} {v : Value} {W : World} (hT : Tok C l v W) (h : ∀ N, N ≤ W.heap.size → OwnB W N v l → Calls Try.prog f args W (MadeB N W m)) :
    Calls Try.prog f args W (fun e W' => ∃ u, e = .returned u ∧ stepR (fun W => C W ∧ Triv W) (RV m) (fun _ => Triv) u W') := by
  obtain ⟨N, h1, h2, h3⟩ := hT
  refine (h N h1 h2).mono fun e W' ⟨u, he, ho, hB⟩ => ?_
  obtain ⟨A', c', hv, _, _, hR⟩ := ho.form
  exact ⟨u, he, ⟨h3 W' hB, triv _⟩, ⟨A', c', hv, hR⟩, triv _⟩
theorem wt_own {Φ : Phi} {P : Program} {ts : List Value} {df : List Deferred} {E : (World → Prop) → (World → Prop) → Act → Prop} {r : List (Nat × Bool)} {C D : World → Prop} {i : Nat} {o : Oper} {lo : List Oper} (l : List UInt8) (hφ : Φ i = none) (ho : nthO lo i = some o) (hw : wantB lo ts o.guard = true)
    (hl : ∀ w, C w → D w → stepRes P (stepR C (fun _ => Triv) (Tok C l)) ((execOp (Act.eval { tmps := ts.toArray, defers := df }) o).run P w))
    (h : ∀ K : (World → Prop) → (World → Prop) → Act → Prop, Shut (∀ C D a, WpT Φ P lo E r C D a → K C D a) → ∀ v, K (fun w => C w ∧ Triv w) (Tok C l v) (Act.put { tmps := ts.toArray, defers := df } o.dst v)) :
    WpT Φ P lo E ((i, true) :: r) C D { tmps := ts.toArray, defers := df } :=
  wt_step hφ (fun _ => Triv) (Tok C l) (fun _ _ _ _ _ => triv _) (fun v => Tok.stab C l v) ho hw hl h
end Go.Proofs.Ytfiinceogenlmaa
