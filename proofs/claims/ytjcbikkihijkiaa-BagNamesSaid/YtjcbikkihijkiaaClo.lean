/- Bytes cloned; a reader made. -/
import Derived.Test.YtjcbikkihijkiaaRdm
namespace Go.Proofs.Ytjcbikkihijkiaa
open Go.RowKit
set_option maxRecDepth 100000 in
theorem clone_b (A : Option Addr) (c : Nat) (l : List UInt8) (w : World) (hp : Rd w A l) (hl : l.length ≤ 1099511000000) :
    Calls Try.prog 61 #[.slice A l.length c] w (FreshB w l) := by
  have HO : Hid (OwnB (w.alloc (.cells #[] 5)) w.heap.size (.slice (some ⟨w.heap.size, 0, none⟩) 0 0) []) := Lib.hid (World.ownsRow_lit w #[] 0 (Nat.le_refl _) (by decide) rfl)
  have HB := Lib.hid ((Below.refl w.heap.size w).alloc (Nat.le_refl _) (.cells #[] 5))
  have HP := Lib.hid (hp.below HB.out)
  have hq := fun (W : World) (a : Option Addr) (n c : Nat) => Lib.run_eql_slice_nil (P := Try.prog) W 49 5 a n c 0 0 Try.underlying49
  cases A with
  | none =>
    have h0 : l = [] := by
      rcases Nat.eq_zero_or_pos l.length with h | h
      · exact List.eq_nil_of_length_eq_zero h
      · obtain ⟨ad, e, _⟩ := hp.2 h; cases e
    subst h0
    clear hp
    go_enter Try.func61, Try.ntmps61
    go_wp2
    go_ret
    exact ⟨_, rfl, OwnB.nil_, Below.refl _ _⟩
  | some ad =>
    clear hp
    go_enter Try.func61, Try.ntmps61
    go_wp2_with (at_builtin; go_loud (refine wpL_ap rfl _ _ rfl w.heap.size _ [] rfl HO.out _ _ _ l rfl rfl HP.out ?o3 HB.out.size ?o5))
    case o3 => first | omega | (simp; omega)
    case o5 =>
      intro v' w' HO' hg _
      have HB' := Lib.hid (own_block_below HB.out HO.out hg)
      have HO' := Lib.hid HO'
      clear hg
      go_wp2_with fail
      go_ret
      exact ⟨_, rfl, HO'.out, HB'.out⟩
theorem OwnB.addr {w : World} {b : Nat} {A : Option Addr} {n c : Nat} {l : List UInt8} (h : OwnB w b (.slice A n c) l) : ∀ ad, A = some ad → b ≤ ad.block ∧ ad.block < w.heap.size := by
  intro ad e
  subst e
  exact h.lt ad.block rfl
/-- A new object at block r, all whose memory is new. -/
def MadeR (w : World) (l : List UInt8) (e : Ending) (w' : World) : Prop := ∃ r, e = .returned (ptrTo r) ∧ RdrW w' (fun k => w.heap.size ≤ k) r (l, 0) ∧ Below w.heap.size w w'
theorem new_any (A : Option Addr) (c : Nat) (l : List UInt8) (w : World) (hp : Rd w A l) (hl : l.length ≤ 1099511000000) :
    Calls Try.prog 48 #[.slice A l.length c] w (MadeR w l) := by
  have CC := Lib.hid (clone_b A c l w hp hl)
  clear hp
  go_enter Try.func48, Try.ntmps48
  go_wp2_with fail
  refine CC.out.mono ?_
  intro e w1 hf
  obtain ⟨A1, c1, rfl, h1, h2, h3, h4, h5⟩ := hf.read
  have H1 := Lib.hid (And.intro h1 h2)
  have H3 := Lib.hid h3
  have H4 := Lib.hid h4
  have H5 := Lib.hid h5
  clear hf h1 h2 h3 h4 h5
  go_wp2_with fail
  go_ret
  refine ⟨w1.heap.size, rfl, ⟨A1, c1, newB _ _, H1.out.1, H1.out.2, hl, H3.out.below (below_alloc (Below.refl _ _) _), H5.out.size, fun ad e => ?_⟩, below_alloc H5.out _⟩
  have := H4.out.addr ad e
  exact ⟨this.1, by omega, by rw [alloc_size]; omega⟩
end Go.Proofs.Ytjcbikkihijkiaa
