/- number.Bytes: its contract. -/
import Derived.Test.YtfiinceogenlmaaWir
import Derived.Test.YtfiinceogenlmaaNum
namespace Go.Proofs.Ytfiinceogenlmaa
open Go.RowKit
/-- A value as bytes. -/
def valB (n : Int) (o : Bool) : List UInt8 := (if o then 1 else 0) :: (if o then [] else numB (zz n))
theorem valB_len {n : Int} (h : In64 n) (o : Bool) : (valB n o).length ≤ 10 := by
  have := numB_len (zz_64 h.1 h.2)
  unfold valB
  cases o <;> simp <;> omega
set_option maxRecDepth 100000 in
theorem bytes_any (A : Option Addr) (c : Nat) (l : List UInt8) (n : Int) (o : Bool) (hn : In64 n) (w : World) (hp : Rd w A l) (hl : l.length ≤ 1099510000000) :
    Calls Try.prog 30 #[.slice A l.length c, .agg #[.int .i64 n, .bool o]] w (FreshB w (l ++ valB n o)) := by
  have HP := Lib.hid hp
  have HN := Lib.hid hn
  have HB := Lib.hid (below_alloc (Below.refl w.heap.size w) (Obj.cells #[.int .i64 (n), .bool o] 25))
  have CT := Lib.hid (truth_any A c l o (w.alloc (Obj.cells #[.int .i64 (n), .bool o] 25)) (hp.below HB.out) (by omega))
  clear hp hn
  go_enter Try.func30, Try.ntmps30
  go_wp2_with fail
  refine CT.out.mono ?_
  intro e w1 hf
  obtain ⟨A1, c1, m, rfl, HM, _, HR, HO, H5⟩ := hf.named
  have kn : w1.cell? ⟨w.heap.size, 0, none⟩ = some (.int .i64 n) := cellAt (keepB (newB w _) H5.out) rfl
  have ko : w1.cell? ⟨w.heap.size, 1, none⟩ = some (.bool o) := cellAt (keepB (newB w _) H5.out) rfl
  have H2 := Lib.hid (HB.out.trans (H5.out.mono HB.out.size))
  replace HO := Lib.hid (HO.out.lower HB.out.size)
  have hm : m.length = l.length + 1 := by rw [HM.out]; simp
  have HL := Lib.hid hm
  clear hf H5 hm
  cases o
  · have CS := Lib.hid (signed_any A1 c1 m n HN.out w1 HR.out (by have := HL.out; omega))
    go_wp2_with fail
    refine CS.out.mono ?_
    intro e w2 hf
    obtain ⟨v, rfl, h1, h2⟩ := hf.lift H2.out
    have E : m ++ numB (zz n) = l ++ valB n false := by rw [HM.out]; simp [valB]
    rw [E] at h1
    have H1 := Lib.hid h1
    have H2 := Lib.hid h2
    clear h1 h2 hf E
    go_wp2_with fail
    go_ret
    exact ⟨_, rfl, H1.out, H2.out⟩
  · go_wp2_with fail
    go_ret
    refine ⟨_, rfl, ?_, H2.out⟩
    have E : m = l ++ valB n true := by rw [HM.out]; simp [valB]
    rw [← E]; exact HO.out
end Go.Proofs.Ytfiinceogenlmaa
