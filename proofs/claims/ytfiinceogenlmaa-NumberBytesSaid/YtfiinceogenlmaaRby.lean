/- The reference's Bytes of a value. -/
import Derived.Test.YtfiinceogenlmaaNumB
import Derived.Test.YtfiinceogenlmaaWRo
namespace Go.Proofs.Ytfiinceogenlmaa
open Go.RowKit
theorem not_own {w : World} {base : Nat} {v : Value} {l : List UInt8} (h : OwnB w base v l) : ¬ (v.ownBlock = some w.heap.size) := fun e => Nat.lt_irrefl _ (h.lt _ e).2
set_option maxRecDepth 100000 in
theorem rbytes_any (base : Nat) (v : Value) (l : List UInt8) (n : Int) (o : Bool) (hn : In64 n) (w : World) (ho : OwnB w base v l) (hbase : base ≤ w.heap.size) (hl : l.length ≤ 1099510000000) :
    Calls Try.prog 36 #[v, .agg #[.int .i64 n, .bool o]] w (MadeO v base w (l ++ valB n o)) := by
  have HV0 := Lib.hid (ho.below (below_alloc (Below.refl w.heap.size w) (Obj.cells #[.int .i64 (n), .bool o] 25)))
  have HN := Lib.hid hn
  have HB := Lib.hid (below_alloc (Below.refl w.heap.size w) (Obj.cells #[.int .i64 (n), .bool o] 25))
  have hs1 : base ≤ (w.alloc (Obj.cells #[.int .i64 (n), .bool o] 25)).heap.size := Nat.le_trans hbase HB.out.size
  have CT := Lib.hid (otruth_any base v l o (w.alloc (Obj.cells #[.int .i64 (n), .bool o] 25)) HV0.out hs1 (by omega))
  have HNO := Lib.hid (not_own ho)
  have HBS := Lib.hid hbase
  clear ho hn hs1 hbase
  go_enter Try.func36, Try.ntmps36
  go_wp2_with fail
  refine CT.out.mono ?_
  rintro e w1 ⟨v1, rfl, h1, h2, h3⟩
  have kn : w1.cell? ⟨w.heap.size, 0, none⟩ = some (.int .i64 n) := cellAt (h2.get (newB w _) HNO.out) rfl
  have ko : w1.cell? ⟨w.heap.size, 1, none⟩ = some (.bool o) := cellAt (h2.get (newB w _) HNO.out) rfl
  have H1 := Lib.hid h1
  have H2 : Hid (Only (fun k => v.ownBlock = some k) w w1) := Lib.hid ((Only.of_below HB.out).then h2 (fun _ _ h => h))
  have H3 := Lib.hid (Nat.le_trans HBS.out H2.out.size)
  have H4 : Hid (∀ k, v1.ownBlock = some k → k < w.heap.size → v.ownBlock = some k) := Lib.hid (fun k hk hl => by
    rcases h3 k hk with h | h
    · exact h
    · have := HB.out.size; omega)
  have H5 : Hid (∀ k, v1.ownBlock = some k → v.ownBlock = some k ∨ w.heap.size ≤ k) := Lib.hid (fun k hk => (h3 k hk).imp id (fun h => Nat.le_trans HB.out.size h))
  clear h1 h2 h3
  cases o
  · have CS := Lib.hid (osigned_any base v1 (l ++ [0]) n HN.out w1 H1.out H3.out (by simp; omega))
    go_wp2_with fail
    refine CS.out.mono ?_
    rintro e w2 ⟨v2, rfl, g1, g2, g3⟩
    have G1 := Lib.hid g1
    have G2 := Lib.hid g2
    have G3 : Hid (∀ k, v2.ownBlock = some k → v.ownBlock = some k ∨ w.heap.size ≤ k) := Lib.hid (fun k hk => by
      rcases g3 k hk with h | h
      · exact H5.out k h
      · right; exact Nat.le_trans H2.out.size h)
    have E : (l ++ [0]) ++ numB (zz n) = l ++ valB n false := by simp [valB]
    have HE := Lib.hid E
    clear g1 g2 g3 E
    go_wp2_with fail
    go_ret
    exact ⟨_, rfl, by rw [← HE.out]; exact G1.out, H2.out.then G2.out (fun i hi h => H4.out i h hi), G3.out⟩
  · go_wp2_with fail
    go_ret
    exact ⟨_, rfl, by have := H1.out; simpa [valB] using this, H2.out, H5.out⟩
end Go.Proofs.Ytfiinceogenlmaa
