/- Frame and Unframe, the program's and the reference's: contracts. -/
import Derived.Test.YtboldddmknpchaaWSum
import Derived.Test.YtboldddmknpchaaWText
namespace Go.Proofs.Ytboldddmknpchaa
open Go.RowKit
/-- The frame of bytes. -/
def frameB (l : List UInt8) : List UInt8 := le4 l.length ++ le4 (crc (le4 l.length ++ l)) ++ l
theorem le4_len (x : Nat) : (le4 x).length = 4 := rfl
theorem allB3 (A B C : Option Addr) (a b c : Nat) (x y z : List UInt8) : allB [(A, a, x), (B, b, y), (C, c, z)] = x ++ (y ++ z) := by simp [allB]
set_option maxRecDepth 100000 in
theorem frame_any (A : Option Addr) (c : Nat) (l : List UInt8) (w : World) (hp : Rd w A l) (hl : l.length ≤ 4194304) :
    Calls Try.prog 9 #[.slice A l.length c] w (TupB w.heap.size w (frameB l) 0) := by
  have HP := Lib.hid hp
  clear hp
  obtain ⟨L, hL⟩ : ∃ L, frameB l = L := ⟨_, rfl⟩
  rw [hL]
  have HL := Lib.hid hL
  clear hL
  have ew : IntKind.u32.wrap (l.length : Int) = (l.length : Int) := by rw [IntKind.wrap_u32]; omega
  go_enter Try.func9, Try.ntmps9
  go_wp2_with fail
  refine (four_any l.length _).mono ?_
  intro e w1 hf
  obtain ⟨A1, c1, m, rfl, HM, _, HR, HO, HB⟩ := hf.named
  clear hf
  have hm : m.length = 4 := by rw [HM.out]; rfl
  have HM4 := Lib.hid hm
  have HQ := Lib.hid (RdP.new (W := w1) (H := w1.heap.size) rfl [(A1, c1, m), (A, c, l)] (fun p hp => by
      simp only [List.mem_cons, List.not_mem_nil, or_false] at hp
      rcases hp with rfl | rfl
      · exact HR.out
      · exact HP.out.below HB.out))
  have HB2 := Lib.hid (below_alloc HB.out (.cells #[.slice A1 m.length c1, .slice A l.length c] 22))
  have CS := sum_any (some ⟨w1.heap.size, 0, none⟩) 2 [(A1, c1, m), (A, c, l)] _ HQ.out (by simp) (by simp [hm]; omega)
  rw [show allB [(A1, c1, m), (A, c, l)] = m ++ l by simp [allB]] at CS
  have CS := Lib.hid CS
  clear hm
  go_wp2_with fail
  refine CS.out.mono ?_
  rintro e w2 ⟨rfl, hb⟩
  have HB3 := Lib.hid (HB2.out.trans (hb.mono HB2.out.size))
  have HR3 := Lib.hid ((HR.out.below (below_alloc (Below.refl _ _) _)).below hb)
  have HP3 := Lib.hid (HP.out.below HB3.out)
  clear hb CS
  go_wp2_with fail
  refine (four_any _ _).mono ?_
  intro e w3 hf
  obtain ⟨A2, c2, m2, rfl, HM2, _, HR2, HO2, HB4⟩ := hf.named
  clear hf
  have hm2 : m2.length = 4 := by rw [HM2.out]; rfl
  have HQ2 := Lib.hid (RdP.new (W := w3) (H := w3.heap.size) rfl [(A1, c1, m), (A2, c2, m2), (A, c, l)] (fun p hp => by
      simp only [List.mem_cons, List.not_mem_nil, or_false] at hp
      rcases hp with rfl | rfl | rfl
      · exact HR3.out.below HB4.out
      · exact HR2.out
      · exact HP3.out.below HB4.out))
  have HB5 := Lib.hid (below_alloc (HB3.out.trans (HB4.out.mono HB3.out.size)) (.cells #[.slice A1 m.length c1, .slice A2 m2.length c2, .slice A l.length c] 22))
  have CP := put_any_ (none, 0, []) (some ⟨w3.heap.size, 0, none⟩) 3 [(A1, c1, m), (A2, c2, m2), (A, c, l)] _ Rd.nil_ HQ2.out (by
    have := HM4.out
    simp [allB]; omega) (by simp)
  rw [show allB [(none, 0, []), (A1, c1, m), (A2, c2, m2), (A, c, l)] = L by rw [← HL.out]; unfold frameB; rw [HM2.out, HM.out]; simp [allB]] at CP
  have CP := Lib.hid CP
  clear hm2
  go_wp2_with fail
  refine CP.out.mono ?_
  intro e w4 hf
  obtain ⟨v, rfl, h1, h2⟩ := hf.lift HB5.out
  have H1 := Lib.hid h1
  have H2 := Lib.hid h2
  clear h1 h2 hf CP
  go_wp2_with fail
  go_ret2
  exact ⟨_, rfl, H1.out, H2.out⟩
set_option maxRecDepth 100000 in
theorem rframe_any (A : Option Addr) (c : Nat) (l : List UInt8) (w : World) (hp : Rd w A l) (hl : l.length ≤ 4194304) :
    Calls Try.prog 10 #[.slice A l.length c] w (TupB w.heap.size w (frameB l) 0) := by
  have HP := Lib.hid hp
  clear hp
  obtain ⟨L, hL⟩ : ∃ L, frameB l = L := ⟨_, rfl⟩
  rw [hL]
  have HL := Lib.hid hL
  clear hL
  have ew : IntKind.u32.wrap (l.length : Int) = (l.length : Int) := by rw [IntKind.wrap_u32]; omega
  have CF := Lib.hid (rfour_any w.heap.size (.slice none 0 0) [] l.length w OwnB.nil_ (Nat.le_refl _) (by simp))
  go_enter Try.func10, Try.ntmps10
  go_wp2_with fail
  refine CF.out.mono ?_
  intro e w1 hf
  obtain ⟨A1, c1, m, rfl, HM, HR, HO, HB⟩ := hf.named
  clear hf CF
  have hm : m.length = 4 := by rw [HM.out]; rfl
  have HM4 := Lib.hid hm
  have HQ := Lib.hid (RdP.new (W := w1) (H := w1.heap.size) rfl [(A1, c1, m), (A, c, l)] (fun p hp => by
      simp only [List.mem_cons, List.not_mem_nil, or_false] at hp
      rcases hp with rfl | rfl
      · exact HR.out
      · exact HP.out.below HB.out))
  have HB2 := Lib.hid (below_alloc HB.out (.cells #[.slice A1 m.length c1, .slice A l.length c] 22))
  have CS := rsum_any (some ⟨w1.heap.size, 0, none⟩) 2 [(A1, c1, m), (A, c, l)] _ HQ.out (by simp) (by simp [hm]; omega)
  rw [show allB [(A1, c1, m), (A, c, l)] = m ++ l by simp [allB]] at CS
  have CS := Lib.hid CS
  clear hm
  go_wp2_with fail
  refine CS.out.mono ?_
  rintro e w2 ⟨rfl, hb⟩
  have HB3 := Lib.hid (HB2.out.trans (hb.mono HB2.out.size))
  have HO3 := Lib.hid ((HO.out.below (below_alloc (Below.refl _ _) _)).below hb)
  have CF := Lib.hid (rfour_any w.heap.size (.slice A1 m.length c1) m (crc (m ++ l)) w2 HO3.out HB3.out.size (by have := HM4.out; omega))
  clear hb CS
  go_wp2_with fail
  refine CF.out.mono ?_
  rintro e w3 ⟨v3, rfl, ho3, hb3⟩
  have HO4 := Lib.hid ho3
  have HB4 := Lib.hid (HB3.out.trans hb3)
  have HP4 := Lib.hid (HP.out.below HB4.out)
  have h4 := HM4.out
  clear ho3 hb3 CF
  go_wp2_with (at_builtin; go_loud (refine wpL_ap rfl (.tmp 17) (.tmp 18) rfl w.heap.size _ (m ++ le4 (crc (m ++ l))) rfl HO4.out A _ c l rfl rfl HP4.out ?o3 HB4.out.size ?o5))
  case o3 => simp [le4_len]; omega
  case o5 =>
    intro v5 w5 ho5 hg _
    have HB5 := Lib.hid (made_below HB4.out HO4.out HB4.out.size hg)
    have HO5 : Hid (OwnB w5 w.heap.size v5 L) := by
      have e : L = m ++ le4 (crc (m ++ l)) ++ l := by rw [← HL.out, HM.out]; rfl
      rw [e]
      first | exact ho5 | (rw [List.append_assoc]; exact ho5)
    clear ho5 hg
    go_wp2_with fail
    go_ret2
    exact ⟨_, rfl, HO5.out, HB5.out⟩
theorem Rd.drop_ {w : World} {ad : Addr} {l : List UInt8} (h : Rd w (some ad) l) (k : Nat) (hk : 0 < k) : Rd w (some ⟨ad.block, ad.off + k, none⟩) (l.drop k) := by
  refine ⟨by simp, fun hn => ?_⟩
  simp only [List.length_drop] at hn
  obtain ⟨ad', e, hb, hc⟩ := h.2 (by omega)
  cases e
  refine ⟨_, rfl, hb, fun j u hu => ?_⟩
  have := hc (k + j) u (by rw [← hu, List.map_drop, List.getElem?_drop])
  have e : (⟨ad.block, ad.off + k, none⟩ : Addr).add j = ad.add (k + j) := by
    rw [Addr.add_mid]; unfold Addr.add; rw [if_neg (by omega)]; simp
  rw [e]; exact this
theorem Rd.take_ {w : World} {A : Option Addr} {l : List UInt8} (h : Rd w A l) (k : Nat) : Rd w A (l.take k) := by
  refine ⟨by simp, fun hn => ?_⟩
  simp only [List.length_take] at hn
  obtain ⟨ad, e, hb, hc⟩ := h.2 (by omega)
  refine ⟨ad, e, hb, fun j u hu => hc j u ?_⟩
  rw [List.map_take, List.getElem?_take] at hu
  split at hu
  · exact hu
  · cases hu
/-- A literal row of slices, as it is spelled. -/
theorem RdP.lit {W : World} {cs : Array Value} (ps : List Pc) (hc : cs = (ps.map slV).toArray) (h : ∀ p ∈ ps, Rd W p.1 p.2.2) : RdP (W.alloc (.cells cs 22)) (some ⟨W.heap.size, 0, none⟩) ps := by
  subst hc; exact RdP.new rfl ps h
/-- What Unframe answers: bytes, how many, errno. -/
def unfB (l : List UInt8) : List UInt8 × Int × Int :=
  if l.length < 4 then ([], 0, 5)
  else if 4194304 < told4 l then ([], 0, 4)
  else if l.length < 8 + told4 l then ([], 0, 5)
  else if told4 (l.drop 4) = crc (l.take 4 ++ (l.drop 8).take (told4 l)) then ((l.drop 8).take (told4 l), 8 + told4 l, 0)
  else ([], 0, 4)
def TriB (base : Nat) (w : World) (l : List UInt8) (n r : Int) (e : Ending) (w' : World) : Prop := ∃ v, e = .returned (.tuple #[v, .int .i64 n, .int .i64 r]) ∧ OwnB w' base v l ∧ Below base w w'
theorem TriB.named {base : Nat} {w : World} {L : List UInt8} {n r : Int} {e : Ending} {w' : World} (h : TriB base w L n r e w') : ∃ A c m, e = .returned (.tuple #[.slice A (List.length m) c, .int .i64 n, .int .i64 r]) ∧ Hid (m = L) ∧ Hid (Rd w' A m) ∧ Hid (OwnB w' base (.slice A m.length c) m) ∧ Hid (Below base w w') := by
  obtain ⟨v, rfl, ho, hb⟩ := h
  obtain ⟨A, c, rfl, h1, h2, h3⟩ := ho.form
  exact ⟨A, c, L, rfl, rfl, h3, ho, hb⟩
set_option maxRecDepth 100000 in
set_option maxHeartbeats 1000000 in
theorem unframe_any (A : Option Addr) (c : Nat) (l : List UInt8) (w : World) (hp : Rd w A l) (hl : l.length ≤ 4194304) (hc : l.length ≤ c) (hcm : c ≤ maxLen) :
    Calls Try.prog 11 #[.slice A l.length c] w (TriB w.heap.size w (unfB l).1 (unfB l).2.1 (unfB l).2.2) := by
  unfold maxLen at hcm
  by_cases h1 : l.length < 4
  · have e : unfB l = ([], 0, 5) := by unfold unfB; rw [if_pos h1]
    rw [e]
    have e1 : (l.length : Int) < 4 := by omega
    clear hp e h1
    go_enter Try.func11, Try.ntmps11
    go_wp2_with fail
    go_ret3
    exact ⟨_, rfl, OwnB.nil_, Below.refl _ _⟩
  have e1 : ¬ ((l.length : Int) < 4) := by omega
  have CT := Lib.hid (told_any A c l w hp (by omega) (by omega))
  have HP := Lib.hid hp
  have ht := told4_lt l
  by_cases h2 : 4194304 < told4 l
  · have e : unfB l = ([], 0, 4) := by unfold unfB; rw [if_neg h1, if_pos h2]
    rw [e]
    have e2 : (4194304 : Int) < (told4 l : Int) := by omega
    clear hp e h1 h2
    go_enter Try.func11, Try.ntmps11
    go_wp2_with fail
    refine CT.out.mono ?_
    rintro e w1 ⟨rfl, hb⟩
    have HB := Lib.hid hb
    clear hb
    go_wp2_with fail
    go_ret3
    exact ⟨_, rfl, OwnB.nil_, HB.out⟩
  have e2 : ¬ ((4194304 : Int) < (told4 l : Int)) := by omega
  by_cases h3 : l.length < 8 + told4 l
  · have e : unfB l = ([], 0, 5) := by unfold unfB; rw [if_neg h1, if_neg h2, if_pos h3]
    rw [e]
    have e3 : (l.length : Int) < 8 + (told4 l : Int) := by omega
    clear hp e h1 h2 h3
    go_enter Try.func11, Try.ntmps11
    go_wp2_with fail
    refine CT.out.mono ?_
    rintro e w1 ⟨rfl, hb⟩
    have HB := Lib.hid hb
    clear hb
    go_wp2_with fail
    go_ret3
    exact ⟨_, rfl, OwnB.nil_, HB.out⟩
  have e3 : ¬ ((l.length : Int) < 8 + (told4 l : Int)) := by omega
  obtain ⟨ad, rfl⟩ : ∃ ad, A = some ad := by
    obtain ⟨ad, e, _⟩ := hp.at_ (k := 0) (by omega)
    exact ⟨ad, e⟩
  obtain ⟨n, hn⟩ : ∃ n, told4 l = n := ⟨_, rfl⟩
  have HN := Lib.hid hn
  have HU : Hid (unfB l = if told4 (l.drop 4) = crc (l.take 4 ++ (l.drop 8).take n) then ((l.drop 8).take n, 8 + (n : Int), 0) else ([], 0, 4)) := Lib.hid (by unfold unfB; rw [if_neg h1, if_neg h2, if_neg h3, hn])
  rw [hn] at CT e2 e3 h2 h3
  clear hp ht hn
  have i1 : (4 : Int) ≤ (l.length : Int) := by omega
  have i2 : (8 : Int) + (n : Int) ≤ (l.length : Int) := by omega
  have i3 : (8 : Int) + (n : Int) ≤ (c : Int) := by omega
  have n1 : 4 ≤ l.length := by omega
  have n2 : 8 + n ≤ l.length := by omega
  have n3 : 8 + n ≤ c := by omega
  have n4 : ¬ c = 4 := by omega
  have n5 : ¬ c = 0 := by omega
  have n6 : 4 ≤ c := by omega
  have i6 : (4 : Int) ≤ (c : Int) := by omega
  have n7 : 8 ≤ l.length := by omega
  have n8 : 8 ≤ c := by omega
  have ew : wrap64 (n : Int) = (n : Int) := by unfold wrap64; omega
  have ew2 : wrap64 (8 + (n : Int)) = 8 + (n : Int) := by unfold wrap64; omega
  clear h1 h2 h3 e1
  by_cases c8 : c = 8
  · subst c8
    have hz : (l.drop 8).take n = [] := by
      rw [show n = 0 by omega]; rfl
    have HZ : Hid (∀ W, Rd W (some ad) l → Rd W (some ad) ((l.drop 8).take n)) := Lib.hid (fun W _ => by rw [hz]; exact Rd.nil_)
    clear hz
    go_enter Try.func11, Try.ntmps11
    go_wp2_with fail
    refine CT.out.mono ?_
    rintro e w1 ⟨rfl, hb⟩
    have HB := Lib.hid hb
    have HP1 := Lib.hid (HP.out.below hb)
    clear hb
    go_wp2_with fail
    obtain ⟨q, hq⟩ : ∃ q : Nat, (8 : Int) + (n : Int) = (q : Int) := ⟨8 + n, by omega⟩
    have q1 : 8 ≤ q := by omega
    have q2 : q ≤ l.length := by omega
    have q3 : q ≤ 8 := by omega
    have q4 : (8 : Int) ≤ (q : Int) := by omega
    have q5 : (q : Int) ≤ (8 : Int) := by omega
    rw [hq]
    have HQ := Lib.hid hq
    clear hq
    have CT4 : Hid (∀ W, Rd W (some ad) l → Calls Try.prog 32 #[.slice (some ⟨ad.block, ad.off + 4, none⟩) (l.length - 4) (4)] W fun e w' => e = .returned (.int .u32 (told4 (l.drop 4) : Nat)) ∧ Below W.heap.size W w') := Lib.hid (fun W h => by
      have := told_any (some ⟨ad.block, ad.off + 4, none⟩) (4) (l.drop 4) W (h.drop_ 4 (by omega)) (by simp; omega) (by simp; omega)
      rwa [List.length_drop] at this)
    obtain ⟨t4, ht4⟩ : ∃ t, told4 (l.drop 4) = t := ⟨_, rfl⟩
    have L4 : (l.take 4).length = 4 := by simp; omega
    have L8 : ((l.drop 8).take n).length = 0 := by have := HQ.out; simp; omega
    have HF : Hid (∀ W, Rd W (some ad) l → ∀ p ∈ [(some ad, 8, l.take 4), (some (ad), 0, (l.drop 8).take n)], Rd W p.1 p.2.2) := Lib.hid (fun W h p hp => by
      simp only [List.mem_cons, List.not_mem_nil, or_false] at hp
      rcases hp with rfl | rfl
      · exact h.take_ 4
      · exact (HZ.out _ h))
    have HV : Hid (#[Value.slice (some ad) 4 (8), Value.slice (some (ad)) (0) (0)] = ([(some ad, 8, l.take 4), (some (ad), 0, (l.drop 8).take n)].map slV).toArray) := Lib.hid (by simp only [List.map_cons, List.map_nil, slV, L4, L8])
    have HA : allB [(some ad, 8, l.take 4), (some (ad), 0, (l.drop 8).take n)] = l.take 4 ++ (l.drop 8).take n := by simp [allB]
    obtain ⟨sm, hsm⟩ : ∃ s, crc (l.take 4 ++ (l.drop 8).take n) = s := ⟨_, rfl⟩
    have HS : Hid (∀ W (H : Nat), RdP W (some ⟨H, 0, none⟩) [(some ad, 8, l.take 4), (some (ad), 0, (l.drop 8).take n)] → Calls Try.prog 19 #[.slice (some ⟨H, 0, none⟩) 2 2] W fun e w' => e = .returned (.int .u32 (sm : Nat)) ∧ Below W.heap.size W w') := Lib.hid (fun W H h => by
      have := sum_any (some ⟨H, 0, none⟩) 2 _ W h (by simp) (fun p hp => by
        simp only [List.mem_cons, List.not_mem_nil, or_false] at hp
        rcases hp with rfl | rfl
        · dsimp only; omega
        · dsimp only; omega)
      rw [HA, hsm] at this
      exact this)
    rw [ht4] at CT4 HU
    rw [hsm] at HU
    clear ht4 hsm HA L4 L8
    refine wp_region_here 11 [(0, false), (1, false), (3, false), (4, false), (5, false), (6, false), (7, false), (2, false), (8, true), (9, false), (10, false)] (fun _ => .cells #[] 0) (by kernel_rfl) (by kernel_rfl) ?_
    repeat (first | (refine wpP_q rfl rfl rfl ?_; apply Exists.intro; refine ⟨fun w' hw' => ?_, fun K hK => ?_⟩; (focus ((skip); go_simp; first | exact quiet_value | with_reducible exact quiet_enter (CT4.out _ (HP1.out.below hw')))); simp only [Act.put, List.setIfInBounds_toArray, List.set_cons_zero, List.set_cons_succ]; refine hK.out _ ?_; clear hK K) | (refine wpP_skip rfl rfl rfl (fun K hK => ?_); simp only [Act.put, List.setIfInBounds_toArray, List.set_cons_zero, List.set_cons_succ]; refine hK.out _ ?_; clear hK K))
    refine wpP_loose (fun v _ W => ∃ H, v = .slice (some ⟨H, 0, none⟩) 2 2 ∧ RdP W (some ⟨H, 0, none⟩) [(some ad, 8, l.take 4), (some (ad), 0, (l.drop 8).take n)]) (fun v _ W W' h hb => by obtain ⟨H, h1, h2⟩ := h; exact ⟨H, h1, h2.below hb⟩) rfl rfl rfl (fun w' hw' => ?_) (fun K hK v bs hbs => ?_)
    focus
      go_simp
      exact ⟨(Below.refl _ _).alloc (Nat.le_refl _) _, [], by simp, _, rfl, RdP.lit _ HV.out (HF.out _ (HP1.out.below hw'))⟩
    simp only [Act.put, List.setIfInBounds_toArray, List.set_cons_zero, List.set_cons_succ]
    refine hK.out _ _ _ ?_
    clear hK K
    repeat (first | (refine wpP_q rfl rfl rfl ?_; apply Exists.intro; refine ⟨fun w' hw' => ?_, fun K hK => ?_⟩; (focus ((obtain ⟨hw1, H, hv, hR⟩ := hw'); go_simp; first | exact quiet_value | with_reducible exact quiet_enter (HS.out _ _ hR))); simp only [Act.put, List.setIfInBounds_toArray, List.set_cons_zero, List.set_cons_succ]; refine hK.out _ ?_; clear hK K) | (refine wpP_skip rfl rfl rfl (fun K hK => ?_); simp only [Act.put, List.setIfInBounds_toArray, List.set_cons_zero, List.set_cons_succ]; refine hK.out _ ?_; clear hK K))
    refine wpP_nil ?_
    rintro w2 ⟨HB2, _⟩
    have HP2 := Lib.hid (HP1.out.below HB2)
    have HB3 := Lib.hid (HB.out.trans (HB2.mono HB.out.size))
    clear HB2 HS HV HF CT4
    simp only [List.drop_succ_cons, List.drop_nil]
    by_cases hts : t4 = sm
    · have he : ((t4 : Int) != (sm : Int)) = false := by simp; omega
      have hu := HU.out
      rw [if_pos hts] at hu
      have CC : Hid (∀ W, Rd W (some ad) l → Calls Try.prog 33 #[.slice (some (ad)) (0) (0)] W (FreshB W ((l.drop 8).take n))) := Lib.hid (fun W h => by
        have L8 : ((l.drop 8).take n).length = 0 := by have := HQ.out; simp; omega
        have := clone_any (some (ad)) (0) ((l.drop 8).take n) W ((HZ.out _ h)) (by omega)
        rwa [L8] at this)
      have HU2 := Lib.hid hu
      clear hu hts HU
      go_wp2_with fail
      refine (CC.out _ HP2.out).mono ?_
      rintro e w3 ⟨v3, rfl, h1, h2⟩
      have H1 := Lib.hid (h1.lower HB3.out.size)
      have H2 := Lib.hid (HB3.out.trans (h2.mono HB3.out.size))
      clear h1 h2
      go_wp2_with fail
      go_ret3
      refine ⟨v3, ?_, ?_, H2.out⟩
      · rw [HU2.out, HQ.out]; rfl
      · rw [HU2.out]; exact H1.out
    · have he : ((t4 : Int) != (sm : Int)) = true := by simp; omega
      have hu := HU.out
      rw [if_neg hts] at hu
      have HU2 := Lib.hid hu
      clear hu hts HU
      go_wp2_with fail
      go_ret3
      refine ⟨.slice none 0 0, ?_, ?_, HB3.out⟩
      · rw [HU2.out]; rfl
      · rw [HU2.out]; exact OwnB.nil_
  · have HZ : Hid (∀ W, Rd W (some ad) l → Rd W (some ⟨ad.block, ad.off + 8, none⟩) ((l.drop 8).take n)) := Lib.hid (fun W h => (h.drop_ 8 (by omega)).take_ n)
    go_enter Try.func11, Try.ntmps11
    go_wp2_with fail
    refine CT.out.mono ?_
    rintro e w1 ⟨rfl, hb⟩
    have HB := Lib.hid hb
    have HP1 := Lib.hid (HP.out.below hb)
    clear hb
    go_wp2_with fail
    obtain ⟨q, hq⟩ : ∃ q : Nat, (8 : Int) + (n : Int) = (q : Int) := ⟨8 + n, by omega⟩
    have q1 : 8 ≤ q := by omega
    have q2 : q ≤ l.length := by omega
    have q3 : q ≤ c := by omega
    have q4 : (8 : Int) ≤ (q : Int) := by omega
    have q5 : (q : Int) ≤ (c : Int) := by omega
    rw [hq]
    have HQ := Lib.hid hq
    clear hq
    have CT4 : Hid (∀ W, Rd W (some ad) l → Calls Try.prog 32 #[.slice (some ⟨ad.block, ad.off + 4, none⟩) (l.length - 4) (c - 4)] W fun e w' => e = .returned (.int .u32 (told4 (l.drop 4) : Nat)) ∧ Below W.heap.size W w') := Lib.hid (fun W h => by
      have := told_any (some ⟨ad.block, ad.off + 4, none⟩) (c - 4) (l.drop 4) W (h.drop_ 4 (by omega)) (by simp; omega) (by simp; omega)
      rwa [List.length_drop] at this)
    obtain ⟨t4, ht4⟩ : ∃ t, told4 (l.drop 4) = t := ⟨_, rfl⟩
    have L4 : (l.take 4).length = 4 := by simp; omega
    have L8 : ((l.drop 8).take n).length = q - 8 := by have := HQ.out; simp; omega
    have HF : Hid (∀ W, Rd W (some ad) l → ∀ p ∈ [(some ad, c, l.take 4), (some (⟨ad.block, ad.off + 8, none⟩), c - 8, (l.drop 8).take n)], Rd W p.1 p.2.2) := Lib.hid (fun W h p hp => by
      simp only [List.mem_cons, List.not_mem_nil, or_false] at hp
      rcases hp with rfl | rfl
      · exact h.take_ 4
      · exact (HZ.out _ h))
    have HV : Hid (#[Value.slice (some ad) 4 (c), Value.slice (some (⟨ad.block, ad.off + 8, none⟩)) (q - 8) (c - 8)] = ([(some ad, c, l.take 4), (some (⟨ad.block, ad.off + 8, none⟩), c - 8, (l.drop 8).take n)].map slV).toArray) := Lib.hid (by simp only [List.map_cons, List.map_nil, slV, L4, L8])
    have HA : allB [(some ad, c, l.take 4), (some (⟨ad.block, ad.off + 8, none⟩), c - 8, (l.drop 8).take n)] = l.take 4 ++ (l.drop 8).take n := by simp [allB]
    obtain ⟨sm, hsm⟩ : ∃ s, crc (l.take 4 ++ (l.drop 8).take n) = s := ⟨_, rfl⟩
    have HS : Hid (∀ W (H : Nat), RdP W (some ⟨H, 0, none⟩) [(some ad, c, l.take 4), (some (⟨ad.block, ad.off + 8, none⟩), c - 8, (l.drop 8).take n)] → Calls Try.prog 19 #[.slice (some ⟨H, 0, none⟩) 2 2] W fun e w' => e = .returned (.int .u32 (sm : Nat)) ∧ Below W.heap.size W w') := Lib.hid (fun W H h => by
      have := sum_any (some ⟨H, 0, none⟩) 2 _ W h (by simp) (fun p hp => by
        simp only [List.mem_cons, List.not_mem_nil, or_false] at hp
        rcases hp with rfl | rfl
        · dsimp only; omega
        · dsimp only; omega)
      rw [HA, hsm] at this
      exact this)
    rw [ht4] at CT4 HU
    rw [hsm] at HU
    clear ht4 hsm HA L4 L8
    refine wp_region_here 11 [(0, false), (1, false), (3, false), (4, false), (5, false), (6, false), (7, false), (2, false), (8, true), (9, false), (10, false)] (fun _ => .cells #[] 0) (by kernel_rfl) (by kernel_rfl) ?_
    repeat (first | (refine wpP_q rfl rfl rfl ?_; apply Exists.intro; refine ⟨fun w' hw' => ?_, fun K hK => ?_⟩; (focus ((skip); go_simp; first | exact quiet_value | with_reducible exact quiet_enter (CT4.out _ (HP1.out.below hw')))); simp only [Act.put, List.setIfInBounds_toArray, List.set_cons_zero, List.set_cons_succ]; refine hK.out _ ?_; clear hK K) | (refine wpP_skip rfl rfl rfl (fun K hK => ?_); simp only [Act.put, List.setIfInBounds_toArray, List.set_cons_zero, List.set_cons_succ]; refine hK.out _ ?_; clear hK K))
    refine wpP_loose (fun v _ W => ∃ H, v = .slice (some ⟨H, 0, none⟩) 2 2 ∧ RdP W (some ⟨H, 0, none⟩) [(some ad, c, l.take 4), (some (⟨ad.block, ad.off + 8, none⟩), c - 8, (l.drop 8).take n)]) (fun v _ W W' h hb => by obtain ⟨H, h1, h2⟩ := h; exact ⟨H, h1, h2.below hb⟩) rfl rfl rfl (fun w' hw' => ?_) (fun K hK v bs hbs => ?_)
    focus
      go_simp
      exact ⟨(Below.refl _ _).alloc (Nat.le_refl _) _, [], by simp, _, rfl, RdP.lit _ HV.out (HF.out _ (HP1.out.below hw'))⟩
    simp only [Act.put, List.setIfInBounds_toArray, List.set_cons_zero, List.set_cons_succ]
    refine hK.out _ _ _ ?_
    clear hK K
    repeat (first | (refine wpP_q rfl rfl rfl ?_; apply Exists.intro; refine ⟨fun w' hw' => ?_, fun K hK => ?_⟩; (focus ((obtain ⟨hw1, H, hv, hR⟩ := hw'); go_simp; first | exact quiet_value | with_reducible exact quiet_enter (HS.out _ _ hR))); simp only [Act.put, List.setIfInBounds_toArray, List.set_cons_zero, List.set_cons_succ]; refine hK.out _ ?_; clear hK K) | (refine wpP_skip rfl rfl rfl (fun K hK => ?_); simp only [Act.put, List.setIfInBounds_toArray, List.set_cons_zero, List.set_cons_succ]; refine hK.out _ ?_; clear hK K))
    refine wpP_nil ?_
    rintro w2 ⟨HB2, _⟩
    have HP2 := Lib.hid (HP1.out.below HB2)
    have HB3 := Lib.hid (HB.out.trans (HB2.mono HB.out.size))
    clear HB2 HS HV HF CT4
    simp only [List.drop_succ_cons, List.drop_nil]
    by_cases hts : t4 = sm
    · have he : ((t4 : Int) != (sm : Int)) = false := by simp; omega
      have hu := HU.out
      rw [if_pos hts] at hu
      have CC : Hid (∀ W, Rd W (some ad) l → Calls Try.prog 33 #[.slice (some (⟨ad.block, ad.off + 8, none⟩)) (q - 8) (c - 8)] W (FreshB W ((l.drop 8).take n))) := Lib.hid (fun W h => by
        have L8 : ((l.drop 8).take n).length = q - 8 := by have := HQ.out; simp; omega
        have := clone_any (some (⟨ad.block, ad.off + 8, none⟩)) (c - 8) ((l.drop 8).take n) W ((HZ.out _ h)) (by omega)
        rwa [L8] at this)
      have HU2 := Lib.hid hu
      clear hu hts HU
      go_wp2_with fail
      refine (CC.out _ HP2.out).mono ?_
      rintro e w3 ⟨v3, rfl, h1, h2⟩
      have H1 := Lib.hid (h1.lower HB3.out.size)
      have H2 := Lib.hid (HB3.out.trans (h2.mono HB3.out.size))
      clear h1 h2
      go_wp2_with fail
      go_ret3
      refine ⟨v3, ?_, ?_, H2.out⟩
      · rw [HU2.out, HQ.out]; rfl
      · rw [HU2.out]; exact H1.out
    · have he : ((t4 : Int) != (sm : Int)) = true := by simp; omega
      have hu := HU.out
      rw [if_neg hts] at hu
      have HU2 := Lib.hid hu
      clear hu hts HU
      go_wp2_with fail
      go_ret3
      refine ⟨.slice none 0 0, ?_, ?_, HB3.out⟩
      · rw [HU2.out]; rfl
      · rw [HU2.out]; exact OwnB.nil_
set_option maxRecDepth 100000 in
set_option maxHeartbeats 1000000 in
theorem runframe_any (A : Option Addr) (c : Nat) (l : List UInt8) (w : World) (hp : Rd w A l) (hl : l.length ≤ 4194304) (hc : l.length ≤ c) (hcm : c ≤ maxLen) :
    Calls Try.prog 12 #[.slice A l.length c] w (TriB w.heap.size w (unfB l).1 (unfB l).2.1 (unfB l).2.2) := by
  unfold maxLen at hcm
  have HB := Lib.hid (Below.refl w.heap.size w)
  by_cases h1 : l.length < 4
  · have e : unfB l = ([], 0, 5) := by unfold unfB; rw [if_pos h1]
    rw [e]
    have e1 : decide ((4 : Int) ≤ (l.length : Int)) = false := by simp; omega
    have e2 : (l.length : Int) < 8 := by omega
    clear hp e h1
    go_enter Try.func12, Try.ntmps12
    go_wp2_with fail
    go_ret3
    exact ⟨_, rfl, OwnB.nil_, HB.out⟩
  have e1 : decide ((4 : Int) ≤ (l.length : Int)) = true := by simp; omega
  have CT := Lib.hid (fun W (h : Rd W A l) => rtold_any A c l W h (by omega) (by omega))
  have HP := Lib.hid hp
  have ht := told4_lt l
  by_cases h2 : 4194304 < told4 l
  · have e : unfB l = ([], 0, 4) := by unfold unfB; rw [if_neg h1, if_pos h2]
    rw [e]
    have e2 : (4194304 : Int) < (told4 l : Int) := by omega
    clear hp e h1 h2
    go_enter Try.func12, Try.ntmps12
    go_wp2_with fail; refine (CT.out _ HP.out).mono ?_; rintro e w1 ⟨rfl, hb⟩; replace HB := Lib.hid (HB.out.trans (hb.mono HB.out.size)); replace HP := Lib.hid (HP.out.below hb); clear hb
    go_wp2_with fail
    go_ret3
    exact ⟨_, rfl, OwnB.nil_, HB.out⟩
  have e2 : ¬ ((4194304 : Int) < (told4 l : Int)) := by omega
  by_cases h3 : l.length < 8 + told4 l
  · have e : unfB l = ([], 0, 5) := by unfold unfB; rw [if_neg h1, if_neg h2, if_pos h3]
    rw [e]
    clear hp e h1
    by_cases h8 : l.length < 8
    · have e3 : (l.length : Int) < 8 := by omega
      clear h2 h3 h8
      go_enter Try.func12, Try.ntmps12
      go_wp2_with fail; refine (CT.out _ HP.out).mono ?_; rintro e w1 ⟨rfl, hb⟩; replace HB := Lib.hid (HB.out.trans (hb.mono HB.out.size)); replace HP := Lib.hid (HP.out.below hb); clear hb
      go_wp2_with fail
      go_ret3
      exact ⟨_, rfl, OwnB.nil_, HB.out⟩
    · have e3 : ¬ (l.length : Int) < 8 := by omega
      have e4 : IntKind.u64.wrap ((l.length : Int) - 8) = (l.length : Int) - 8 := by rw [IntKind.wrap_u64]; omega
      have e5 : IntKind.u64.wrap (told4 l : Int) = (told4 l : Int) := by rw [IntKind.wrap_u64]; omega
      have e6 : (l.length : Int) - 8 < (told4 l : Int) := by omega
      clear h2 h3 h8
      go_enter Try.func12, Try.ntmps12
      go_wp2_with fail; refine (CT.out _ HP.out).mono ?_; rintro e w1 ⟨rfl, hb⟩; replace HB := Lib.hid (HB.out.trans (hb.mono HB.out.size)); replace HP := Lib.hid (HP.out.below hb); clear hb
      go_wp2_with fail; refine (CT.out _ HP.out).mono ?_; rintro e w1 ⟨rfl, hb⟩; replace HB := Lib.hid (HB.out.trans (hb.mono HB.out.size)); replace HP := Lib.hid (HP.out.below hb); clear hb
      go_wp2_with fail
      go_ret3
      exact ⟨_, rfl, OwnB.nil_, HB.out⟩
  have f1 : ¬ (l.length : Int) < 8 := by omega
  have f2 : ¬ ((l.length : Int) - 8 < (told4 l : Int)) := by omega
  obtain ⟨ad, rfl⟩ : ∃ ad, A = some ad := by
    obtain ⟨ad, e, _⟩ := hp.at_ (k := 0) (by omega)
    exact ⟨ad, e⟩
  obtain ⟨n, hn⟩ : ∃ n, told4 l = n := ⟨_, rfl⟩
  have HN := Lib.hid hn
  have HU : Hid (unfB l = if told4 (l.drop 4) = crc (l.take 4 ++ (l.drop 8).take n) then ((l.drop 8).take n, 8 + (n : Int), 0) else ([], 0, 4)) := Lib.hid (by unfold unfB; rw [if_neg h1, if_neg h2, if_neg h3, hn])
  rw [hn] at CT e2 h2 h3 f2
  clear hp ht hn
  have i1 : (4 : Int) ≤ (l.length : Int) := by omega
  have i2 : (8 : Int) + (n : Int) ≤ (l.length : Int) := by omega
  have n1 : 4 ≤ l.length := by omega
  have n2 : 8 + n ≤ l.length := by omega
  have n3 : 8 + n ≤ c := by omega
  have n4 : ¬ c = 4 := by omega
  have n5 : ¬ c = 0 := by omega
  have n6 : 4 ≤ c := by omega
  have i6 : (4 : Int) ≤ (c : Int) := by omega
  have n7 : 8 ≤ l.length := by omega
  have n8 : 8 ≤ c := by omega
  have ew : wrap64 (n : Int) = (n : Int) := by unfold wrap64; omega
  have ew3 : IntKind.u64.wrap ((l.length : Int) - 8) = (l.length : Int) - 8 := by rw [IntKind.wrap_u64]; omega
  have ew4 : IntKind.u64.wrap (n : Int) = (n : Int) := by rw [IntKind.wrap_u64]; omega
  clear h1 h2 h3
  by_cases c8 : c = 8
  · subst c8
    have hz : (l.drop 8).take n = [] := by
      rw [show n = 0 by omega]; rfl
    have HZ : Hid (∀ W, Rd W (some ad) l → Rd W (some ad) ((l.drop 8).take n)) := Lib.hid (fun W _ => by rw [hz]; exact Rd.nil_)
    clear hz
    go_enter Try.func12, Try.ntmps12
    go_wp2_with fail; refine (CT.out _ HP.out).mono ?_; rintro e w1 ⟨rfl, hb⟩; replace HB := Lib.hid (HB.out.trans (hb.mono HB.out.size)); replace HP := Lib.hid (HP.out.below hb); clear hb
    go_wp2_with fail; refine (CT.out _ HP.out).mono ?_; rintro e w1 ⟨rfl, hb⟩; replace HB := Lib.hid (HB.out.trans (hb.mono HB.out.size)); replace HP := Lib.hid (HP.out.below hb); clear hb
    go_wp2_with fail; refine (CT.out _ HP.out).mono ?_; rintro e w1 ⟨rfl, hb⟩; replace HB := Lib.hid (HB.out.trans (hb.mono HB.out.size)); replace HP := Lib.hid (HP.out.below hb); clear hb
    have HP1 := Lib.hid HP.out
    go_wp2_with fail
    obtain ⟨q, hq⟩ : ∃ q : Nat, (n : Int) + 8 = (q : Int) := ⟨8 + n, by omega⟩
    have q1 : 8 ≤ q := by omega
    have q2 : q ≤ l.length := by omega
    have q3 : q ≤ 8 := by omega
    have q4 : (8 : Int) ≤ (q : Int) := by omega
    have q5 : (q : Int) ≤ (8 : Int) := by omega
    rw [hq]
    have HQ : Hid ((8 : Int) + (n : Int) = (q : Int)) := Lib.hid (by omega)
    clear hq
    have CT4 : Hid (∀ W, Rd W (some ad) l → Calls Try.prog 34 #[.slice (some ⟨ad.block, ad.off + 4, none⟩) (l.length - 4) (4)] W fun e w' => e = .returned (.int .u32 (told4 (l.drop 4) : Nat)) ∧ Below W.heap.size W w') := Lib.hid (fun W h => by
      have := rtold_any (some ⟨ad.block, ad.off + 4, none⟩) (4) (l.drop 4) W (h.drop_ 4 (by omega)) (by simp; omega) (by simp; omega)
      rwa [List.length_drop] at this)
    obtain ⟨t4, ht4⟩ : ∃ t, told4 (l.drop 4) = t := ⟨_, rfl⟩
    have L4 : (l.take 4).length = 4 := by simp; omega
    have L8 : ((l.drop 8).take n).length = 0 := by have := HQ.out; simp; omega
    have HF : Hid (∀ W, Rd W (some ad) l → ∀ p ∈ [(some ad, 8, l.take 4), (some (ad), 0, (l.drop 8).take n)], Rd W p.1 p.2.2) := Lib.hid (fun W h p hp => by
      simp only [List.mem_cons, List.not_mem_nil, or_false] at hp
      rcases hp with rfl | rfl
      · exact h.take_ 4
      · exact (HZ.out _ h))
    have HV : Hid (#[Value.slice (some ad) 4 (8), Value.slice (some (ad)) (0) (0)] = ([(some ad, 8, l.take 4), (some (ad), 0, (l.drop 8).take n)].map slV).toArray) := Lib.hid (by simp only [List.map_cons, List.map_nil, slV, L4, L8])
    have HA : allB [(some ad, 8, l.take 4), (some (ad), 0, (l.drop 8).take n)] = l.take 4 ++ (l.drop 8).take n := by simp [allB]
    obtain ⟨sm, hsm⟩ : ∃ s, crc (l.take 4 ++ (l.drop 8).take n) = s := ⟨_, rfl⟩
    have HS : Hid (∀ W (H : Nat), RdP W (some ⟨H, 0, none⟩) [(some ad, 8, l.take 4), (some (ad), 0, (l.drop 8).take n)] → Calls Try.prog 20 #[.slice (some ⟨H, 0, none⟩) 2 2] W fun e w' => e = .returned (.int .u32 (sm : Nat)) ∧ Below W.heap.size W w') := Lib.hid (fun W H h => by
      have := rsum_any (some ⟨H, 0, none⟩) 2 _ W h (by simp) (fun p hp => by
        simp only [List.mem_cons, List.not_mem_nil, or_false] at hp
        rcases hp with rfl | rfl
        · dsimp only; omega
        · dsimp only; omega)
      rw [HA, hsm] at this
      exact this)
    rw [ht4] at CT4 HU
    rw [hsm] at HU
    clear ht4 hsm HA L4 L8
    refine wp_region_here 11 [(0, false), (1, false), (3, false), (4, false), (5, false), (6, false), (7, false), (2, false), (8, true), (9, false), (10, false)] (fun _ => .cells #[] 0) (by kernel_rfl) (by kernel_rfl) ?_
    repeat (first | (refine wpP_q rfl rfl rfl ?_; apply Exists.intro; refine ⟨fun w' hw' => ?_, fun K hK => ?_⟩; (focus ((skip); go_simp; first | exact quiet_value | with_reducible exact quiet_enter (CT4.out _ (HP1.out.below hw')))); simp only [Act.put, List.setIfInBounds_toArray, List.set_cons_zero, List.set_cons_succ]; refine hK.out _ ?_; clear hK K) | (refine wpP_skip rfl rfl rfl (fun K hK => ?_); simp only [Act.put, List.setIfInBounds_toArray, List.set_cons_zero, List.set_cons_succ]; refine hK.out _ ?_; clear hK K))
    refine wpP_loose (fun v _ W => ∃ H, v = .slice (some ⟨H, 0, none⟩) 2 2 ∧ RdP W (some ⟨H, 0, none⟩) [(some ad, 8, l.take 4), (some (ad), 0, (l.drop 8).take n)]) (fun v _ W W' h hb => by obtain ⟨H, h1, h2⟩ := h; exact ⟨H, h1, h2.below hb⟩) rfl rfl rfl (fun w' hw' => ?_) (fun K hK v bs hbs => ?_)
    focus
      go_simp
      exact ⟨(Below.refl _ _).alloc (Nat.le_refl _) _, [], by simp, _, rfl, RdP.lit _ HV.out (HF.out _ (HP1.out.below hw'))⟩
    simp only [Act.put, List.setIfInBounds_toArray, List.set_cons_zero, List.set_cons_succ]
    refine hK.out _ _ _ ?_
    clear hK K
    repeat (first | (refine wpP_q rfl rfl rfl ?_; apply Exists.intro; refine ⟨fun w' hw' => ?_, fun K hK => ?_⟩; (focus ((obtain ⟨hw1, H, hv, hR⟩ := hw'); go_simp; first | exact quiet_value | with_reducible exact quiet_enter (HS.out _ _ hR))); simp only [Act.put, List.setIfInBounds_toArray, List.set_cons_zero, List.set_cons_succ]; refine hK.out _ ?_; clear hK K) | (refine wpP_skip rfl rfl rfl (fun K hK => ?_); simp only [Act.put, List.setIfInBounds_toArray, List.set_cons_zero, List.set_cons_succ]; refine hK.out _ ?_; clear hK K))
    refine wpP_nil ?_
    rintro w2 ⟨HB2, _⟩
    have HP2 := Lib.hid (HP1.out.below HB2)
    have HB3 := Lib.hid (HB.out.trans (HB2.mono HB.out.size))
    clear HB2 HS HV HF CT4
    simp only [List.drop_succ_cons, List.drop_nil]
    by_cases hts : t4 = sm
    · have he : ((t4 : Int) != (sm : Int)) = false := by simp; omega
      have hu := HU.out
      rw [if_pos hts] at hu
      have HU2 := Lib.hid hu
      have L8 : 0 = ((l.drop 8).take n).length := by have := HQ.out; simp; omega
      have HO : Hid (OwnB (w2.alloc (.cells #[] 5)) w.heap.size (.slice (some ⟨w2.heap.size, 0, none⟩) 0 0) []) := Lib.hid (World.ownsRow_lit w2 #[] 0 HB3.out.size (by decide) rfl)
      have HBA := Lib.hid (below_alloc (Below.refl w2.heap.size w2) (.cells #[] 5))
      have HBB := Lib.hid (below_alloc HB3.out (.cells #[] 5))
      have HR := Lib.hid (HZ.out _ (HP2.out.below HBA.out))
      have HL8 := Lib.hid L8
      have HLEN : Hid (([] : List UInt8).length + ((l.drop 8).take n).length ≤ 1099511627776) := Lib.hid (by simp; omega)
      clear hu hts HU L8
      go_wp2_with (at_builtin; go_loud (refine wpL_ap rfl (.tmp 42) (.tmp 45) rfl w.heap.size _ [] rfl HO.out (some (ad)) (0) (0) ((l.drop 8).take n) rfl HL8.out HR.out HLEN.out HBB.out.size ?o5))
      case o5 =>
        intro v3 w3 ho3 hg _
        have H1 := Lib.hid ho3
        have H2 := Lib.hid (made_below HBB.out HO.out HBB.out.size hg)
        clear ho3 hg
        go_wp2_with fail
        go_ret3
        refine ⟨v3, ?_, ?_, H2.out⟩
        · rw [HU2.out, HQ.out]; rfl
        · rw [HU2.out]; exact H1.out
    · have he : ((t4 : Int) != (sm : Int)) = true := by simp; omega
      have hu := HU.out
      rw [if_neg hts] at hu
      have HU2 := Lib.hid hu
      clear hu hts HU
      go_wp2_with fail
      go_ret3
      refine ⟨.slice none 0 0, ?_, ?_, HB3.out⟩
      · rw [HU2.out]; rfl
      · rw [HU2.out]; exact OwnB.nil_
  · have HZ : Hid (∀ W, Rd W (some ad) l → Rd W (some ⟨ad.block, ad.off + 8, none⟩) ((l.drop 8).take n)) := Lib.hid (fun W h => (h.drop_ 8 (by omega)).take_ n)
    go_enter Try.func12, Try.ntmps12
    go_wp2_with fail; refine (CT.out _ HP.out).mono ?_; rintro e w1 ⟨rfl, hb⟩; replace HB := Lib.hid (HB.out.trans (hb.mono HB.out.size)); replace HP := Lib.hid (HP.out.below hb); clear hb
    go_wp2_with fail; refine (CT.out _ HP.out).mono ?_; rintro e w1 ⟨rfl, hb⟩; replace HB := Lib.hid (HB.out.trans (hb.mono HB.out.size)); replace HP := Lib.hid (HP.out.below hb); clear hb
    go_wp2_with fail; refine (CT.out _ HP.out).mono ?_; rintro e w1 ⟨rfl, hb⟩; replace HB := Lib.hid (HB.out.trans (hb.mono HB.out.size)); replace HP := Lib.hid (HP.out.below hb); clear hb
    have HP1 := Lib.hid HP.out
    go_wp2_with fail
    obtain ⟨q, hq⟩ : ∃ q : Nat, (n : Int) + 8 = (q : Int) := ⟨8 + n, by omega⟩
    have q1 : 8 ≤ q := by omega
    have q2 : q ≤ l.length := by omega
    have q3 : q ≤ c := by omega
    have q4 : (8 : Int) ≤ (q : Int) := by omega
    have q5 : (q : Int) ≤ (c : Int) := by omega
    rw [hq]
    have HQ : Hid ((8 : Int) + (n : Int) = (q : Int)) := Lib.hid (by omega)
    clear hq
    have CT4 : Hid (∀ W, Rd W (some ad) l → Calls Try.prog 34 #[.slice (some ⟨ad.block, ad.off + 4, none⟩) (l.length - 4) (c - 4)] W fun e w' => e = .returned (.int .u32 (told4 (l.drop 4) : Nat)) ∧ Below W.heap.size W w') := Lib.hid (fun W h => by
      have := rtold_any (some ⟨ad.block, ad.off + 4, none⟩) (c - 4) (l.drop 4) W (h.drop_ 4 (by omega)) (by simp; omega) (by simp; omega)
      rwa [List.length_drop] at this)
    obtain ⟨t4, ht4⟩ : ∃ t, told4 (l.drop 4) = t := ⟨_, rfl⟩
    have L4 : (l.take 4).length = 4 := by simp; omega
    have L8 : ((l.drop 8).take n).length = q - 8 := by have := HQ.out; simp; omega
    have HF : Hid (∀ W, Rd W (some ad) l → ∀ p ∈ [(some ad, c, l.take 4), (some (⟨ad.block, ad.off + 8, none⟩), c - 8, (l.drop 8).take n)], Rd W p.1 p.2.2) := Lib.hid (fun W h p hp => by
      simp only [List.mem_cons, List.not_mem_nil, or_false] at hp
      rcases hp with rfl | rfl
      · exact h.take_ 4
      · exact (HZ.out _ h))
    have HV : Hid (#[Value.slice (some ad) 4 (c), Value.slice (some (⟨ad.block, ad.off + 8, none⟩)) (q - 8) (c - 8)] = ([(some ad, c, l.take 4), (some (⟨ad.block, ad.off + 8, none⟩), c - 8, (l.drop 8).take n)].map slV).toArray) := Lib.hid (by simp only [List.map_cons, List.map_nil, slV, L4, L8])
    have HA : allB [(some ad, c, l.take 4), (some (⟨ad.block, ad.off + 8, none⟩), c - 8, (l.drop 8).take n)] = l.take 4 ++ (l.drop 8).take n := by simp [allB]
    obtain ⟨sm, hsm⟩ : ∃ s, crc (l.take 4 ++ (l.drop 8).take n) = s := ⟨_, rfl⟩
    have HS : Hid (∀ W (H : Nat), RdP W (some ⟨H, 0, none⟩) [(some ad, c, l.take 4), (some (⟨ad.block, ad.off + 8, none⟩), c - 8, (l.drop 8).take n)] → Calls Try.prog 20 #[.slice (some ⟨H, 0, none⟩) 2 2] W fun e w' => e = .returned (.int .u32 (sm : Nat)) ∧ Below W.heap.size W w') := Lib.hid (fun W H h => by
      have := rsum_any (some ⟨H, 0, none⟩) 2 _ W h (by simp) (fun p hp => by
        simp only [List.mem_cons, List.not_mem_nil, or_false] at hp
        rcases hp with rfl | rfl
        · dsimp only; omega
        · dsimp only; omega)
      rw [HA, hsm] at this
      exact this)
    rw [ht4] at CT4 HU
    rw [hsm] at HU
    clear ht4 hsm HA L4 L8
    refine wp_region_here 11 [(0, false), (1, false), (3, false), (4, false), (5, false), (6, false), (7, false), (2, false), (8, true), (9, false), (10, false)] (fun _ => .cells #[] 0) (by kernel_rfl) (by kernel_rfl) ?_
    repeat (first | (refine wpP_q rfl rfl rfl ?_; apply Exists.intro; refine ⟨fun w' hw' => ?_, fun K hK => ?_⟩; (focus ((skip); go_simp; first | exact quiet_value | with_reducible exact quiet_enter (CT4.out _ (HP1.out.below hw')))); simp only [Act.put, List.setIfInBounds_toArray, List.set_cons_zero, List.set_cons_succ]; refine hK.out _ ?_; clear hK K) | (refine wpP_skip rfl rfl rfl (fun K hK => ?_); simp only [Act.put, List.setIfInBounds_toArray, List.set_cons_zero, List.set_cons_succ]; refine hK.out _ ?_; clear hK K))
    refine wpP_loose (fun v _ W => ∃ H, v = .slice (some ⟨H, 0, none⟩) 2 2 ∧ RdP W (some ⟨H, 0, none⟩) [(some ad, c, l.take 4), (some (⟨ad.block, ad.off + 8, none⟩), c - 8, (l.drop 8).take n)]) (fun v _ W W' h hb => by obtain ⟨H, h1, h2⟩ := h; exact ⟨H, h1, h2.below hb⟩) rfl rfl rfl (fun w' hw' => ?_) (fun K hK v bs hbs => ?_)
    focus
      go_simp
      exact ⟨(Below.refl _ _).alloc (Nat.le_refl _) _, [], by simp, _, rfl, RdP.lit _ HV.out (HF.out _ (HP1.out.below hw'))⟩
    simp only [Act.put, List.setIfInBounds_toArray, List.set_cons_zero, List.set_cons_succ]
    refine hK.out _ _ _ ?_
    clear hK K
    repeat (first | (refine wpP_q rfl rfl rfl ?_; apply Exists.intro; refine ⟨fun w' hw' => ?_, fun K hK => ?_⟩; (focus ((obtain ⟨hw1, H, hv, hR⟩ := hw'); go_simp; first | exact quiet_value | with_reducible exact quiet_enter (HS.out _ _ hR))); simp only [Act.put, List.setIfInBounds_toArray, List.set_cons_zero, List.set_cons_succ]; refine hK.out _ ?_; clear hK K) | (refine wpP_skip rfl rfl rfl (fun K hK => ?_); simp only [Act.put, List.setIfInBounds_toArray, List.set_cons_zero, List.set_cons_succ]; refine hK.out _ ?_; clear hK K))
    refine wpP_nil ?_
    rintro w2 ⟨HB2, _⟩
    have HP2 := Lib.hid (HP1.out.below HB2)
    have HB3 := Lib.hid (HB.out.trans (HB2.mono HB.out.size))
    clear HB2 HS HV HF CT4
    simp only [List.drop_succ_cons, List.drop_nil]
    by_cases hts : t4 = sm
    · have he : ((t4 : Int) != (sm : Int)) = false := by simp; omega
      have hu := HU.out
      rw [if_pos hts] at hu
      have HU2 := Lib.hid hu
      have L8 : q - 8 = ((l.drop 8).take n).length := by have := HQ.out; simp; omega
      have HO : Hid (OwnB (w2.alloc (.cells #[] 5)) w.heap.size (.slice (some ⟨w2.heap.size, 0, none⟩) 0 0) []) := Lib.hid (World.ownsRow_lit w2 #[] 0 HB3.out.size (by decide) rfl)
      have HBA := Lib.hid (below_alloc (Below.refl w2.heap.size w2) (.cells #[] 5))
      have HBB := Lib.hid (below_alloc HB3.out (.cells #[] 5))
      have HR := Lib.hid (HZ.out _ (HP2.out.below HBA.out))
      have HL8 := Lib.hid L8
      have HLEN : Hid (([] : List UInt8).length + ((l.drop 8).take n).length ≤ 1099511627776) := Lib.hid (by simp; omega)
      clear hu hts HU L8
      go_wp2_with (at_builtin; go_loud (refine wpL_ap rfl (.tmp 42) (.tmp 45) rfl w.heap.size _ [] rfl HO.out (some (⟨ad.block, ad.off + 8, none⟩)) (q - 8) (c - 8) ((l.drop 8).take n) rfl HL8.out HR.out HLEN.out HBB.out.size ?o5))
      case o5 =>
        intro v3 w3 ho3 hg _
        have H1 := Lib.hid ho3
        have H2 := Lib.hid (made_below HBB.out HO.out HBB.out.size hg)
        clear ho3 hg
        go_wp2_with fail
        go_ret3
        refine ⟨v3, ?_, ?_, H2.out⟩
        · rw [HU2.out, HQ.out]; rfl
        · rw [HU2.out]; exact H1.out
    · have he : ((t4 : Int) != (sm : Int)) = true := by simp; omega
      have hu := HU.out
      rw [if_neg hts] at hu
      have HU2 := Lib.hid hu
      clear hu hts HU
      go_wp2_with fail
      go_ret3
      refine ⟨.slice none 0 0, ?_, ?_, HB3.out⟩
      · rw [HU2.out]; rfl
      · rw [HU2.out]; exact OwnB.nil_
end Go.Proofs.Ytboldddmknpchaa
