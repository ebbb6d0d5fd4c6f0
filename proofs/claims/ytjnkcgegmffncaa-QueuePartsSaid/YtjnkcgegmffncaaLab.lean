/- Names, labels, series, samples: whether they may be. -/
import Derived.Test.YtjnkcgegmffncaaWir
import Derived.Test.YtjnkcgegmffncaaRegU
namespace Go.Proofs.Ytjnkcgegmffncaa
open Go.RowKit
/-! ### Names -/
def okC (c : Int) : Bool := decide (97 ≤ c ∧ c ≤ 122) || decide (48 ≤ c ∧ c ≤ 57) || decide (c = 95)
/-- Whether a text is a name. -/
def nameB (s : ByteArray) : Bool := decide (1 ≤ s.size ∧ s.size ≤ 24) && !(decide (48 ≤ ((s.data.toList.headD 0).toNat : Int) ∧ ((s.data.toList.headD 0).toNat : Int) ≤ 57)) && s.data.toList.all (fun c => okC (c.toNat : Int))
theorem head_get {s : ByteArray} (h : 0 < s.size) : s.data.toList.headD 0 = s[0] := by
  obtain ⟨⟨l⟩⟩ := s
  cases l with
  | nil => exact absurd h (by decide)
  | cons a r => rfl
theorem mem_get {s : ByteArray} {c : UInt8} (h : c ∈ s.data.toList) : ∃ (k : Nat) (hk : k < s.size), s[k] = c := by
  obtain ⟨k, hk, e⟩ := List.mem_iff_getElem.1 h
  exact ⟨k, by simpa using hk, e⟩
theorem get_mem (s : ByteArray) (k : Nat) (hk : k < s.size) : s[k] ∈ s.data.toList := List.mem_iff_getElem.2 ⟨k, by simpa using hk, rfl⟩
set_option maxHeartbeats 2000000 in
set_option maxRecDepth 100000 in
theorem name_any (s : ByteArray) (w : World) : Calls Try.prog 55 #[.string s] w fun e w' => e = .returned (.bool (nameB s)) ∧ w = w' := by
  obtain ⟨b, hb⟩ : ∃ b, nameB s = b := ⟨_, rfl⟩
  rw [hb]
  have HB := Lib.hid hb
  clear hb
  by_cases h1 : s.size < 1
  · obtain rfl : false = b := by rw [← HB.out]; unfold nameB; rw [show decide (1 ≤ s.size ∧ s.size ≤ 24) = false by simp; omega]; rfl
    have h2 : (s.size : Int) < 1 := by omega
    go_enter Try.func55, Try.ntmps55
    go_wp2_with fail
    go_ret
    exact ⟨rfl, rfl⟩
  by_cases h2 : 24 < s.size
  · obtain rfl : false = b := by rw [← HB.out]; unfold nameB; rw [show decide (1 ≤ s.size ∧ s.size ≤ 24) = false by simp; omega]; rfl
    have h1' : ¬ (s.size : Int) < 1 := by omega
    have h2' : (24 : Int) < s.size := by omega
    go_enter Try.func55, Try.ntmps55
    go_wp2_with fail
    go_ret
    exact ⟨rfl, rfl⟩
  have h0 : 0 < s.size := by omega
  have h1' : ¬ (s.size : Int) < 1 := by omega
  have h2' : ¬ (24 : Int) < s.size := by omega
  have hE : nameB s = (!(decide ((48 : Int) ≤ ((s[0]).toNat : Int) ∧ ((s[0]).toNat : Int) ≤ (57 : Int))) && s.data.toList.all (fun c => okC (c.toNat : Int))) := by
    unfold nameB
    rw [head_get h0, show decide (1 ≤ s.size ∧ s.size ≤ 24) = true by simp; omega, Bool.true_and]
  have HE := Lib.hid hE
  clear hE
  by_cases h3 : (48 : Int) ≤ ((s[0]).toNat : Int) ∧ ((s[0]).toNat : Int) ≤ (57 : Int)
  · obtain rfl : false = b := by rw [← HB.out, HE.out, decide_eq_true h3]; rfl
    obtain ⟨h3, h4⟩ := h3
    go_enter Try.func55, Try.ntmps55
    go_wp2_with fail
    go_ret
    exact ⟨rfl, rfl⟩
  have HE2 : Hid (b = s.data.toList.all (fun c => okC (c.toNat : Int))) := Lib.hid (by rw [← HB.out, HE.out, decide_eq_false h3]; rfl)
  clear HE HB
  have h5 : ((s[0]).toNat : Int) < 48 ∨ 57 < ((s[0]).toNat : Int) := by omega
  clear h3
  rcases h5 with h5 | h5
  all_goals
    go_enter Try.func55, Try.ntmps55
    go_wp2_with fail
    clear h5
    go_loop [25] (fun v => ∃ k : Nat, k ≤ s.size ∧ v = .int .i64 k ∧ (∀ j (hj : j < s.size), j < k → okC ((s[j]).toNat : Int) = true)) (fun v => s.size - (intOf v).toNat)
    case atStart => exact ⟨0, Nat.zero_le _, rfl, fun _ _ h => absurd h (by omega)⟩
    case round =>
      obtain ⟨k, hk, rfl, hlt⟩ := hrel
      have HLt := Lib.hid hlt
      clear hlt
      by_cases hk2 : k < s.size
      · have hw : IntKind.i64.wrap ((k : Int) + 1) = ((k + 1 : Nat) : Int) := by rw [IntKind.wrap_i64]; omega
        have hkI : (k : Int) < (s.size : Int) := by omega
        obtain ⟨c, hc⟩ : ∃ c : Int, ((s[k]).toNat : Int) = c := ⟨_, rfl⟩
        have HC := Lib.hid hc
        by_cases hok : okC c = true
        · have HLt2 : Hid (∀ j (hj : j < s.size), j < k + 1 → okC ((s[j]).toNat : Int) = true) := Lib.hid (fun j hj hjk => by
            rcases Nat.lt_or_eq_of_le (Nat.le_of_lt_succ hjk) with h | rfl
            · exact HLt.out j hj h
            · rw [HC.out]; exact hok)
          have hok2 : (97 ≤ c ∧ c ≤ 122) ∨ (48 ≤ c ∧ c ≤ 57) ∨ c = 95 := by unfold okC at hok; simpa [or_assoc] using hok
          clear hok HC
          subst hc
          rcases hok2 with ⟨q1, q2⟩ | ⟨q1, q2⟩ | q1
          · go_wp2_with fail
            go_round
            case rel => exact ⟨k + 1, by omega, rfl, HLt2.out⟩
            case measure => simp [intOf]; omega
          · have q3 : ¬ (97 : Int) ≤ ((s[k]).toNat : Int) := by omega
            go_wp2_with fail
            go_round
            case rel => exact ⟨k + 1, by omega, rfl, HLt2.out⟩
            case measure => simp [intOf]; omega
          · have q3 : ¬ (97 : Int) ≤ ((s[k]).toNat : Int) := by omega
            have q4 : (48 : Int) ≤ ((s[k]).toNat : Int) := by omega
            have q5 : ¬ ((s[k]).toNat : Int) ≤ 57 := by omega
            go_wp2_with fail
            go_round
            case rel => exact ⟨k + 1, by omega, rfl, HLt2.out⟩
            case measure => simp [intOf]; omega
        · obtain rfl : b = false := by
            rw [HE2.out]
            refine List.all_eq_false.2 ⟨s[k], get_mem s k hk2, ?_⟩
            rw [hc]; exact hok
          have hok2 : c < 48 ∨ (57 < c ∧ c < 97 ∧ c ≠ 95) ∨ 122 < c := by
            unfold okC at hok
            simp only [Bool.or_eq_true, decide_eq_true_eq] at hok
            omega
          clear hok HC HE2 HLt
          subst hc
          rcases hok2 with q1 | ⟨q1, q2, q3⟩ | q1
          · have q3 : ¬ (97 : Int) ≤ ((s[k]).toNat : Int) := by omega
            have q4 : ¬ (48 : Int) ≤ ((s[k]).toNat : Int) := by omega
            have q5 : (((s[k]).toNat : Int) == 95) = false := by simp; omega
            go_wp2_with fail
            go_ret
            exact ⟨rfl, rfl⟩
          · have q3 : ¬ (97 : Int) ≤ ((s[k]).toNat : Int) := by omega
            have q4 : (48 : Int) ≤ ((s[k]).toNat : Int) := by omega
            have q6 : ¬ ((s[k]).toNat : Int) ≤ 57 := by omega
            have q5 : (((s[k]).toNat : Int) == 95) = false := by simp; omega
            go_wp2_with fail
            go_ret
            exact ⟨rfl, rfl⟩
          · have q3 : (97 : Int) ≤ ((s[k]).toNat : Int) := by omega
            have q7 : ¬ ((s[k]).toNat : Int) ≤ 122 := by omega
            have q4 : (48 : Int) ≤ ((s[k]).toNat : Int) := by omega
            have q6 : ¬ ((s[k]).toNat : Int) ≤ 57 := by omega
            have q5 : (((s[k]).toNat : Int) == 95) = false := by simp; omega
            go_wp2_with fail
            go_ret
            exact ⟨rfl, rfl⟩
      · obtain rfl : b = true := by
          rw [HE2.out]
          refine List.all_eq_true.2 fun c hc => ?_
          obtain ⟨j, hj, rfl⟩ := mem_get hc
          exact HLt.out j hj (by omega)
        have hkI : ¬ (k : Int) < (s.size : Int) := by omega
        go_wp2_with fail
        go_ret
        exact ⟨rfl, rfl⟩
/-! ### Labels in memory -/
/-- A label: its name, its text. -/
abbrev Lb := ByteArray × ByteArray
def lbF : List Lb → List Value
  | [] => []
  | x :: r => .string x.1 :: .string x.2 :: lbF r
theorem lbF_len : ∀ L : List Lb, (lbF L).length = L.length * 2
  | [] => rfl
  | x :: r => by simp [lbF, lbF_len r]; omega
theorem lbF_get : ∀ (L : List Lb) (k : Nat) (h : k < L.length), (lbF L)[k * 2]? = some (.string L[k].1) ∧ (lbF L)[k * 2 + 1]? = some (.string L[k].2)
  | x :: r, 0, _ => ⟨rfl, rfl⟩
  | x :: r, k + 1, h => by
    have := lbF_get r k (by simpa using h)
    rw [show (k + 1) * 2 = k * 2 + 1 + 1 by omega, show k * 2 + 1 + 1 + 1 = (k * 2 + 1) + 1 + 1 by omega]
    simpa [lbF] using this
theorem lbF_one : ∀ (L : List Lb), ∀ u ∈ lbF L, u.oneCell' = true
  | [], _, h => by cases h
  | x :: r, u, h => by
    simp only [lbF, List.mem_cons] at h
    rcases h with rfl | rfl | h
    · rfl
    · rfl
    · exact lbF_one r u h
/-- The slice at A reads as these labels. -/
def RdLb (w : World) (A : Option Addr) (L : List Lb) : Prop := Reads w w.heap.size 2 A L.length (lbF L)
theorem RdLb.below {w w' : World} {A : Option Addr} {L : List Lb} (h : RdLb w A L) (hb : Below w.heap.size w w') : RdLb w' A L := Reads.more (Reads.below h hb) hb.size
/-- A cell of a row, in the walk's spelling. -/
theorem Reads.cell0 {w : World} {B size n : Nat} {A : Option Addr} {xs : List Value} (h : Reads w B size A n xs) {ad : Addr} (hA : A = some ad) {k : Nat} (h0 : 0 < n) {u : Value} (hu : xs[k]? = some u) : w.cell? (ad.add k) = some u := by
  obtain ⟨ad', e, _, hc⟩ := h.2 h0
  rw [hA] at e; cases e
  exact hc k u hu
theorem Reads.cellI {w : World} {B size n : Nat} {A : Option Addr} {xs : List Value} (h : Reads w B size A n xs) {ad : Addr} (hA : A = some ad) {k i : Nat} (h0 : 0 < n) {u : Value} (hu : xs[k + i]? = some u) (hi : 0 < i) : w.cell? { block := (ad.add k).block, off := (ad.add k).off + i } = some u := by
  have := h.cell0 hA h0 hu
  rw [← add_of_add] at this
  rw [← this]
  have e : ∀ a : Addr, a.add i = { block := a.block, off := a.off + i } := fun a => by unfold Addr.add; rw [if_neg (by omega)]
  rw [e]
theorem RdLb.at_ {w : World} {A : Option Addr} {L : List Lb} (h : RdLb w A L) {k : Nat} (hk : k < L.length) : ∃ ad, A = some ad ∧ ad.block < w.heap.size ∧ w.cell? (ad.add (k * 2)) = some (.string L[k].1) ∧ w.cell? { block := (ad.add (k * 2)).block, off := (ad.add (k * 2)).off + 1 } = some (.string L[k].2) := by
  obtain ⟨ad, e, hb, _⟩ := h.2 (by omega)
  obtain ⟨g0, g1⟩ := lbF_get L k hk
  exact ⟨ad, e, hb, h.cell0 e (by omega) g0, h.cellI e (by omega) g1 (by omega)⟩
theorem RdLb.some_ {w : World} {a : Addr} {L : List Lb} (h : RdLb w (some a) L) {k : Nat} (hk : k < L.length) : w.cell? (a.add (k * 2)) = some (.string L[k].1) ∧ w.cell? { block := (a.add (k * 2)).block, off := (a.add (k * 2)).off + 1 } = some (.string L[k].2) := by
  obtain ⟨ad, e, _, h1, h2⟩ := h.at_ hk
  cases e; exact ⟨h1, h2⟩
/-! ### Whether labels may be -/
def labOk : ByteArray → List Lb → Bool
  | _, [] => true
  | last, x :: r => nameB x.1 && !(Op.bytesLess x.1.toList last.toList || x.1.toList == last.toList) && !x.2.toList.isEmpty && decide (x.2.size ≤ 64) && labOk x.1 r
/-- What label.Check tells. -/
def labE (L : List Lb) : Int := if 8 < L.length then 3 else if labOk (ByteArray.mk #[]) L = true then 0 else 2
set_option maxHeartbeats 2000000 in
set_option maxRecDepth 100000 in
theorem lcheck_any (A : Option Addr) (c : Nat) (L : List Lb) (w : World) (h : RdLb w A L) : Calls Try.prog 48 #[.slice A L.length c] w fun e w' => e = .returned (.int .i64 (labE L)) ∧ Below w.heap.size w w' := by
  obtain ⟨N, hN⟩ : ∃ N, L.length = N := ⟨_, rfl⟩
  have HN := Lib.hid hN
  have H := Lib.hid h
  unfold labE
  rw [hN]
  obtain ⟨x, hx⟩ : ∃ x : Int, (if labOk (ByteArray.mk #[]) L = true then 0 else 2) = x := ⟨_, rfl⟩
  rw [hx]
  have HX := Lib.hid hx
  clear hN h hx
  by_cases h8 : 8 < N
  · rw [if_pos h8]
    have h9 : (8 : Int) < (N : Int) := by omega
    go_enter Try.func48, Try.ntmps48
    go_wp2_with fail
    go_ret
    exact ⟨rfl, Below.refl _ _⟩
  rw [if_neg h8]
  have h9 : ¬ (8 : Int) < (N : Int) := by omega
  go_enter Try.func48, Try.ntmps48
  go_wp2_with fail
  clear h9
  go_loopw [3, 11] (fun s v wr => ∃ (k : Nat) (last : ByteArray), k ≤ N ∧ v = .int .i64 k ∧ s = .string last ∧ Hid (labOk (ByteArray.mk #[]) L = labOk last (L.drop k)) ∧ Hid (Below w.heap.size w wr)) (fun _ v _ => N - (intOf v).toNat)
  case atStart => exact ⟨0, ByteArray.mk #[], Nat.zero_le _, rfl, rfl, Lib.hid rfl, Lib.hid (Below.refl _ _)⟩
  case round =>
    obtain ⟨k, last, hk, rfl, rfl, HL, HB⟩ := hrel
    by_cases h0 : k < N
    · have hkP : k < L.length := by rw [HN.out]; exact h0
      obtain ⟨ad, rfl, hlt, c0, c1⟩ := (H.out.below HB.out).at_ hkP
      have hw : IntKind.i64.wrap ((k : Int) + 1) = ((k + 1 : Nat) : Int) := by rw [IntKind.wrap_i64]; omega
      have hkI : (k : Int) < (N : Int) := by omega
      have hdr : labOk last (L.drop k) = labOk last (L[k] :: L.drop (k + 1)) := by rw [List.drop_eq_getElem_cons hkP]
      obtain ⟨⟨n, t⟩, hnt⟩ : ∃ x, L[k] = x := ⟨_, rfl⟩
      rw [hnt] at c0 c1 hdr
      simp only at c0 c1
      obtain ⟨b1, hb1⟩ : ∃ b, nameB n = b := ⟨_, rfl⟩
      obtain ⟨b2, hb2⟩ : ∃ b, (Op.bytesLess n.toList last.toList || n.toList == last.toList) = b := ⟨_, rfl⟩
      obtain ⟨b3, hb3⟩ : ∃ b, t.toList.isEmpty = b := ⟨_, rfl⟩
      have hdr2 : labOk (ByteArray.mk #[]) L = (b1 && !b2 && !b3 && decide (t.size ≤ 64) && labOk n (L.drop (k + 1))) := by
        rw [HL.out, hdr]; simp only [labOk]; rw [hb1, hb2, hb3]
      have HD := Lib.hid hdr2
      have CN := Lib.hid (fun W => name_any n W)
      rw [hb1] at CN
      have HB1 := Lib.hid (below_alloc HB.out (.cells #[.string n, .string t] 76))
      have HX1 := newB wr (.cells #[.string n, .string t] 76)
      have d0 := cellAt (o := 0) HX1 rfl
      have d1 := cellAt (o := 1) HX1 rfl
      clear hdr hdr2 hnt hkP hb1 HX1
      cases b1
      case false =>
        obtain rfl : 2 = x := by rw [← HX.out, HD.out]; rfl
        clear hb2 hb3
        go_wp2_with (fail)
        refine (CN.out _).mono ?_
        rintro e w1 ⟨rfl, rfl⟩
        go_wp2_with fail
        go_ret
        exact ⟨rfl, HB1.out⟩
      case true =>
        cases b2
        case true =>
          obtain rfl : 2 = x := by rw [← HX.out, HD.out]; rfl
          clear hb3
          go_wp2_with (fail)
          refine (CN.out _).mono ?_
          rintro e w1 ⟨rfl, rfl⟩
          go_wp2_with fail
          go_ret
          exact ⟨rfl, HB1.out⟩
        case false =>
          cases b3
          case true =>
            obtain rfl : 2 = x := by rw [← HX.out, HD.out]; rfl
            go_wp2_with (fail)
            refine (CN.out _).mono ?_
            rintro e w1 ⟨rfl, rfl⟩
            go_wp2_with fail
            go_ret
            exact ⟨rfl, HB1.out⟩
          case false =>
            by_cases h6 : t.size ≤ 64
            · have h7 : ¬ (64 : Int) < (t.size : Int) := by omega
              go_wp2_with (fail)
              refine (CN.out _).mono ?_
              rintro e w1 ⟨rfl, rfl⟩
              go_wp2_with fail
              go_roundw
              case rel => exact ⟨k + 1, n, by omega, rfl, rfl, Lib.hid (by rw [HD.out, decide_eq_true h6]; rfl), HB1⟩
              case measure => simp [intOf]; omega
            · have h7 : (64 : Int) < (t.size : Int) := by omega
              obtain rfl : 2 = x := by rw [← HX.out, HD.out, decide_eq_false h6]; rfl
              go_wp2_with (fail)
              refine (CN.out _).mono ?_
              rintro e w1 ⟨rfl, rfl⟩
              go_wp2_with fail
              go_ret
              exact ⟨rfl, HB1.out⟩
    · have hkI : ¬ (k : Int) < (N : Int) := by omega
      obtain rfl : 0 = x := by rw [← HX.out, HL.out, List.drop_eq_nil_of_le (by rw [HN.out]; omega)]; rfl
      go_wp2_with fail
      go_ret
      exact ⟨rfl, HB.out⟩
theorem lcheck_n {A : Option Addr} {c n : Nat} {L : List Lb} {w : World} (hn : L.length = n) (h : RdLb w A L) : Calls Try.prog 48 #[.slice A n c] w fun e w' => e = .returned (.int .i64 (labE L)) ∧ Below w.heap.size w w' := by
  subst hn; exact lcheck_any A c L w h
/-- What sample.CheckSeries tells. -/
def serE (m : ByteArray) (L : List Lb) : Int := if nameB m = true then labE L else 2
set_option maxRecDepth 100000 in
theorem cser_any {m : ByteArray} {A : Option Addr} {c n : Nat} {L : List Lb} {w : World} (hn : L.length = n) (h : RdLb w A L) : Calls Try.prog 46 #[.agg #[.string m, .slice A n c]] w fun e w' => e = .returned (.int .i64 (serE m L)) ∧ Below w.heap.size w w' := by
  have HB := Lib.hid (below_alloc (Below.refl w.heap.size w) (.cells #[.string m, .slice A n c] 31))
  have HX := newB w (.cells #[.string m, .slice A n c] 31)
  have CL := Lib.hid (lcheck_n (c := c) hn (h.below HB.out))
  have d0 := cellAt (o := 0) HX rfl
  have d1 := cellAt (o := 1) HX rfl
  have CN := Lib.hid (fun W => name_any m W)
  unfold serE
  obtain ⟨b, hb⟩ : ∃ b, nameB m = b := ⟨_, rfl⟩
  rw [hb] at CN ⊢
  obtain ⟨x, hx⟩ : ∃ x, labE L = x := ⟨_, rfl⟩
  rw [hx] at CL ⊢
  clear hn h HX hb hx
  cases b
  · go_enter Try.func46, Try.ntmps46
    go_wp2_with fail
    refine (CN.out _).mono ?_
    rintro e w1 ⟨rfl, rfl⟩
    go_wp2_with fail
    go_ret
    exact ⟨rfl, HB.out⟩
  · go_enter Try.func46, Try.ntmps46
    go_wp2_with fail
    refine (CN.out _).mono ?_
    rintro e w1 ⟨rfl, rfl⟩
    go_wp2_with fail
    refine CL.out.mono ?_
    rintro e w1 ⟨rfl, hb1⟩
    have HB1 := Lib.hid (HB.out.trans (hb1.mono HB.out.size))
    clear hb1
    go_wp2_with fail
    go_ret
    exact ⟨rfl, HB1.out⟩
/-- What sample.Check tells. -/
def smpE (m : ByteArray) (L : List Lb) (t : Int) : Int := if serE m L = 0 then (if t < 1 ∨ 1099511627776 < t then 2 else 0) else serE m L
set_option maxRecDepth 100000 in
theorem csmp_any {m : ByteArray} {A : Option Addr} {c n : Nat} {L : List Lb} {t k : Int} {w : World} (hn : L.length = n) (h : RdLb w A L) : Calls Try.prog 28 #[.agg #[.string m, .slice A n c, .int .i64 t, .int .i64 k]] w fun e w' => e = .returned (.int .i64 (smpE m L t)) ∧ Below w.heap.size w w' := by
  have HB := Lib.hid (below_alloc (Below.refl w.heap.size w) (.cells #[.string m, .slice A n c, .int .i64 t, .int .i64 k] 33))
  have HX := Lib.hid (newB w (.cells #[.string m, .slice A n c, .int .i64 t, .int .i64 k] 33))
  have CL := Lib.hid (cser_any (m := m) (c := c) hn (h.below HB.out))
  have d0 := cellAt (o := 0) HX.out rfl
  have d1 := cellAt (o := 1) HX.out rfl
  have d2 := cellAt (o := 2) HX.out rfl
  unfold smpE
  obtain ⟨x, hx⟩ : ∃ x, serE m L = x := ⟨_, rfl⟩
  rw [hx] at CL ⊢
  obtain ⟨y, hy⟩ : ∃ y : Int, (if x = 0 then (if t < 1 ∨ 1099511627776 < t then 2 else 0) else x) = y := ⟨_, rfl⟩
  rw [hy]
  have HY := Lib.hid hy
  clear hn h hx hy
  go_enter Try.func28, Try.ntmps28
  go_wp2_with fail
  refine CL.out.mono ?_
  rintro e w1 ⟨rfl, hb1⟩
  have HB1 := Lib.hid (HB.out.trans (hb1.mono HB.out.size))
  have HX1 := Lib.hid (keepB HX.out hb1)
  clear hb1 d0 d1 d2
  have d2 := cellAt (o := 2) HX1.out rfl
  by_cases h0 : x = 0
  · subst h0
    have hy := HY.out
    rw [if_pos rfl] at hy
    by_cases h1 : t < 1
    · obtain rfl : 2 = y := by rw [← hy, if_pos (.inl h1)]
      clear hy HY
      go_wp2_with fail
      go_ret
      exact ⟨rfl, HB1.out⟩
    · by_cases h2 : 1099511627776 < t
      · obtain rfl : 2 = y := by rw [← hy, if_pos (.inr h2)]
        clear hy HY
        go_wp2_with fail
        go_ret
        exact ⟨rfl, HB1.out⟩
      · obtain rfl : 0 = y := by rw [← hy, if_neg (by omega)]
        clear hy HY
        go_wp2_with fail
        go_ret
        exact ⟨rfl, HB1.out⟩
  · obtain rfl : x = y := by rw [← HY.out, if_neg h0]
    have hx0 : (x == 0) = false := by simpa using h0
    go_wp2_with fail
    go_ret
    exact ⟨rfl, HB1.out⟩
end Go.Proofs.Ytjnkcgegmffncaa
