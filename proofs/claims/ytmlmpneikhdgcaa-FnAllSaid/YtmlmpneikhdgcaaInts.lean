/-
  What the program's functions on integers compute: each function's contract, whatever follows the call (Q).
-/
import Derived.Test.YtmlmpneikhdgcaaRows
import Derived.Test.YtmlmpneikhdgcaaNums
import Derived.Test.YtmlmpneikhdgcaaDrawn
import Derived.WalkKit
import Derived.WalkSpells
import Derived.WalkLawsBesides
import Derived.Deep.LoopGhost
import Derived.Lib.Hide
import Derived.Deep.QuietTactic
import Derived.BigQuiet
namespace Go.Proofs.Ytmlmpneikhdgcaa
open Go.RowKit

theorem boolq {Q : Ending → World → Prop} {b b' : Bool} {w : World} (h : Q (.returned (.bool b)) w) (e : b = true ↔ b' = true) : Q (.returned (.bool b')) w := by
  rw [← Bool.eq_iff_iff.2 e]; exact h
theorem intq {Q : Ending → World → Prop} {n n' : Int} {k : IntKind} {w : World} (h : Q (.returned (.int k n)) w) (e : n = n') : Q (.returned (.int k n')) w := by
  rw [← e]; exact h

set_option maxHeartbeats 400000 in
theorem l01In_c {n lo hi : Int} {w : World} {Q : Ending → World → Prop} (hQ : Q (.returned (.bool (decide (lo ≤ n ∧ n ≤ hi)))) w) :
    Calls Try.prog 57 #[.int .i64 n, .int .i64 lo, .int .i64 hi] w Q := by
  have H := Lib.hid hQ; clear hQ
  go_enter Try.func57, Try.ntmps57
  go_wp2
  all_goals (refine boolq H.out ?_; simp; omega)

set_option maxHeartbeats 400000 in
theorem gcd_s {a b : Int} {w : World} {Q : Ending → World → Prop} (ha0 : 0 ≤ a) (ha : a ≤ 4611686018427387904) (hb0 : 0 ≤ b) (hb : b ≤ 4611686018427387904) (hQ : ∀ g : Int, Hid (g = Nat.gcd a.toNat b.toNat) → Q (.returned (.int .i64 g)) w) :
    Calls Try.prog 109 #[.int .i64 a, .int .i64 b] w Q := by
  have H := Lib.hid hQ; clear hQ
  obtain ⟨a, rfl⟩ := Int.eq_ofNat_of_zero_le ha0
  obtain ⟨b, rfl⟩ := Int.eq_ofNat_of_zero_le hb0
  rw [Int.toNat_natCast, Int.toNat_natCast] at H
  clear ha0 hb0
  go_enter Try.func109, Try.ntmps109
  go_wp2
  go_loopg [0, 1] b (fun k u v wr => Hid (wr = w) ∧ ∃ x y : Nat, u = .int .i64 x ∧ v = .int .i64 y ∧ Hid (Nat.gcd x y = Nat.gcd a b) ∧ (y : Int) ≤ k ∧ (x : Int) ≤ 4611686018427387904 ∧ (y : Int) ≤ 4611686018427387904)
  case atStart => exact ⟨Lib.hid rfl, a, b, rfl, rfl, Lib.hid rfl, Int.le_refl _, ha, hb⟩
  case round =>
    obtain ⟨hw, x, y, rfl, rfl, hg, hk, hx, hy⟩ := hrel
    obtain rfl := hw.out
    by_cases h0 : 0 < (y : Int)
    · have hlt : (x : Int) % y < y := Int.emod_lt_of_pos _ h0
      go_wp2
      go_roundg (x % y)
      case measure => omega
      case rel => exact ⟨Lib.hid rfl, y, x % y, rfl, by go_num, Lib.hid (by rw [← hg.out]; exact Nums.gcd_step x y), by omega, hy, by omega⟩
    · go_wp2
      obtain rfl : y = 0 := by omega
      exact H.out _ (Lib.hid (by rw [← hg.out, Nat.gcd_zero_right]))
set_option maxHeartbeats 400000 in
theorem gcd_i {a b : Int} {w : World} {Q : Ending → World → Prop} (ha0 : 0 ≤ a) (ha : a ≤ 4611686018427387904) (hb0 : 0 ≤ b) (hb : b ≤ 4611686018427387904) (hQ : ∀ (g : Int) (w' : World), Hid (g = Nat.gcd a.toNat b.toNat) → Drawn w w' → Q (.returned (.int .i64 g)) w') :
    Calls Try.prog 107 #[.int .i64 a, .int .i64 b] w Q := by
  have H := Lib.hid hQ; clear hQ
  obtain ⟨a, rfl⟩ := Int.eq_ofNat_of_zero_le ha0
  obtain ⟨b, rfl⟩ := Int.eq_ofNat_of_zero_le hb0
  rw [Int.toNat_natCast, Int.toNat_natCast] at H
  clear ha0 hb0
  go_enter Try.func107, Try.ntmps107
  go_wp2
  go_loopg [0, 1] b (fun k u v wr => Drawn w wr ∧ ∃ x y : Nat, u = .int .i64 x ∧ v = .int .i64 y ∧ Hid (Nat.gcd x y = Nat.gcd a b) ∧ (y : Int) ≤ k ∧ (x : Int) ≤ 4611686018427387904 ∧ (y : Int) ≤ 4611686018427387904)
  case atStart => exact ⟨Drawn.refl w, a, b, rfl, rfl, Lib.hid rfl, Int.le_refl _, ha, hb⟩
  case round =>
    obtain ⟨hw, x, y, rfl, rfl, hg, hk, hx, hy⟩ := hrel
    by_cases h0 : y = 0
    · subst h0
      go_wp2
      exact H.out _ _ (Lib.hid (by rw [← hg.out, Nat.gcd_zero_right])) hw
    · have hlt : (x : Int) % y < y := Int.emod_lt_of_pos _ (by omega)
      have hne : ((y : Int) == 0) = false := beq_eq_false_iff_ne.2 (by omega)
      go_wp2
      go_quiet (fail)
      go_wp2
      go_roundg (x % y)
      case measure => omega
      case rel => exact ⟨hw.next nq, y, x % y, rfl, by go_num, Lib.hid (by rw [← hg.out]; exact Nums.gcd_step x y), by omega, hy, by omega⟩
set_option maxHeartbeats 400000 in
theorem Mobius_i {n : Int} {w : World} {Q : Ending → World → Prop} (hQ : Q (.returned (.int .i64 (Nums.mob n))) w) :
    Calls Try.prog 85 #[.int .i64 n] w Q := by
  have H := Lib.hid hQ; clear hQ
  by_cases hr : 1 ≤ n ∧ n ≤ 1000
  · obtain ⟨h1, h2⟩ := hr
    have HM : Hid (Nums.mob n = Nums.mobAux 1000 2 n 1) := Lib.hid (by unfold Nums.mob; rw [if_pos ⟨h1, h2⟩])
    go_enter Try.func85, Try.ntmps85
    go_wp2
    go_loopg [0, 3, 4] 1000 (fun k u s d wr => Hid (wr = w) ∧ ∃ m s' d' : Int, u = .int .i64 m ∧ s = .int .i64 s' ∧ d = .int .i64 d' ∧ Hid (Nums.mobAux k d' m s' = Nums.mob n) ∧ Hid (Nums.Rough d' m) ∧ 1 ≤ m ∧ m ≤ 1000 ∧ 2 ≤ d' ∧ d' + k ≤ 1002 ∧ 1002 ≤ d' + k ∧ -1 ≤ s' ∧ s' ≤ 1)
    case atStart => exact ⟨Lib.hid rfl, n, 1, 2, rfl, rfl, rfl, Lib.hid HM.out.symm, Lib.hid (Nums.rough_two n), h1, h2, by omega, by omega, by omega, by omega, by omega⟩
    case round =>
      obtain ⟨hw, m, s, d, rfl, rfl, rfl, hg, hR, hm1, hm2, hd, hk1, hk2, hs1, hs2⟩ := hrel
      obtain rfl := hw.out
      clear hw
      by_cases hm : 1 < m
      · have hle := Nums.rough_le hR.out hm
        obtain ⟨k, rfl⟩ : ∃ k, gk = k + 1 := ⟨gk - 1, by omega⟩
        by_cases hz : m % d = 0
        · have hq := Nums.div_pos hd hm hz
          have hz' : (m % d != 0) = false := by rw [hz]; rfl
          by_cases hz2 : m / d % d = 0
          · have hz2' : (m / d % d == 0) = true := by rw [hz2]; rfl
            have e : Hid (0 = Nums.mob n) := Lib.hid (by rw [← hg.out]; simp only [Nums.mobAux]; rw [if_neg (by omega), if_pos hz, if_pos hz2])
            clear hz hz2
            go_wp2
            exact intq H.out e.out.symm
          · have hz2' : (m / d % d == 0) = false := beq_eq_false_iff_ne.2 hz2
            have e : Hid (Nums.mobAux k (d + 1) (m / d) (-s) = Nums.mob n) := Lib.hid (by rw [← hg.out]; simp only [Nums.mobAux]; rw [if_neg (by omega), if_pos hz, if_neg hz2])
            have hR' : Hid (Nums.Rough (d + 1) (m / d)) := Lib.hid (Nums.rough_div hR.out hz hz2)
            clear hz hz2
            go_wp2
            go_roundg k
            case measure => omega
            case rel => exact ⟨Lib.hid rfl, m / d, -s, d + 1, rfl, rfl, rfl, e, hR', by omega, by omega, by omega, by omega, by omega, by omega, by omega⟩
        · have hz' : (m % d != 0) = true := by rw [bne_iff_ne]; exact hz
          have e : Hid (Nums.mobAux k (d + 1) m s = Nums.mob n) := Lib.hid (by rw [← hg.out]; simp only [Nums.mobAux]; rw [if_neg (by omega), if_neg hz])
          have hR' : Hid (Nums.Rough (d + 1) m) := Lib.hid (Nums.rough_next hR.out hz)
          clear hz
          go_wp2
          go_roundg k
          case measure => omega
          case rel => exact ⟨Lib.hid rfl, m, s, d + 1, rfl, rfl, rfl, e, hR', by omega, by omega, by omega, by omega, by omega, by omega, by omega⟩
      · have e : Hid (s = Nums.mob n) := Lib.hid (by
          rw [← hg.out]
          cases gk with
          | zero => rfl
          | succ k => simp only [Nums.mobAux]; rw [if_pos (by omega)])
        go_wp2
        exact intq H.out e.out.symm
  · have e : Hid (Nums.mob n = 0) := Lib.hid (by unfold Nums.mob; rw [if_neg hr])
    go_enter Try.func85, Try.ntmps85
    go_wp2
    all_goals exact intq H.out e.out
set_option maxHeartbeats 400000 in
theorem Totient_s {n : Int} {w : World} {Q : Ending → World → Prop} (hQ : Q (.returned (.int .i64 (Nums.tot n))) w) :
    Calls Try.prog 90 #[.int .i64 n] w Q := by
  have H := Lib.hid hQ; clear hQ
  by_cases hr : 1 ≤ n ∧ n ≤ 1000
  · obtain ⟨h1, h2⟩ := hr
    have HM : Hid (Nums.tot n = Nums.totTo n.toNat n.toNat) := Lib.hid (by unfold Nums.tot; rw [if_pos ⟨h1, h2⟩])
    go_enter Try.func90, Try.ntmps90
    go_wp2_with (go_at_call 57; refine l01In_c ?_)
    go_loopg [3, 4] 1001 (fun k s d wr => Hid (wr = w) ∧ ∃ (t : Int) (j : Nat), s = .int .i64 t ∧ d = .int .i64 ((j : Int) + 1) ∧ Hid (t = Nums.totTo n.toNat j) ∧ 0 ≤ t ∧ t ≤ j ∧ (j : Int) ≤ n ∧ (j : Int) + k ≤ 1001 ∧ 1001 ≤ (j : Int) + k)
    case atStart => exact ⟨Lib.hid rfl, 0, 0, rfl, rfl, Lib.hid rfl, by omega, by omega, by omega, by omega, by omega⟩
    case round =>
      obtain ⟨hw, t, j, rfl, rfl, hg, ht0, htj, hjn, hk1, hk2⟩ := hrel
      obtain rfl := hw.out
      clear hw
      by_cases hm : (j : Int) + 1 ≤ n
      · go_wp2_with (go_at_call 109; refine gcd_s (by omega) (by omega) (by omega) (by omega) ?_; intro g hgc; by_cases hg1 : g = 1)
        all_goals have es : Nums.totTo n.toNat (j + 1) = Nums.totTo n.toNat j + if Nat.gcd (j + 1) n.toNat = 1 then 1 else 0 := rfl
        all_goals have eg := hgc.out
        all_goals rw [show ((j : Int) + 1).toNat = j + 1 from by omega] at eg
        · go_roundg (gk - 1)
          case measure => omega
          case rel => exact ⟨Lib.hid rfl, t + 1, j + 1, rfl, by go_num, Lib.hid (by rw [es, hg.out, if_pos (by omega)]), by omega, by omega, by omega, by omega, by omega⟩
        · go_roundg (gk - 1)
          case measure => omega
          case rel => exact ⟨Lib.hid rfl, t, j + 1, rfl, by go_num, Lib.hid (by rw [es, hg.out, if_neg (by omega)]; omega), by omega, by omega, by omega, by omega, by omega⟩
      · go_wp2
        refine intq H.out ?_
        rw [HM.out, hg.out, show n.toNat = j from by omega]
  · have e : Hid (Nums.tot n = 0) := Lib.hid (by unfold Nums.tot; rw [if_neg hr])
    have hr' : (decide (1 ≤ n ∧ n ≤ 1000)) = false := decide_eq_false hr
    clear hr
    go_enter Try.func90, Try.ntmps90
    go_wp2_with (go_at_call 57; refine l01In_c ?_)
    all_goals exact intq H.out e.out
set_option maxHeartbeats 400000 in
theorem Totient_i {n : Int} {w : World} {Q : Ending → World → Prop} (hQ : ∀ w', Drawn w w' → Q (.returned (.int .i64 (Nums.tot n))) w') :
    Calls Try.prog 86 #[.int .i64 n] w Q := by
  have H := Lib.hid hQ; clear hQ
  by_cases hr : 1 ≤ n ∧ n ≤ 1000
  · obtain ⟨h1, h2⟩ := hr
    have HM : Hid (Nums.tot n = Nums.totTo n.toNat n.toNat) := Lib.hid (by unfold Nums.tot; rw [if_pos ⟨h1, h2⟩])
    go_enter Try.func86, Try.ntmps86
    go_wp2
    go_loopg [3, 4] 1001 (fun k s d wr => Drawn w wr ∧ ∃ (t : Int) (j : Nat), s = .int .i64 t ∧ d = .int .i64 ((j : Int) + 1) ∧ Hid (t = Nums.totTo n.toNat j) ∧ 0 ≤ t ∧ t ≤ j ∧ (j : Int) ≤ n ∧ (j : Int) + k ≤ 1001 ∧ 1001 ≤ (j : Int) + k)
    case atStart => exact ⟨Drawn.refl w, 0, 0, rfl, rfl, Lib.hid rfl, by omega, by omega, by omega, by omega, by omega⟩
    case round =>
      obtain ⟨hw, t, j, rfl, rfl, hg, ht0, htj, hjn, hk1, hk2⟩ := hrel
      by_cases hm : (j : Int) + 1 ≤ n
      · go_wp2_with (go_at_call 107; refine gcd_i (by omega) (by omega) (by omega) (by omega) ?_; intro g w2 hgc hd2; by_cases hg1 : g = 1)
        all_goals have es : Nums.totTo n.toNat (j + 1) = Nums.totTo n.toNat j + if Nat.gcd (j + 1) n.toNat = 1 then 1 else 0 := rfl
        all_goals have eg := hgc.out
        all_goals rw [show ((j : Int) + 1).toNat = j + 1 from by omega] at eg
        · go_roundg (gk - 1)
          case measure => omega
          case rel => exact ⟨hw.trans hd2, t + 1, j + 1, rfl, by go_num, Lib.hid (by rw [es, hg.out, if_pos (by omega)]), by omega, by omega, by omega, by omega, by omega⟩
        · go_roundg (gk - 1)
          case measure => omega
          case rel => exact ⟨hw.trans hd2, t, j + 1, rfl, by go_num, Lib.hid (by rw [es, hg.out, if_neg (by omega)]; omega), by omega, by omega, by omega, by omega, by omega⟩
      · go_wp2
        refine intq (H.out _ hw) ?_
        rw [HM.out, hg.out, show n.toNat = j from by omega]
  · have e : Hid (Nums.tot n = 0) := Lib.hid (by unfold Nums.tot; rw [if_neg hr])
    go_enter Try.func86, Try.ntmps86
    go_wp2
    all_goals exact intq (H.out _ (Drawn.refl w)) e.out
set_option maxHeartbeats 400000 in
theorem power_i {k n : Int} {w : World} {Q : Ending → World → Prop} (h0 : 0 ≤ k) (h4 : k ≤ 4) (hn0 : 0 ≤ n) (hn : n ≤ 11) (hQ : Q (.returned (.int .i64 (Nums.pw k n))) w) :
    Calls Try.prog 91 #[.int .i64 k, .int .i64 n] w Q := by
  have H := Lib.hid hQ; clear hQ
  go_enter Try.func91, Try.ntmps91
  go_wp2
  go_loopg [5, 7] n.toNat (fun g o i wr => Hid (wr = w) ∧ ∃ (x : Int) (j : Nat), o = .int .i64 x ∧ i = .int .i64 j ∧ Hid (x = Nums.powTo k j) ∧ (j : Int) + g ≤ n ∧ n ≤ (j : Int) + g)
  case atStart => exact ⟨Lib.hid rfl, 1, 0, rfl, rfl, Lib.hid rfl, by omega, by omega⟩
  case round =>
    obtain ⟨hw, x, j, rfl, rfl, hx, hk1, hk2⟩ := hrel
    obtain rfl := hw.out
    clear hw
    by_cases hj : (j : Int) < n
    · have hb : 0 ≤ x * k ∧ x * k ≤ 4194304 := by
        have := Nums.powTo_bd h0 h4 (j := j + 1) (by omega)
        rw [hx.out]; exact this
      obtain ⟨hb1, hb2⟩ := hb
      go_wp2
      go_roundg (gk - 1)
      case measure => omega
      case rel => exact ⟨Lib.hid rfl, x * k, j + 1, by go_num, by go_num, Lib.hid (by rw [hx.out]; rfl), by omega, by omega⟩
    · go_wp2
      refine intq H.out ?_
      rw [hx.out, Nums.pw, show n.toNat = j from by omega]
set_option maxHeartbeats 400000 in
theorem power_s {k n : Int} {w : World} {Q : Ending → World → Prop} (h0 : 0 ≤ k) (h4 : k ≤ 4) (hn0 : 0 ≤ n) (hn : n ≤ 11) (hQ : Q (.returned (.int .i64 (Nums.pw k n))) w) :
    Calls Try.prog 58 #[.int .i64 k, .int .i64 n] w Q := by
  have H := Lib.hid hQ; clear hQ
  go_enter Try.func58, Try.ntmps58
  go_wp2
  go_loopg [5, 6] n.toNat (fun g o i wr => Hid (wr = w) ∧ ∃ (x : Int) (j : Nat), o = .int .i64 x ∧ i = .int .i64 j ∧ Hid (x = Nums.powTo k j) ∧ (j : Int) + g ≤ n ∧ n ≤ (j : Int) + g)
  case atStart => exact ⟨Lib.hid rfl, 1, 0, rfl, rfl, Lib.hid rfl, by omega, by omega⟩
  case round =>
    obtain ⟨hw, x, j, rfl, rfl, hx, hk1, hk2⟩ := hrel
    obtain rfl := hw.out
    clear hw
    by_cases hj : (j : Int) < n
    · have hb : 0 ≤ x * k ∧ x * k ≤ 4194304 := by
        have := Nums.powTo_bd h0 h4 (j := j + 1) (by omega)
        rw [hx.out]; exact this
      obtain ⟨hb1, hb2⟩ := hb
      go_wp2
      go_roundg (gk - 1)
      case measure => omega
      case rel => exact ⟨Lib.hid rfl, x * k, j + 1, by go_num, by go_num, Lib.hid (by rw [hx.out]; rfl), by omega, by omega⟩
    · go_wp2
      refine intq H.out ?_
      rw [hx.out, Nums.pw, show n.toNat = j from by omega]
set_option maxHeartbeats 400000 in
theorem isLength_i {n : Int} {w : World} {Q : Ending → World → Prop} (hQ : Q (.returned (.bool (decide (1 ≤ n ∧ n ≤ 10)))) w) :
    Calls Try.prog 60 #[.int .i64 n] w Q := by
  have H := Lib.hid hQ; clear hQ
  go_enter Try.func60, Try.ntmps60
  go_wp2
  all_goals (refine boolq H.out ?_; simp; try omega)
set_option maxHeartbeats 400000 in
theorem isColors_i {n : Int} {w : World} {Q : Ending → World → Prop} (hQ : Q (.returned (.bool (decide (1 ≤ n ∧ n ≤ 4)))) w) :
    Calls Try.prog 52 #[.int .i64 n] w Q := by
  have H := Lib.hid hQ; clear hQ
  go_enter Try.func52, Try.ntmps52
  go_wp2
  all_goals (refine boolq H.out ?_; simp; try omega)
set_option maxHeartbeats 800000 in
theorem divided_tot {n k : Int} {w : World} {Q : Ending → World → Prop} (h1 : 1 ≤ n) (h2 : n ≤ 10) (h3 : 1 ≤ k) (h4 : k ≤ 4) (hQ : ∀ w', Drawn w w' → Q (.returned (.int .i64 ((Nums.dsum Nums.tot k n n.toNat).tdiv n))) w') :
    Calls Try.prog 84 #[.int .i64 n, .int .i64 k, .func (.func 86) #[] #[]] w Q := by
  have H := Lib.hid hQ; clear hQ
  go_enter Try.func84, Try.ntmps84
  go_wp2
  go_loopg [7, 8] 11 (fun g s d wr => Drawn w wr ∧ ∃ (t : Int) (j : Nat), s = .int .i64 t ∧ d = .int .i64 ((j : Int) + 1) ∧ Hid (t = Nums.dsum Nums.tot k n j) ∧ (j : Int) ≤ n ∧ (j : Int) + g ≤ 11 ∧ 11 ≤ (j : Int) + g)
  case atStart => exact ⟨Drawn.refl w, 0, 0, rfl, rfl, Lib.hid rfl, by omega, by omega, by omega⟩
  case round =>
    obtain ⟨hw, t, j, rfl, rfl, ht, hjn, hk1, hk2⟩ := hrel
    have htb : -(4194304000 * (j : Int)) ≤ t ∧ t ≤ 4194304000 * (j : Int) := by rw [ht.out]; exact Nums.dsum_bd Nums.tot_bd' (by omega) (by omega) (by omega) (by omega) j
    obtain ⟨htb1, htb2⟩ := htb
    by_cases hj : (j : Int) + 1 ≤ n
    · obtain ⟨e, he⟩ : ∃ e : Int, e = n / ((j : Int) + 1) := ⟨_, rfl⟩
      have he0 : 0 ≤ n / ((j : Int) + 1) := Int.ediv_nonneg (by omega) (by omega)
      have he1 : n / ((j : Int) + 1) ≤ n := Int.ediv_le_self _ (by omega)
      have es : Hid (Nums.dsum Nums.tot k n (j + 1) = Nums.dsum Nums.tot k n j + if n % ((j : Int) + 1) = 0 then Nums.tot ((j : Int) + 1) * Nums.pw k (n / ((j : Int) + 1)) else 0) := Lib.hid rfl
      have hp := Nums.pw_bd (k := k) (n := n / ((j : Int) + 1)) (by omega) (by omega) (by omega)
      have hm := Nums.mul_bd (Nums.tot_bd' ((j : Int) + 1)).1 (Nums.tot_bd' ((j : Int) + 1)).2 hp.1 hp.2
      obtain ⟨hm1, hm2⟩ := hm
      clear he hp
      by_cases hz : n % ((j : Int) + 1) = 0
      · have hz' : (n % ((j : Int) + 1) == 0) = true := by rw [hz]; rfl
        have es' : Hid (Nums.dsum Nums.tot k n (j + 1) = Nums.dsum Nums.tot k n j + Nums.tot ((j : Int) + 1) * Nums.pw k (n / ((j : Int) + 1))) := Lib.hid (by rw [es.out, if_pos hz])
        clear hz es
        go_wp2_with fail
        go_quiet (first | (go_at_call 86; exact quiet_c (Totient_i (fun _ h => ⟨rfl, h⟩))) | (go_at_call 91; exact quiet_c (power_i (by omega) (by omega) (by omega) (by omega) ⟨rfl, Drawn.refl _⟩)))
        go_wp2
        go_roundg (gk - 1)
        case measure => omega
        case rel => exact ⟨hw.next nq, _, j + 1, rfl, by go_num, Lib.hid (by rw [es'.out, ht.out]), by omega, by omega, by omega⟩
      · have hz' : (n % ((j : Int) + 1) == 0) = false := beq_eq_false_iff_ne.2 hz
        have es' : Hid (Nums.dsum Nums.tot k n (j + 1) = Nums.dsum Nums.tot k n j) := Lib.hid (by rw [es.out, if_neg hz]; omega)
        clear hz es
        go_wp2
        go_roundg (gk - 1)
        case measure => omega
        case rel => exact ⟨hw, t, j + 1, rfl, by go_num, Lib.hid (by rw [es'.out, ht.out]), by omega, by omega, by omega⟩
    · obtain rfl : n = j := by omega
      go_wp2
      refine intq (H.out _ hw) ?_
      rw [ht.out, Int.toNat_natCast]
set_option maxHeartbeats 800000 in
theorem divided_mob {n k : Int} {w : World} {Q : Ending → World → Prop} (h1 : 1 ≤ n) (h2 : n ≤ 10) (h3 : 1 ≤ k) (h4 : k ≤ 4) (hQ : ∀ w', Drawn w w' → Q (.returned (.int .i64 ((Nums.dsum Nums.mob k n n.toNat).tdiv n))) w') :
    Calls Try.prog 84 #[.int .i64 n, .int .i64 k, .func (.func 85) #[] #[]] w Q := by
  have H := Lib.hid hQ; clear hQ
  go_enter Try.func84, Try.ntmps84
  go_wp2
  go_loopg [7, 8] 11 (fun g s d wr => Drawn w wr ∧ ∃ (t : Int) (j : Nat), s = .int .i64 t ∧ d = .int .i64 ((j : Int) + 1) ∧ Hid (t = Nums.dsum Nums.mob k n j) ∧ (j : Int) ≤ n ∧ (j : Int) + g ≤ 11 ∧ 11 ≤ (j : Int) + g)
  case atStart => exact ⟨Drawn.refl w, 0, 0, rfl, rfl, Lib.hid rfl, by omega, by omega, by omega⟩
  case round =>
    obtain ⟨hw, t, j, rfl, rfl, ht, hjn, hk1, hk2⟩ := hrel
    have htb : -(4194304000 * (j : Int)) ≤ t ∧ t ≤ 4194304000 * (j : Int) := by rw [ht.out]; exact Nums.dsum_bd Nums.mob_bd' (by omega) (by omega) (by omega) (by omega) j
    obtain ⟨htb1, htb2⟩ := htb
    by_cases hj : (j : Int) + 1 ≤ n
    · obtain ⟨e, he⟩ : ∃ e : Int, e = n / ((j : Int) + 1) := ⟨_, rfl⟩
      have he0 : 0 ≤ n / ((j : Int) + 1) := Int.ediv_nonneg (by omega) (by omega)
      have he1 : n / ((j : Int) + 1) ≤ n := Int.ediv_le_self _ (by omega)
      have es : Hid (Nums.dsum Nums.mob k n (j + 1) = Nums.dsum Nums.mob k n j + if n % ((j : Int) + 1) = 0 then Nums.mob ((j : Int) + 1) * Nums.pw k (n / ((j : Int) + 1)) else 0) := Lib.hid rfl
      have hp := Nums.pw_bd (k := k) (n := n / ((j : Int) + 1)) (by omega) (by omega) (by omega)
      have hm := Nums.mul_bd (Nums.mob_bd' ((j : Int) + 1)).1 (Nums.mob_bd' ((j : Int) + 1)).2 hp.1 hp.2
      obtain ⟨hm1, hm2⟩ := hm
      clear he hp
      by_cases hz : n % ((j : Int) + 1) = 0
      · have hz' : (n % ((j : Int) + 1) == 0) = true := by rw [hz]; rfl
        have es' : Hid (Nums.dsum Nums.mob k n (j + 1) = Nums.dsum Nums.mob k n j + Nums.mob ((j : Int) + 1) * Nums.pw k (n / ((j : Int) + 1))) := Lib.hid (by rw [es.out, if_pos hz])
        clear hz es
        go_wp2_with fail
        go_quiet (first | (go_at_call 85; exact quiet_c (Mobius_i ⟨rfl, Drawn.refl _⟩)) | (go_at_call 91; exact quiet_c (power_i (by omega) (by omega) (by omega) (by omega) ⟨rfl, Drawn.refl _⟩)))
        go_wp2
        go_roundg (gk - 1)
        case measure => omega
        case rel => exact ⟨hw.next nq, _, j + 1, rfl, by go_num, Lib.hid (by rw [es'.out, ht.out]), by omega, by omega, by omega⟩
      · have hz' : (n % ((j : Int) + 1) == 0) = false := beq_eq_false_iff_ne.2 hz
        have es' : Hid (Nums.dsum Nums.mob k n (j + 1) = Nums.dsum Nums.mob k n j) := Lib.hid (by rw [es.out, if_neg hz]; omega)
        clear hz es
        go_wp2
        go_roundg (gk - 1)
        case measure => omega
        case rel => exact ⟨hw, t, j + 1, rfl, by go_num, Lib.hid (by rw [es'.out, ht.out]), by omega, by omega, by omega⟩
    · obtain rfl : n = j := by omega
      go_wp2
      refine intq (H.out _ hw) ?_
      rw [ht.out, Int.toNat_natCast]
set_option maxHeartbeats 800000 in
theorem CountNecklaces_i {n k : Int} {w : World} {Q : Ending → World → Prop} (hQ : ∀ w', Drawn w w' → Q (.returned (.int .i64 (Nums.neck n k))) w') :
    Calls Try.prog 46 #[.int .i64 n, .int .i64 k] w Q := by
  have H := Lib.hid hQ; clear hQ
  by_cases hr : Nums.fits n k
  · have e : Hid (Nums.neck n k = (Nums.dsum Nums.tot k n n.toNat).tdiv n) := Lib.hid (by unfold Nums.neck; rw [if_pos hr])
    obtain ⟨h1, h2, h3, h4⟩ := hr
    go_enter Try.func46, Try.ntmps46
    go_wp2_with (first | (go_at_call 60; refine isLength_i ?_) | (go_at_call 52; refine isColors_i ?_) | (go_at_call 84; refine divided_tot h1 h2 h3 h4 ?_; intro w2 hd2))
    exact intq (H.out _ hd2) e.out
  · have e : Hid (Nums.neck n k = -1) := Lib.hid (by unfold Nums.neck; rw [if_neg hr])
    unfold Nums.fits at hr
    by_cases hn : 1 ≤ n ∧ n ≤ 10
    · have hk : decide (1 ≤ k ∧ k ≤ 4) = false := decide_eq_false (by omega)
      obtain ⟨hn1, hn2⟩ := hn
      clear hr
      go_enter Try.func46, Try.ntmps46
      go_wp2_with (first | (go_at_call 60; refine isLength_i ?_) | (go_at_call 52; refine isColors_i ?_))
      exact intq (H.out _ (Drawn.refl w)) e.out
    · have hk : decide (1 ≤ n ∧ n ≤ 10) = false := decide_eq_false hn
      clear hr hn
      go_enter Try.func46, Try.ntmps46
      go_wp2_with (first | (go_at_call 60; refine isLength_i ?_) | (go_at_call 52; refine isColors_i ?_))
      exact intq (H.out _ (Drawn.refl w)) e.out
set_option maxHeartbeats 800000 in
theorem CountLyndon_i {n k : Int} {w : World} {Q : Ending → World → Prop} (hQ : ∀ w', Drawn w w' → Q (.returned (.int .i64 (Nums.lynd n k))) w') :
    Calls Try.prog 45 #[.int .i64 n, .int .i64 k] w Q := by
  have H := Lib.hid hQ; clear hQ
  by_cases hr : Nums.fits n k
  · have e : Hid (Nums.lynd n k = (Nums.dsum Nums.mob k n n.toNat).tdiv n) := Lib.hid (by unfold Nums.lynd; rw [if_pos hr])
    obtain ⟨h1, h2, h3, h4⟩ := hr
    go_enter Try.func45, Try.ntmps45
    go_wp2_with (first | (go_at_call 60; refine isLength_i ?_) | (go_at_call 52; refine isColors_i ?_) | (go_at_call 84; refine divided_mob h1 h2 h3 h4 ?_; intro w2 hd2))
    exact intq (H.out _ hd2) e.out
  · have e : Hid (Nums.lynd n k = -1) := Lib.hid (by unfold Nums.lynd; rw [if_neg hr])
    unfold Nums.fits at hr
    by_cases hn : 1 ≤ n ∧ n ≤ 10
    · have hk : decide (1 ≤ k ∧ k ≤ 4) = false := decide_eq_false (by omega)
      obtain ⟨hn1, hn2⟩ := hn
      clear hr
      go_enter Try.func45, Try.ntmps45
      go_wp2_with (first | (go_at_call 60; refine isLength_i ?_) | (go_at_call 52; refine isColors_i ?_))
      exact intq (H.out _ (Drawn.refl w)) e.out
    · have hk : decide (1 ≤ n ∧ n ≤ 10) = false := decide_eq_false hn
      clear hr hn
      go_enter Try.func45, Try.ntmps45
      go_wp2_with (first | (go_at_call 60; refine isLength_i ?_) | (go_at_call 52; refine isColors_i ?_))
      exact intq (H.out _ (Drawn.refl w)) e.out
set_option maxHeartbeats 1200000 in
theorem CountNecklaces_s {n k : Int} {w : World} {Q : Ending → World → Prop} (hQ : ∀ w', Drawn w w' → Q (.returned (.int .i64 (Nums.neck n k))) w') :
    Calls Try.prog 59 #[.int .i64 n, .int .i64 k] w Q := by
  have H := Lib.hid hQ; clear hQ
  by_cases hr : Nums.fits n k
  · have e : Hid (Nums.neck n k = (Nums.dsum Nums.tot k n n.toNat).tdiv n) := Lib.hid (by unfold Nums.neck; rw [if_pos hr])
    obtain ⟨h1, h2, h3, h4⟩ := hr
    go_enter Try.func59, Try.ntmps59
    go_wp2_with (go_at_call 57; refine l01In_c ?_)
    go_loopg [5, 6] 11 (fun g s d wr => Drawn w wr ∧ ∃ (t : Int) (j : Nat), s = .int .i64 t ∧ d = .int .i64 ((j : Int) + 1) ∧ Hid (t = Nums.dsum Nums.tot k n j) ∧ (j : Int) ≤ n ∧ (j : Int) + g ≤ 11 ∧ 11 ≤ (j : Int) + g)
    case atStart => exact ⟨Drawn.refl w, 0, 0, rfl, rfl, Lib.hid rfl, by omega, by omega, by omega⟩
    case round =>
      obtain ⟨hw, t, j, rfl, rfl, ht, hjn, hk1, hk2⟩ := hrel
      have htb : -(4194304000 * (j : Int)) ≤ t ∧ t ≤ 4194304000 * (j : Int) := by rw [ht.out]; exact Nums.dsum_bd Nums.tot_bd' (by omega) (by omega) (by omega) (by omega) j
      obtain ⟨htb1, htb2⟩ := htb
      by_cases hj : (j : Int) + 1 ≤ n
      · obtain ⟨e, he⟩ : ∃ e : Int, e = n / ((j : Int) + 1) := ⟨_, rfl⟩
        have he0 : 0 ≤ n / ((j : Int) + 1) := Int.ediv_nonneg (by omega) (by omega)
        have he1 : n / ((j : Int) + 1) ≤ n := Int.ediv_le_self _ (by omega)
        have es : Hid (Nums.dsum Nums.tot k n (j + 1) = Nums.dsum Nums.tot k n j + if n % ((j : Int) + 1) = 0 then Nums.tot ((j : Int) + 1) * Nums.pw k (n / ((j : Int) + 1)) else 0) := Lib.hid rfl
        have hp := Nums.pw_bd (k := k) (n := n / ((j : Int) + 1)) (by omega) (by omega) (by omega)
        have hm := Nums.mul_bd (Nums.tot_bd' ((j : Int) + 1)).1 (Nums.tot_bd' ((j : Int) + 1)).2 hp.1 hp.2
        obtain ⟨hm1, hm2⟩ := hm
        clear he hp
        by_cases hz : n % ((j : Int) + 1) = 0
        · have hz' : (n % ((j : Int) + 1) == 0) = true := by rw [hz]; rfl
          have es' : Hid (Nums.dsum Nums.tot k n (j + 1) = Nums.dsum Nums.tot k n j + Nums.tot ((j : Int) + 1) * Nums.pw k (n / ((j : Int) + 1))) := Lib.hid (by rw [es.out, if_pos hz])
          clear hz es
          go_wp2_with fail
          go_quiet (first | (go_at_call 90; exact quiet_c (Totient_s ⟨rfl, Drawn.refl _⟩)) | (go_at_call 58; exact quiet_c (power_s (by omega) (by omega) (by omega) (by omega) ⟨rfl, Drawn.refl _⟩)))
          go_wp2
          go_roundg (gk - 1)
          case measure => omega
          case rel => exact ⟨hw.next nq, _, j + 1, rfl, by go_num, Lib.hid (by rw [es'.out, ht.out]), by omega, by omega, by omega⟩
        · have hz' : (n % ((j : Int) + 1) == 0) = false := beq_eq_false_iff_ne.2 hz
          have es' : Hid (Nums.dsum Nums.tot k n (j + 1) = Nums.dsum Nums.tot k n j) := Lib.hid (by rw [es.out, if_neg hz]; omega)
          clear hz es
          go_wp2
          go_roundg (gk - 1)
          case measure => omega
          case rel => exact ⟨hw, t, j + 1, rfl, by go_num, Lib.hid (by rw [es'.out, ht.out]), by omega, by omega, by omega⟩
      · obtain rfl : n = j := by omega
        go_wp2
        refine intq (H.out _ hw) ?_
        rw [e.out, ht.out, Int.toNat_natCast]

  · have e : Hid (Nums.neck n k = -1) := Lib.hid (by unfold Nums.neck; rw [if_neg hr])
    unfold Nums.fits at hr
    by_cases hn : 1 ≤ n ∧ n ≤ 10
    · have hk : decide (1 ≤ k ∧ k ≤ 4) = false := decide_eq_false (by omega)
      obtain ⟨hn1, hn2⟩ := hn
      clear hr
      go_enter Try.func59, Try.ntmps59
      go_wp2_with (go_at_call 57; refine l01In_c ?_)
      exact intq (H.out _ (Drawn.refl w)) e.out
    · have hk : decide (1 ≤ n ∧ n ≤ 10) = false := decide_eq_false hn
      clear hr hn
      go_enter Try.func59, Try.ntmps59
      go_wp2_with (go_at_call 57; refine l01In_c ?_)
      exact intq (H.out _ (Drawn.refl w)) e.out
end Go.Proofs.Ytmlmpneikhdgcaa
