/-
  What the program's functions on integers compute: each function's contract, whatever follows the call (Q).
-/
import Derived.Test.YtdjdagcgodpgdaaGreatRows
import Derived.Test.YtdjdagcgodpgdaaGreatNums
import Derived.Test.YtdjdagcgodpgdaaGreatDrawn
import Derived.WalkKit
import Derived.WalkSpells
import Derived.WalkLawsBesides
import Derived.Deep.LoopGhost
import Derived.Lib.Hide
import Derived.Deep.QuietTactic
import Derived.BigQuiet
namespace Go.Proofs.YtdjdagcgodpgdaaGreat
open Go.RowKit

theorem boolq {Q : Ending → World → Prop} {b b' : Bool} {w : World} (h : Q (.returned (.bool b)) w) (e : b = true ↔ b' = true) : Q (.returned (.bool b')) w := by
  rw [← Bool.eq_iff_iff.2 e]; exact h
theorem intq {Q : Ending → World → Prop} {n n' : Int} {k : IntKind} {w : World} (h : Q (.returned (.int k n)) w) (e : n = n') : Q (.returned (.int k n')) w := by
  rw [← e]; exact h

set_option maxHeartbeats 400000 in
theorem l01In_c {n lo hi : Int} {w : World} {Q : Ending → World → Prop} (hQ : Q (.returned (.bool (decide (lo ≤ n ∧ n ≤ hi)))) w) :
    Calls Tryz.prog 29 #[.int .i64 n, .int .i64 lo, .int .i64 hi] w Q := by
  have H := Lib.hid hQ; clear hQ
  go_enter Tryz.func29, Tryz.ntmps29
  go_wp2
  all_goals (refine boolq H.out ?_; simp; omega)

set_option maxHeartbeats 400000 in
theorem SolidDegree_i {a : Int} {w : World} {Q : Ending → World → Prop} (hQ : Q (.returned (.int .i64 (Nums.sdeg a))) w) :
    Calls Tryz.prog 38 #[.int .i64 a] w Q := by
  have H := Lib.hid hQ; clear hQ
  go_enter Tryz.func38, Tryz.ntmps38
  go_wp2
  all_goals go_tidy
  all_goals (refine intq H.out ?_; simp_all [Nums.sdeg])
set_option maxHeartbeats 400000 in
theorem SolidDegree_s {a : Int} {w : World} {Q : Ending → World → Prop} (hQ : Q (.returned (.int .i64 (Nums.sdeg a))) w) :
    Calls Tryz.prog 25 #[.int .i64 a] w Q := by
  have H := Lib.hid hQ; clear hQ
  go_enter Tryz.func25, Tryz.ntmps25
  go_wp2
  all_goals go_tidy
  all_goals (refine intq H.out ?_; simp_all [Nums.sdeg])
set_option maxHeartbeats 400000 in
theorem power_i {k n : Int} {w : World} {Q : Ending → World → Prop} (h0 : 0 ≤ k) (h4 : k ≤ 4) (hn0 : 0 ≤ n) (hn : n ≤ 11) (hQ : Q (.returned (.int .i64 (Nums.pw k n))) w) :
    Calls Tryz.prog 74 #[.int .i64 k, .int .i64 n] w Q := by
  have H := Lib.hid hQ; clear hQ
  go_enter Tryz.func74, Tryz.ntmps74
  go_wp2
  go_loopg [5, 7] n.toNat (fun g o i wr => Hid (wr = w) ∧ ∃ (x : Int) (j : Nat), o = .int .i64 x ∧ i = .int .i64 j ∧ Hid (x = Nums.powTo k j) ∧ (j : Int) + g ≤ n ∧ n ≤ (j : Int) + g)
  case atStart => exact ⟨Lib.hid rfl, 1, 0, rfl, rfl, Lib.hid rfl, by omega, by omega⟩
  case round =>
    obtain ⟨hw, x, j, rfl, rfl, hx, hk1, hk2⟩ := hrel
    obtain rfl := hw.out
    clear hw
    by_cases hj : (j : Int) < n
    · have hb : 0 ≤ x * k ∧ x * k ≤ 4194304 := by
        have := Nums.powTo_bd h0 h4 (j := j + 1) (by omega)
        rw [hx.out]; exact this
      obtain ⟨hb1, hb2⟩ := hb
      go_wp2
      go_roundg (gk - 1)
      case measure => omega
      case rel => exact ⟨Lib.hid rfl, x * k, j + 1, by go_num, by go_num, Lib.hid (by rw [hx.out]; rfl), by omega, by omega⟩
    · go_wp2
      refine intq H.out ?_
      rw [hx.out, Nums.pw, show n.toNat = j from by omega]
set_option maxHeartbeats 400000 in
theorem power_s {k n : Int} {w : World} {Q : Ending → World → Prop} (h0 : 0 ≤ k) (h4 : k ≤ 4) (hn0 : 0 ≤ n) (hn : n ≤ 11) (hQ : Q (.returned (.int .i64 (Nums.pw k n))) w) :
    Calls Tryz.prog 30 #[.int .i64 k, .int .i64 n] w Q := by
  have H := Lib.hid hQ; clear hQ
  go_enter Tryz.func30, Tryz.ntmps30
  go_wp2
  go_loopg [5, 6] n.toNat (fun g o i wr => Hid (wr = w) ∧ ∃ (x : Int) (j : Nat), o = .int .i64 x ∧ i = .int .i64 j ∧ Hid (x = Nums.powTo k j) ∧ (j : Int) + g ≤ n ∧ n ≤ (j : Int) + g)
  case atStart => exact ⟨Lib.hid rfl, 1, 0, rfl, rfl, Lib.hid rfl, by omega, by omega⟩
  case round =>
    obtain ⟨hw, x, j, rfl, rfl, hx, hk1, hk2⟩ := hrel
    obtain rfl := hw.out
    clear hw
    by_cases hj : (j : Int) < n
    · have hb : 0 ≤ x * k ∧ x * k ≤ 4194304 := by
        have := Nums.powTo_bd h0 h4 (j := j + 1) (by omega)
        rw [hx.out]; exact this
      obtain ⟨hb1, hb2⟩ := hb
      go_wp2
      go_roundg (gk - 1)
      case measure => omega
      case rel => exact ⟨Lib.hid rfl, x * k, j + 1, by go_num, by go_num, Lib.hid (by rw [hx.out]; rfl), by omega, by omega⟩
    · go_wp2
      refine intq H.out ?_
      rw [hx.out, Nums.pw, show n.toNat = j from by omega]
end Go.Proofs.YtdjdagcgodpgdaaGreat
