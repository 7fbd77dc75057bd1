/-
  The identity.
-/
import Derived.Test.YtdjdagcgodpgdaaGreatOrbit
import Derived.Test.YtdjdagcgodpgdaaGreatMem
import Derived.Test.YtdjdagcgodpgdaaGreatInts
set_option linter.unusedVariables false
namespace Go.Proofs.YtdjdagcgodpgdaaGreat
open Go.RowKit

theorem Perms.iota_snoc (n : Nat) : Perms.iota (n + 1) = Perms.iota n ++ [(n : Int)] := by
  unfold Perms.iota
  rw [List.range_succ, List.map_append]
  rfl
set_option maxHeartbeats 800000 in
theorem IdentityPerm_i {n : Nat} {w : World} {Q : Ending → World → Prop} (hn1 : 1 ≤ n) (hn : n ≤ 10)
    (hQ : ∀ v w', OwnInts w' w.heap.size v (Perms.iota n) → Below w.heap.size w w' → Q (.returned v) w') :
    Calls Tryz.prog 68 #[.int .i64 n] w Q := by
  have H := Lib.hid hQ; clear hQ
  have h1 : ¬ ((n : Int) < 1) := by omega
  have h2 : ¬ ((10 : Int) < n) := by omega
  go_enter Tryz.func68, Tryz.ntmps68
  go_wp2_with (at_make; refine mk_ints rfl (.tmp 11) (.tmp 11) rfl rfl rfl n rfl (by omega) ?_; intro w1 ho1 hb1 hs1)
  go_loopg [15] n (fun g u15 wr => ∃ (j : Nat), u15 = .int .i64 j ∧ OwnInts wr w.heap.size (.slice (some ⟨w.heap.size, 0, none⟩) n n) ((Perms.iota n).take j ++ List.replicate (n - j) 0) ∧ Below w.heap.size w wr ∧ j + g ≤ n ∧ n ≤ j + g)
  case atStart => exact ⟨0, rfl, by simpa using ho1, hb1, by omega, by omega⟩
  case round =>
    obtain ⟨j, rfl, ho, hbw, hm1, hm2⟩ := hrel
    have hil : (Perms.iota n).length = n := Perms.iota_len n
    by_cases hj : j < n
    · have hjI : (j : Int) < n := by omega
      have hst := fill_step (xs := Perms.iota n) (n := n) (z := (0 : Int)) hj (Perms.iota_get hj)
      obtain ⟨x, hx, hcx⟩ := OwnInts.cell ho (k := j) (by simp; omega)
      have hfr := Own.frozen ho j
      have ho2 := OwnInts.set ho j (j : Int)
      rw [hst] at ho2
      have hst' := Lib.hid hst
      have ho2' := Lib.hid ho2
      have hg2 := grown_set wr w.heap.size j (.int .i64 (j : Int))
      have hb2 := hbw.grown hg2 hbw.size (fun b hb => by cases hb; exact Nat.le_refl _)
      clear hst ho2 hil
      go_wp2_with fail
      go_roundg (gk - 1)
      case measure => omega
      case rel => exact ⟨j + 1, by go_num, ho2'.out, hb2, by omega, by omega⟩
    · rw [fill_end (by omega) (by omega)] at ho
      have h3 := Lib.hid (H.out _ _ ho hbw)
      clear hil
      go_wp2_with fail
      exact h3.out
set_option maxHeartbeats 800000 in
theorem IdentityPerm_s {n : Nat} {w : World} {Q : Ending → World → Prop} (hn1 : 1 ≤ n) (hn : n ≤ 10)
    (hQ : ∀ v w', OwnInts w' w.heap.size v (Perms.iota n) → Below w.heap.size w w' → Q (.returned v) w') :
    Calls Tryz.prog 56 #[.int .i64 n] w Q := by
  have H := Lib.hid hQ; clear hQ
  have hd : Hid (decide ((1 : Int) ≤ n ∧ (n : Int) ≤ 10) = true) := Lib.hid (decide_eq_true (by omega))
  go_enter Tryz.func56, Tryz.ntmps56
  go_wp2_with (go_at_call 29; refine l01In_c ?_; rw [hd.out])
  have o0 := own_empty w
  have b0 := below_alloc w (.cells #[] 3)
  go_loopg [3, 4] n (fun g u3 u4 wr => ∃ (j : Nat), u4 = .int .i64 j ∧ OwnInts wr w.heap.size u3 (Perms.iota j) ∧ Below w.heap.size w wr ∧ j + g ≤ n ∧ n ≤ j + g)
  case atStart => exact ⟨0, rfl, o0, b0, by omega, by omega⟩
  case round =>
    obtain ⟨j, rfl, ho, hbw, hm1, hm2⟩ := hrel
    obtain ⟨a3, c3, rfl, _, _, _⟩ := Own.form ho
    have hil : (Perms.iota j).length ≤ 10 := by rw [Perms.iota_len]; omega
    by_cases hj : j < n
    · have hjI : (j : Int) < n := by omega
      go_wp2_with (at_builtin; refine app_int rfl (.tmp 14) (.tmp 16) rfl rfl (OwnInts.below ho (below_alloc wr _)) rfl (cell_new _ _ _) (by omega) (by have := hbw.size; simp; omega) ?_; intro v2 w2 o2 g2)
      rw [← Perms.iota_snoc] at o2
      have hs2 := g2.size
      have hbs := hbw.size
      have hb2 : Below w.heap.size w w2 := (hbw.alloc hbw.size _).grown g2 (by simp; omega) (fun b hb => (Own.lt ho hb).1)
      go_roundg (gk - 1)
      case measure => omega
      case rel => exact ⟨j + 1, by go_num, o2, hb2, by omega, by omega⟩
    · obtain rfl : j = n := by omega
      have h3 := Lib.hid (H.out _ _ ho hbw)
      go_wp2_with fail
      exact h3.out
end Go.Proofs.YtdjdagcgodpgdaaGreat
