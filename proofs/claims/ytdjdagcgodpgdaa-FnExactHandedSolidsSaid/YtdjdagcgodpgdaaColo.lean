/-
  How many colorings a group leaves apart: both sides (printed by mk/mkcolo.py).
-/
import Derived.Test.YtdjdagcgodpgdaaCyc
import Derived.Test.YtdjdagcgodpgdaaGrp2
import Derived.Test.YtdjdagcgodpgdaaInts
set_option linter.unusedVariables false
namespace Go.Proofs.Ytdjdagcgodpgdaa
open Go.RowKit

def Perms.sumTo (g : List (List Int)) (k : Int) : Nat → Int
  | 0 => 0
  | j + 1 => Perms.sumTo g k j + Nums.pw k (Perms.cycles (g.getD j [])).length
def Perms.colO (g : List (List Int)) (k : Int) : Int := if Perms.grpB g = true ∧ 0 ≤ k ∧ k ≤ 4 then Perms.sumTo g k g.length / g.length else -1
theorem Perms.cycles_len (p : List Int) : (Perms.cycles p).length ≤ 10 := by
  unfold Perms.cycles
  by_cases h : Perms.permB p = true
  · rw [if_pos h]
    have := Perms.cycTo_len p p.length
    have := Perms.permB_len h
    omega
  · rw [if_neg h]; simp
theorem Perms.sum_bd (g : List (List Int)) {k : Int} (h0 : 0 ≤ k) (h4 : k ≤ 4) : ∀ j : Nat, 0 ≤ Perms.sumTo g k j ∧ Perms.sumTo g k j ≤ 1048576 * j
  | 0 => by simp [Perms.sumTo]
  | j + 1 => by
    have ih := Perms.sum_bd g h0 h4 j
    have hc := Perms.cycles_len (g.getD j [])
    have h1 := Nums.powTo_bd4 h0 h4 (Perms.cycles (g.getD j [])).length
    have h2 : 4 ^ (Perms.cycles (g.getD j [])).length ≤ 4 ^ 10 := Nat.pow_le_pow_right (by omega) hc
    have h3 : Nums.pw k (Perms.cycles (g.getD j [])).length = Nums.powTo k (Perms.cycles (g.getD j [])).length := by unfold Nums.pw; rw [Int.toNat_natCast]
    unfold Perms.sumTo
    rw [h3]
    omega
theorem CountCycles_s {vp : Value} {p : List Int} {w : World} {Q : Ending → World → Prop} (hp : IntsAt w vp p)
    (hQ : ∀ w', Below w.heap.size w w' → Q (.returned (.int .i64 (Perms.cycles p).length)) w') :
    Calls Try.prog 69 #[vp] w Q := by
  have H := Lib.hid hQ; clear hQ
  have hp0 := Lib.hid hp
  obtain ⟨ap, cp, rfl, lp, lcp, ccp⟩ := hp.form
  clear hp
  go_enter Try.func69, Try.ntmps69
  go_wp2_with fail
  refine CyclesOf_s hp0.out ?_
  intro v1 w1 o1 b1
  have h3 := Lib.hid (H.out w1 b1)
  obtain ⟨a1, c1, rfl, _, _, _⟩ := o1.form
  go_wp2_with fail
  exact h3.out
set_option maxHeartbeats 1600000 in
theorem CountColorings_s {vg : Value} {g : List (List Int)} {k : Int} {w : World} {Q : Ending → World → Prop} (hg : RowsAt w vg g)
    (hQ : ∀ w', Below w.heap.size w w' → Q (.returned (.int .i64 (Perms.colO g k))) w') :
    Calls Try.prog 39 #[vg, .int .i64 k] w Q := by
  have H := Lib.hid hQ; clear hQ
  have hg0 := Lib.hid hg
  obtain ⟨ag, cg, rfl, lg, lcg, ccg⟩ := hg.form
  clear hg
  by_cases hok : Perms.grpB g = true ∧ 0 ≤ k ∧ k ≤ 4
  rotate_left
  · have hc : Perms.colO g k = -1 := by unfold Perms.colO; rw [if_neg hok]
    rw [hc] at H
    have hk : Hid (Perms.grpB g = true → ¬ (0 ≤ k ∧ k ≤ 4)) := Lib.hid (fun a b => hok ⟨a, b⟩)
    clear hok hc
    go_enter Try.func39, Try.ntmps39
    go_wp2_with fail
    refine GroupOk_s hg0.out ?_
    intro w1 b1
    have h3 := Lib.hid (H.out w1 b1)
    cases hb : Perms.grpB g with
    | false =>
      clear hb
      go_wp2_with fail
      exact h3.out
    | true =>
      have hk2 := hk.out hb
      clear hb
      go_wp2_with (go_at_call 51; refine l01In_c ?_; rw [decide_eq_false hk2])
      exact h3.out
  obtain ⟨hgr, hk0, hk4⟩ := hok
  have hc : Hid (Perms.colO g k = Perms.sumTo g k g.length / g.length) := Lib.hid (by unfold Perms.colO; rw [if_pos ⟨hgr, hk0, hk4⟩])
  obtain ⟨hl1, hl2, _, _⟩ := Perms.grpB_parts hgr
  have hgr' := Lib.hid hgr
  clear hgr
  go_enter Try.func39, Try.ntmps39
  go_wp2_with fail
  refine GroupOk_s hg0.out ?_
  intro w1 b1
  rw [hgr'.out]
  have hk2 : 0 ≤ k ∧ k ≤ 4 := ⟨hk0, hk4⟩
  go_wp2_with (go_at_call 51; refine l01In_c ?_; rw [decide_eq_true hk2])
  go_loopg [5, 18] g.length (fun gg u5 u18 wr => ∃ (j : Nat), u18 = .int .i64 j ∧ u5 = .int .i64 (Perms.sumTo g k j) ∧ Below w.heap.size w wr ∧ j + gg ≤ g.length ∧ g.length ≤ j + gg)
  case atStart => exact ⟨0, rfl, rfl, b1, by omega, by omega⟩
  case round =>
    obtain ⟨j, rfl, rfl, bj, hj1, hj2⟩ := hrel
    have hsb := Perms.sum_bd g hk0 hk4 j
    by_cases hj : j < g.length
    · have hjI : (j : Int) < g.length := by omega
      obtain ⟨b7, f7, u, x, e7, hx, hcx, hux⟩ := (hg0.out.below bj).cell hj
      cases e7
      obtain ⟨ax, cx, rfl, _, _, _⟩ := hux.form
      have hux' := Lib.hid hux
      have hcl := Perms.cycles_len x
      have hsb2 := Perms.sum_bd g hk0 hk4 (j + 1)
      have hst : Perms.sumTo g k (j + 1) = Perms.sumTo g k j + Nums.pw k (Perms.cycles x).length := by
        have e : g.getD j [] = x := by simp [List.getD, hx.out]
        show Perms.sumTo g k j + Nums.pw k (Perms.cycles (g.getD j [])).length = _
        rw [e]
      obtain ⟨P, hP⟩ : ∃ P, P = Nums.pw k (Perms.cycles x).length := ⟨_, rfl⟩
      obtain ⟨n, hn⟩ : ∃ n, n = (Perms.cycles x).length := ⟨_, rfl⟩
      rw [← hP] at hst
      rw [← hn] at hP hcl
      have hP' := Lib.hid hP
      have hn' := Lib.hid hn
      have hbd : -9223372036854775808 ≤ Perms.sumTo g k j + P ∧ Perms.sumTo g k j + P ≤ 9223372036854775807 := by omega
      have hst' := Lib.hid hst
      clear hux hP hn hst hsb2
      go_wp2_with (first
        | (refine CountCycles_s hux'.out ?_; intro w3 b3; rw [← hn'.out])
        | (go_at_call 68; refine power_s hk0 hk4 (by omega) (by omega) ?_; rw [← hP'.out]))
      have bj3 := bj.trans (b3.mono bj.size)
      go_roundg (gk - 1)
      case measure => omega
      case rel => exact ⟨j + 1, by go_num, by rw [hst'.out], bj3, by omega, by omega⟩
    · have hje : j = g.length := by omega
      subst hje
      have h3 := Lib.hid (H.out wr bj)
      rw [hc.out] at h3
      obtain ⟨T, hT⟩ : ∃ T, T = Perms.sumTo g k g.length := ⟨_, rfl⟩
      rw [← hT] at h3 hsb ⊢
      clear hT hc
      have hq0 : 0 ≤ T / (g.length : Int) := Int.ediv_nonneg hsb.1 (by omega)
      have hq1 : T / (g.length : Int) ≤ T := Int.ediv_le_self _ hsb.1
      have hgz : ((g.length : Int) == 0) = false := by rw [beq_eq_false_iff_ne]; omega
      have hgm : ((g.length : Int) == -1) = false := by rw [beq_eq_false_iff_ne]; omega
      go_wp2_with fail
      exact h3.out
theorem CountCycles_i {vp : Value} {p : List Int} {w : World} {Q : Ending → World → Prop} (hp : IntsAt w vp p)
    (hQ : ∀ w', Below w.heap.size w w' → Q (.returned (.int .i64 (Perms.cycles p).length)) w') :
    Calls Try.prog 71 #[vp] w Q := by
  have H := Lib.hid hQ; clear hQ
  have hp0 := Lib.hid hp
  obtain ⟨ap, cp, rfl, lp, lcp, ccp⟩ := hp.form
  clear hp
  go_enter Try.func71, Try.ntmps71
  go_wp2_with fail
  refine CyclesOf_i hp0.out ?_
  intro v1 w1 o1 b1
  have h3 := Lib.hid (H.out w1 b1)
  obtain ⟨a1, c1, rfl, _, _, _⟩ := o1.form
  go_wp2_with fail
  exact h3.out
set_option maxHeartbeats 1600000 in
theorem CountColorings_i {vg : Value} {g : List (List Int)} {k : Int} {w : World} {Q : Ending → World → Prop} (hg : RowsAt w vg g)
    (hQ : ∀ w', Below w.heap.size w w' → Q (.returned (.int .i64 (Perms.colO g k))) w') :
    Calls Try.prog 40 #[vg, .int .i64 k] w Q := by
  have H := Lib.hid hQ; clear hQ
  have hg0 := Lib.hid hg
  obtain ⟨ag, cg, rfl, lg, lcg, ccg⟩ := hg.form
  clear hg
  by_cases hok : Perms.grpB g = true ∧ 0 ≤ k ∧ k ≤ 4
  rotate_left
  · have hc : Perms.colO g k = -1 := by unfold Perms.colO; rw [if_neg hok]
    rw [hc] at H
    have hk : Hid (Perms.grpB g = true → ¬ (0 ≤ k ∧ k ≤ 4)) := Lib.hid (fun a b => hok ⟨a, b⟩)
    clear hok hc
    go_enter Try.func40, Try.ntmps40
    go_wp2_with fail
    refine GroupOk_i hg0.out ?_
    intro w1 b1
    have h3 := Lib.hid (H.out w1 b1)
    cases hb : Perms.grpB g with
    | false =>
      clear hb
      go_wp2_with fail
      exact h3.out
    | true =>
      have hk2 := hk.out hb
      clear hb
      rcases Int.lt_or_le k 0 with hk3 | hk3
      · go_wp2_with fail
        exact h3.out
      · have hk4 : 4 < k := by omega
        go_wp2_with fail
        exact h3.out
  obtain ⟨hgr, hk0, hk4⟩ := hok
  have hc : Hid (Perms.colO g k = Perms.sumTo g k g.length / g.length) := Lib.hid (by unfold Perms.colO; rw [if_pos ⟨hgr, hk0, hk4⟩])
  obtain ⟨hl1, hl2, _, _⟩ := Perms.grpB_parts hgr
  have hgr' := Lib.hid hgr
  clear hgr
  go_enter Try.func40, Try.ntmps40
  go_wp2_with fail
  refine GroupOk_i hg0.out ?_
  intro w1 b1
  rw [hgr'.out]
  go_wp2_with fail
  go_loopg [5, 21] g.length (fun gg u5 u21 wr => ∃ (j : Nat), u21 = .int .i64 j ∧ u5 = .int .i64 (Perms.sumTo g k j) ∧ Below w.heap.size w wr ∧ j + gg ≤ g.length ∧ g.length ≤ j + gg)
  case atStart => exact ⟨0, rfl, rfl, b1, by omega, by omega⟩
  case round =>
    obtain ⟨j, rfl, rfl, bj, hj1, hj2⟩ := hrel
    have hsb := Perms.sum_bd g hk0 hk4 j
    by_cases hj : j < g.length
    · have hjI : (j : Int) < g.length := by omega
      obtain ⟨b7, f7, u, x, e7, hx, hcx, hux⟩ := (hg0.out.below bj).cell hj
      cases e7
      obtain ⟨ax, cx, rfl, _, _, _⟩ := hux.form
      have hux' := Lib.hid hux
      have hcl := Perms.cycles_len x
      have hsb2 := Perms.sum_bd g hk0 hk4 (j + 1)
      have hst : Perms.sumTo g k (j + 1) = Perms.sumTo g k j + Nums.pw k (Perms.cycles x).length := by
        have e : g.getD j [] = x := by simp [List.getD, hx.out]
        show Perms.sumTo g k j + Nums.pw k (Perms.cycles (g.getD j [])).length = _
        rw [e]
      obtain ⟨P, hP⟩ : ∃ P, P = Nums.pw k (Perms.cycles x).length := ⟨_, rfl⟩
      obtain ⟨n, hn⟩ : ∃ n, n = (Perms.cycles x).length := ⟨_, rfl⟩
      rw [← hP] at hst
      rw [← hn] at hP hcl
      have hP' := Lib.hid hP
      have hn' := Lib.hid hn
      have hbd : -9223372036854775808 ≤ Perms.sumTo g k j + P ∧ Perms.sumTo g k j + P ≤ 9223372036854775807 := by omega
      have hst' := Lib.hid hst
      clear hux hP hn hst hsb2
      go_wp2_with (first
        | (refine CountCycles_i hux'.out ?_; intro w3 b3; rw [← hn'.out])
        | (go_at_call 70; refine power_i hk0 hk4 (by omega) (by omega) ?_; rw [← hP'.out]))
      have bj3 := bj.trans (b3.mono bj.size)
      go_roundg (gk - 1)
      case measure => omega
      case rel => exact ⟨j + 1, by go_num, by rw [hst'.out], bj3, by omega, by omega⟩
    · have hje : j = g.length := by omega
      subst hje
      have h3 := Lib.hid (H.out wr bj)
      rw [hc.out] at h3
      obtain ⟨T, hT⟩ : ∃ T, T = Perms.sumTo g k g.length := ⟨_, rfl⟩
      rw [← hT] at h3 hsb ⊢
      clear hT hc
      have hq0 : 0 ≤ T / (g.length : Int) := Int.ediv_nonneg hsb.1 (by omega)
      have hq1 : T / (g.length : Int) ≤ T := Int.ediv_le_self _ hsb.1
      have hgz : ((g.length : Int) == 0) = false := by rw [beq_eq_false_iff_ne]; omega
      have hgm : ((g.length : Int) == -1) = false := by rw [beq_eq_false_iff_ne]; omega
      go_wp2_with fail
      exact h3.out
end Go.Proofs.Ytdjdagcgodpgdaa
