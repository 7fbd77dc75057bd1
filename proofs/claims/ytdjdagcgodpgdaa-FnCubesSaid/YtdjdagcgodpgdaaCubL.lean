/-
  The law FnCubes: what it computes.
-/
import Derived.Test.YtdjdagcgodpgdaaOrb
import Derived.Test.YtdjdagcgodpgdaaSolI
import Derived.Test.YtdjdagcgodpgdaaCode
import Derived.Test.YtdjdagcgodpgdaaLaw
set_option linter.unusedVariables false
namespace Go.Proofs.Ytdjdagcgodpgdaa
open Go.RowKit

theorem Perms.cube_facts (m : Bool) : Perms.solB 3 m = true ∧ 1 ≤ (Perms.solW 3 m).length ∧ (Perms.solW 3 m).length ≤ 48 ∧ Perms.grpB (Perms.solW 3 m) = true ∧ (Perms.row0 (Perms.solW 3 m)).length = 6 ∧ (Perms.orbTo (Perms.solW 3 m) 6).2.length = 1 := by
  cases m <;> decide +kernel
theorem Perms.cube_orb (m : Bool) : ∀ j ∈ List.range 6, j ∉ (Perms.orbTo (Perms.solW 3 m) j).1 → 0 < (Perms.orbS (Perms.solW 3 m) j (Perms.orbTo (Perms.solW 3 m) j).1 (Perms.solW 3 m).length).2.length := by
  cases m <;> decide +kernel
theorem Perms.cube_opp (m : Bool) : ∀ p ∈ Perms.solW 3 m, p.length = 6 ∧ Perms.permB p = true ∧ ∀ i ∈ List.range 6, ∀ j ∈ List.range 6, Nums.opp (p.getD i 0) (p.getD j 0) = Nums.opp i j := by
  cases m <;> decide +kernel
theorem Nums.opp_comm : ∀ i ∈ List.range 6, ∀ j ∈ List.range 6, Nums.opp (j : Nat) (i : Nat) = Nums.opp (i : Nat) (j : Nat) := by decide +kernel
def Nums.oppTo : Nat → Nat
  | 0 => 0
  | m + 1 => Nums.oppTo m + (if Nums.opp ((m / 6 : Nat) : Int) ((m % 6 : Nat) : Int) = true then 1 else 0)
theorem Nums.oppTo_all : Nums.oppTo 36 = 6 := by decide +kernel
theorem Nums.oppTo_le : ∀ m, Nums.oppTo m ≤ m
  | 0 => Nat.le_refl _
  | m + 1 => by
    have := Nums.oppTo_le m
    unfold Nums.oppTo
    split <;> omega
set_option maxHeartbeats 3200000 in
theorem FnCubes_l {v : Value} {bs : List Int} {w : World} {Q : Ending → World → Prop} (hb : BytesAt w v bs) (hQ : ∀ w', Below w.heap.size w w' → Q (.returned (.bool true)) w') :
    Calls Try.prog 7 #[v] w Q := by
  have H := Lib.hid hQ; clear hQ
  have hb' := hb
  obtain ⟨ao, ca, rfl, la, lca, cca⟩ := hb'.form
  rw [show (bytes bs).length = bs.length from by simp [bytes]] at *
  by_cases hlen : (bs.length : Int) ≤ 1048576
  rotate_left
  · have hl2 : (1048576 : Int) < bs.length := by omega
    go_enter Try.func7, Try.ntmps7
    go_wp2_with fail
    exact H.out _ (Below.refl _ _)
  have hb0 := Lib.hid hb
  clear hb hb'
  go_enter Try.func7, Try.ntmps7
  go_wp2_with fail
  refine MakeNum_c hb0.out (by omega) (by omega) ?_
  intro x1 w1 hx0 hx1 b1
  have hb1 := Lib.hid (hb0.out.below b1)
  go_wp2_with fail
  obtain ⟨m, hm⟩ : ∃ m : Bool, m = (x1 % 2 == 0) := ⟨_, rfl⟩
  rw [← hm]
  clear hm hx0 hx1
  obtain ⟨f1, f2, f3, f4, f5, f6⟩ := Perms.cube_facts m
  have forb : Hid (∀ j, j < 6 → j ∉ (Perms.orbTo (Perms.solW 3 m) j).1 → 0 < (Perms.orbS (Perms.solW 3 m) j (Perms.orbTo (Perms.solW 3 m) j).1 (Perms.solW 3 m).length).2.length) := Lib.hid (fun j hj => Perms.cube_orb m j (List.mem_range.2 hj))
  have fopp := Lib.hid (Perms.cube_opp m)
  refine SolidGroup_i ?_
  intro v2 w2 o2 b2
  rw [f1]
  obtain ⟨L, hL⟩ : ∃ L, L = Perms.solW 3 m := ⟨_, rfl⟩
  rw [← hL] at f2 f3 f4 f5 f6 forb fopp o2
  have f4' := Lib.hid f4
  have f5' := Lib.hid f5
  have f6' := Lib.hid f6
  clear hL f1 f4 f5 f6
  have o2' := Lib.hid o2.at
  obtain ⟨a2, c2, rfl, _, _, _⟩ := o2.form
  have bw2 := b1.trans (b2.mono b1.size)
  have hb2 := Lib.hid (hb1.out.below b2)
  have hL0 : ((L.length : Int) == 0) = false := by rw [beq_eq_false_iff_ne]; omega
  clear o2
  go_wp2_with fail
  refine OrbitsOf_i o2'.out f4'.out f5'.out forb.out ?_
  intro v3 w3 o3 b3
  obtain ⟨a3, c3, rfl, _, _, _⟩ := o3.form
  rw [f6'.out]
  have bw3 := bw2.trans (b3.mono bw2.size)
  have hb3 := Lib.hid (hb2.out.below b3)
  have o3' := Lib.hid (o2'.out.below b3)
  go_wp2_with fail
  refine MakeNum_c hb3.out (by omega) (by omega) ?_
  intro x4 w4 hx40 hx41 b4
  obtain ⟨q, hq⟩ : ∃ q : Nat, x4 % (L.length : Int) = (q : Int) := ⟨(x4 % (L.length : Int)).toNat, by have := Int.emod_nonneg x4 (show (L.length : Int) ≠ 0 by omega); omega⟩
  have hqL : q < L.length := by have := Int.emod_lt_of_pos x4 (show (0 : Int) < L.length by omega); omega
  have hqI : (q : Int) < L.length := by omega
  have bw4 := bw3.trans (b4.mono bw3.size)
  obtain ⟨b7, f7, u, p, e7, hp, hcp, hup⟩ := (o3'.out.below b4).cell hqL
  cases e7
  obtain ⟨ap, cp, rfl, _, _, _⟩ := hup.form
  obtain ⟨hpl, hpo, hpp⟩ := fopp.out p (List.mem_of_getElem? hp.out)
  rw [hpl] at hup hcp
  have hpo' := Lib.hid hpo
  have hup' := Lib.hid hup
  have hpp' := Lib.hid hpp
  have hpr := Lib.hid (Perms.permB_range hpo)
  have hpl' := Lib.hid hpl
  have hm : x4 % (L.length : Int) = (q : Int) := hq
  clear hpo hup hpp hpl fopp
  go_wp2_with fail
  refine PermOk_i hup'.out ?_
  intro w5 b5
  rw [hpo'.out]
  have hup5 := Lib.hid (hup'.out.below b5)
  have bw5 := bw4.trans (b5.mono bw4.size)
  go_wp2_with fail
  go_loopg [6, 7] 6 (fun gg u6 u7 wr => ∃ (i : Nat), u7 = .int .i64 i ∧ u6 = .int .i64 (Nums.oppTo (i * 6)) ∧ Below w5.heap.size w5 wr ∧ i + gg = 6)
  case atStart => exact ⟨0, rfl, rfl, Below.refl _ _, rfl⟩
  case round =>
    obtain ⟨i, rfl, rfl, bi, hi⟩ := hrel
    obtain ⟨gk1, hgk1⟩ : ∃ g, g = gk := ⟨_, rfl⟩
    by_cases hi6 : i < 6
    · have hiI : (i : Int) < 6 := by omega
      go_wp2_with fail
      go_loopg [6, 8] 6 (fun gg u6 u8 w2 => ∃ (j : Nat), u8 = .int .i64 j ∧ u6 = .int .i64 (Nums.oppTo (i * 6 + j)) ∧ Below w5.heap.size w5 w2 ∧ j + gg = 6)
      case atStart => exact ⟨0, rfl, rfl, bi, rfl⟩
      case round =>
        obtain ⟨j, rfl, rfl, bj, hj⟩ := hrel
        have hol := Nums.oppTo_le (i * 6 + j)
        by_cases hj6 : j < 6
        · have hjI : (j : Int) < 6 := by omega
          have hst : Nums.oppTo (i * 6 + (j + 1)) = Nums.oppTo (i * 6 + j) + (if Nums.opp (i : Int) (j : Int) = true then 1 else 0) := by
            have e : Nums.oppTo ((i * 6 + j) + 1) = Nums.oppTo (i * 6 + j) + (if Nums.opp (((i * 6 + j) / 6 : Nat) : Int) (((i * 6 + j) % 6 : Nat) : Int) = true then 1 else 0) := rfl
            rw [show (i * 6 + j) / 6 = i by omega, show (i * 6 + j) % 6 = j by omega] at e
            exact e
          obtain ⟨bp, op, y, rfl, hy, hcy⟩ := (hup5.out.below bj).cell (k := i) (by rw [hpl'.out]; exact hi6)
          obtain ⟨bp2, op2, z, e2, hz, hcz⟩ := (hup5.out.below bj).cell (k := j) (by rw [hpl'.out]; exact hj6)
          cases e2
          have hO1 := hpp'.out i (List.mem_range.2 hi6) j (List.mem_range.2 hj6)
          have hO2 := Nums.opp_comm i (List.mem_range.2 hi6) j (List.mem_range.2 hj6)
          rw [show p.getD i 0 = y by simp [List.getD, hy.out], show p.getD j 0 = z by simp [List.getD, hz.out]] at hO1
          have hO1' := Lib.hid hO1
          have hO2' := Lib.hid hO2
          obtain ⟨B, hB⟩ : ∃ B, B = Nums.opp (i : Int) (j : Int) := ⟨_, rfl⟩
          rw [← hB] at hst hO1' hO2'
          have hB' := Lib.hid hB
          have hst' := Lib.hid hst
          clear hO1 hO2 hB hst
          go_wp2_with (go_at_call 26; refine AreOpposite_i ?_; rw [← hB'.out])
          have hO1 := hO1'.out
          have hO2 := hO2'.out
          go_quiet ((go_at_call 26; exact quiet_c (AreOpposite_i ⟨rfl, Drawn.refl _⟩)))
          clear hO1 hO2
          cases B with
          | true =>
            have hst2 : Hid (Nums.oppTo (i * 6 + (j + 1)) = Nums.oppTo (i * 6 + j) + 1) := Lib.hid (by rw [hst'.out, if_pos rfl])
            go_wp2_with fail
            go_roundg (gk - 1)
            case measure => omega
            case rel => exact ⟨j + 1, by go_num, by rw [hst2.out]; go_num, bj.trans ((Drawn.one _ _).below _), by omega⟩
          | false =>
            have hst2 : Hid (Nums.oppTo (i * 6 + (j + 1)) = Nums.oppTo (i * 6 + j)) := Lib.hid (by rw [hst'.out, if_neg (by decide)]; omega)
            go_wp2_with fail
            go_roundg (gk - 1)
            case measure => omega
            case rel => exact ⟨j + 1, by go_num, by rw [hst2.out], bj.trans ((Drawn.one _ _).below _), by omega⟩
        · obtain rfl : j = 6 := by omega
          have e6 : Hid (i * 6 + 6 = (i + 1) * 6) := Lib.hid (by omega)
          rw [e6.out]
          go_wp2_with fail
          go_roundg (gk1 - 1)
          case measure => omega
          case rel => exact ⟨i + 1, by go_num, rfl, bj, by omega⟩
    · obtain rfl : i = 6 := by omega
      have e6 : Nums.oppTo (6 * 6) = 6 := Nums.oppTo_all
      rw [e6]
      have h3 := Lib.hid (H.out wr (bw5.trans (bi.mono bw5.size)))
      go_wp2_with fail
      exact h3.out
end Go.Proofs.Ytdjdagcgodpgdaa
