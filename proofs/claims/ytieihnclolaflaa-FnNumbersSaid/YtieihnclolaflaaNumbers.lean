/-
  The law FnNumbers: its loop over the divisors, and why its three sums are what it asks.
-/
import Derived.Test.YtieihnclolaflaaCode
import Derived.Test.YtieihnclolaflaaInts
set_option linter.unusedVariables false
namespace Go.Proofs.Ytieihnclolaflaa
open Go.RowKit

namespace Nums
/-- The sum of f over the divisors of n up to j. -/
def sumd (f : Int → Int) (n : Int) : Nat → Int
  | 0 => 0
  | j + 1 => sumd f n j + if n % ((j : Int) + 1) = 0 then f ((j : Int) + 1) else 0
theorem sumd_bd {f : Int → Int} {n M : Int} (hM : 0 ≤ M) (hf : ∀ d : Int, 1 ≤ d → -M ≤ f d ∧ f d ≤ M) : ∀ j : Nat, -(M * (j : Int)) ≤ sumd f n j ∧ sumd f n j ≤ M * (j : Int)
  | 0 => by simp [sumd]
  | j + 1 => by
    have ih := sumd_bd (n := n) hM hf j
    have h := hf ((j : Int) + 1) (by omega)
    have e : M * ((j + 1 : Nat) : Int) = M * (j : Int) + M := by rw [Int.natCast_add, Int.mul_add]; simp
    rw [e]
    simp only [sumd]
    split <;> omega
def mix (n d : Int) : Int := mob d * (n / d)
theorem mix_bd {n : Int} (h0 : 0 ≤ n) (h : n ≤ 1000) (d : Int) (hd : 1 ≤ d) : -1000 ≤ mix n d ∧ mix n d ≤ 1000 := by
  have h1 : 0 ≤ n / d := Int.ediv_nonneg h0 (by omega)
  have h2 : n / d ≤ n := Int.ediv_le_self _ h0
  have hm := mob_bd d
  unfold mix
  have a := Int.mul_le_mul_of_nonneg_right hm.1 h1
  have b := Int.mul_le_mul_of_nonneg_right hm.2 h1
  omega
def good (n : Nat) : Bool := n == 0 || (sumd tot n n == n && sumd mob n n == (if n = 1 then 1 else 0) && sumd (mix n) n n == tot n)
set_option maxRecDepth 100000 in
theorem good_all : (List.range 201).all good = true := by decide +kernel
theorem good_at {n : Int} (h1 : 1 ≤ n) (h2 : n ≤ 200) : sumd tot n n.toNat = n ∧ sumd mob n n.toNat = (if n = 1 then 1 else 0) ∧ sumd (mix n) n n.toNat = tot n := by
  obtain ⟨m, rfl⟩ := Int.eq_ofNat_of_zero_le (by omega : 0 ≤ n)
  have h := List.all_eq_true.1 good_all m (List.mem_range.2 (by omega))
  have hm : (m == 0) = false := by rw [beq_eq_false_iff_ne]; omega
  simp only [good, hm, Bool.false_or, Bool.and_eq_true, beq_iff_eq] at h
  obtain ⟨⟨a, b⟩, c⟩ := h
  rw [Int.toNat_natCast]
  refine ⟨a, ?_, c⟩
  rw [b]
  by_cases e : m = 1
  · simp [e]
  · rw [if_neg e, if_neg (by omega)]
end Nums

set_option maxHeartbeats 1600000 in
theorem FnNumbers_l {v : Value} {bs : List Int} {w : World} {Q : Ending → World → Prop} (hb : BytesAt w v bs) (hQ : ∀ w', Below w.heap.size w w' → Q (.returned (.bool true)) w') :
    Calls Try.prog 8 #[v] w Q := by
  have H := Lib.hid hQ; clear hQ
  have hb' := hb
  obtain ⟨ao, ca, rfl, la, lca, cca⟩ := hb'.form
  rw [show (bytes bs).length = bs.length from by simp [bytes]] at *
  by_cases hlen : (bs.length : Int) ≤ 1048576
  · go_enter Try.func8, Try.ntmps8
    go_wp2_with fail
    refine MakeNum_c hb (by omega) (by omega) ?_
    intro x w1 hx0 hx1 hb1
    go_wp2_with fail
    obtain ⟨n, hn⟩ : ∃ n : Int, n = 1 + x % 200 := ⟨_, rfl⟩
    have hn1 : 1 ≤ n := by omega
    have hn2 : n ≤ 200 := by omega
    rw [← hn]
    clear hn hx0 hx1
    go_loopg [4, 5, 6, 7] 1001 (fun g a b c d wr => Below w.heap.size w wr ∧ ∃ (p q r : Int) (j : Nat), a = .int .i64 p ∧ b = .int .i64 q ∧ c = .int .i64 r ∧ d = .int .i64 ((j : Int) + 1) ∧
      Hid (p = Nums.sumd Nums.tot n j) ∧ Hid (q = Nums.sumd Nums.mob n j) ∧ Hid (r = Nums.sumd (Nums.mix n) n j) ∧ (j : Int) ≤ n ∧ (j : Int) + g ≤ 1001 ∧ 1001 ≤ (j : Int) + g)
    case atStart => exact ⟨hb1, 0, 0, 0, 0, rfl, rfl, rfl, rfl, Lib.hid rfl, Lib.hid rfl, Lib.hid rfl, by omega, by omega, by omega⟩
    case round =>
      obtain ⟨hbw, p, q, r, j, rfl, rfl, rfl, rfl, hp, hq, hr, hjn, hk1, hk2⟩ := hrel
      have bp := Nums.sumd_bd (f := Nums.tot) (n := n) (M := 1000) (by omega) (fun d _ => Nums.tot_bd' d) j
      have bq := Nums.sumd_bd (f := Nums.mob) (n := n) (M := 1000) (by omega) (fun d _ => Nums.mob_bd' d) j
      have br := Nums.sumd_bd (f := Nums.mix n) (n := n) (M := 1000) (by omega) (fun d hd => Nums.mix_bd (by omega) (by omega) d hd) j
      rw [← hp.out] at bp
      rw [← hq.out] at bq
      rw [← hr.out] at br
      obtain ⟨bp1, bp2⟩ := bp
      obtain ⟨bq1, bq2⟩ := bq
      obtain ⟨br1, br2⟩ := br
      by_cases hj : (j : Int) + 1 ≤ n
      · have bt := Nums.tot_bd ((j : Int) + 1)
        have bm := Nums.mob_bd ((j : Int) + 1)
        have bx := Nums.mix_bd (n := n) (by omega) (by omega) ((j : Int) + 1) (by omega)
        unfold Nums.mix at bx
        obtain ⟨bt1, bt2⟩ := bt
        obtain ⟨bm1, bm2⟩ := bm
        obtain ⟨bx1, bx2⟩ := bx
        by_cases hz : n % ((j : Int) + 1) = 0
        · have hz' : (n % ((j : Int) + 1) == 0) = true := by rw [hz]; rfl
          have ep : Hid (Nums.sumd Nums.tot n (j + 1) = p + Nums.tot ((j : Int) + 1)) := Lib.hid (by rw [hp.out]; simp only [Nums.sumd]; rw [if_pos hz])
          have eq : Hid (Nums.sumd Nums.mob n (j + 1) = q + Nums.mob ((j : Int) + 1)) := Lib.hid (by rw [hq.out]; simp only [Nums.sumd]; rw [if_pos hz])
          have er : Hid (Nums.sumd (Nums.mix n) n (j + 1) = r + Nums.mob ((j : Int) + 1) * (n / ((j : Int) + 1))) := Lib.hid (by rw [hr.out]; simp only [Nums.sumd]; rw [if_pos hz]; rfl)
          clear hz
          go_wp2_with fail
          refine Totient_i ?_
          intro w2 hd2
          go_wp2_with fail
          refine Mobius_i ?_
          go_wp2_with fail
          go_quiet ((go_at_call 19; exact quiet_c (Mobius_i ⟨rfl, Drawn.refl _⟩)))
          go_wp2
          go_roundg (gk - 1)
          case measure => omega
          case rel => exact ⟨(hbw.trans (hd2.below _)).trans ((Drawn.one _ _).below _), _, _, _, j + 1, rfl, rfl, rfl, by go_num, Lib.hid ep.out.symm, Lib.hid eq.out.symm, Lib.hid er.out.symm, by omega, by omega, by omega⟩
        · have hz' : (n % ((j : Int) + 1) == 0) = false := beq_eq_false_iff_ne.2 hz
          have ep : Hid (Nums.sumd Nums.tot n (j + 1) = p) := Lib.hid (by rw [hp.out]; simp only [Nums.sumd]; rw [if_neg hz]; omega)
          have eq : Hid (Nums.sumd Nums.mob n (j + 1) = q) := Lib.hid (by rw [hq.out]; simp only [Nums.sumd]; rw [if_neg hz]; omega)
          have er : Hid (Nums.sumd (Nums.mix n) n (j + 1) = r) := Lib.hid (by rw [hr.out]; simp only [Nums.sumd]; rw [if_neg hz]; omega)
          clear hz
          go_wp2
          go_roundg (gk - 1)
          case measure => omega
          case rel => exact ⟨hbw, p, q, r, j + 1, rfl, rfl, rfl, by go_num, Lib.hid ep.out.symm, Lib.hid eq.out.symm, Lib.hid er.out.symm, by omega, by omega, by omega⟩
      · have ej : Hid (n.toNat = j) := Lib.hid (by omega)
        obtain ⟨g1, g2, g3⟩ := Nums.good_at hn1 hn2
        rw [ej.out, ← hp.out] at g1
        rw [ej.out, ← hq.out] at g2
        rw [ej.out, ← hr.out] at g3
        have k1 : (p == n) = true := by rw [g1]; simp
        have k3 : (r == Nums.tot n) = true := by rw [g3]; simp
        clear g1 g3
        by_cases h1 : n = 1
        · have h1' : (n == 1) = true := by rw [h1]; rfl
          have k2 : (q == 1) = true := by rw [g2, if_pos h1]; rfl
          clear g2 h1
          go_wp2_with (go_at_call 21; refine Totient_i ?_; intro w2 hd2)
          exact H.out _ (hbw.trans (hd2.below _))
        · have h1' : (n == 1) = false := beq_eq_false_iff_ne.2 h1
          have k2 : (q == 0) = true := by rw [g2, if_neg h1]; rfl
          clear g2 h1
          go_wp2_with (go_at_call 21; refine Totient_i ?_; intro w2 hd2)
          exact H.out _ (hbw.trans (hd2.below _))
  · go_enter Try.func8, Try.ntmps8
    go_wp2
    exact H.out _ (Below.refl _ _)
end Go.Proofs.Ytieihnclolaflaa
