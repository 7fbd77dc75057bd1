/-
  The law FnAll: what it computes.
-/
import Derived.Test.YtmlmpneikhdgcaaAllC
import Derived.Test.YtmlmpneikhdgcaaWallI
import Derived.Test.YtmlmpneikhdgcaaPlace
import Derived.Test.YtmlmpneikhdgcaaMake
set_option linter.unusedVariables false
namespace Go.Proofs.Ytmlmpneikhdgcaa
open Go.RowKit

set_option maxHeartbeats 3200000 in
theorem FnAll_l {v : Value} {bs : List Int} {w : World} {Q : Ending → World → Prop} (hb : BytesAt w v bs) (hQ : ∀ w', Below w.heap.size w w' → Q (.returned (.bool true)) w') :
    Calls Try.prog 12 #[v] w Q := by
  have H := Lib.hid hQ; clear hQ
  have hb' := hb
  obtain ⟨ao, ca, rfl, la, lca, cca⟩ := hb'.form
  rw [show (bytes bs).length = bs.length from by simp [bytes]] at *
  by_cases hlen : (bs.length : Int) ≤ 1048576
  rotate_left
  · have hl2 : (1048576 : Int) < bs.length := by omega
    go_enter Try.func12, Try.ntmps12
    go_wp2_with fail
    exact H.out _ (Below.refl _ _)
  have hb0 := Lib.hid hb
  clear hb hb'
  go_enter Try.func12, Try.ntmps12
  go_wp2_with fail
  refine MakeNum_c hb0.out (by omega) (by omega) ?_
  intro x1 w1 hx0 hx1 b1
  obtain ⟨n, hn⟩ : ∃ n : Nat, 1 + x1 % 6 = (n : Int) := ⟨(1 + x1 % 6).toNat, by omega⟩
  have hn1 : 1 ≤ n := by omega
  have hn2 : n ≤ 6 := by omega
  have hb1 := Lib.hid (hb0.out.below b1)
  go_wp2_with fail
  clear hn hx0 hx1
  refine MakeNum_c hb1.out (by omega) (by omega) ?_
  intro x3 w2 hx30 hx31 b2
  obtain ⟨k, hk⟩ : ∃ k : Nat, 1 + x3 % 3 = (k : Int) := ⟨(1 + x3 % 3).toNat, by omega⟩
  have hk1 : 1 ≤ k := by omega
  have hk2 : k ≤ 3 := by omega
  have hb2 := Lib.hid (hb1.out.below b2)
  have bw2 : Below w.heap.size w w2 := b1.trans (b2.mono b1.size)
  obtain ⟨hsm, hW⟩ := Words.wall_ok hn1 hn2 hk1 hk2
  have hW' := Lib.hid hW
  go_wp2_with fail
  clear hk hx30 hx31
  refine WordOfAll_i ?_
  intro v3 w3 o3 b3
  rw [hsm]
  obtain ⟨l, hl⟩ : ∃ l, l = Words.wallW n k := ⟨_, rfl⟩
  rw [← hl] at o3 hW'
  clear hW hl hsm
  obtain ⟨a3, c3, rfl, hl63, _, _⟩ := Own.form o3
  rw [ints_len] at o3 hl63 ⊢
  have hl3 := Lib.hid (OwnInts.at (B := w2.heap.size) o3 : IntsAt w3 (.slice a3 l.length c3) l)
  have bw3 := bw2.trans (b3.mono bw2.size)
  have hb3 := Lib.hid (hb2.out.below b3)
  have hll := Lib.hid hW'.out.len
  have hp4 := Nums.powTo_bd (k := (k : Int)) (by omega) (by omega) (show n ≤ 11 by omega)
  clear o3
  go_wp2_with fail
  go_loopg [7, 8] n (fun gg u7 u8 wr => Hid (wr = w3) ∧ ∃ (i : Nat) (p : Int), u7 = .int .i64 p ∧ u8 = .int .i64 i ∧ Hid (p = Nums.powTo k i) ∧ i + gg ≤ n ∧ n ≤ i + gg)
  case atStart => exact ⟨Lib.hid rfl, 0, 1, rfl, rfl, Lib.hid rfl, by omega, by omega⟩
  case round =>
    obtain ⟨hw3, i, p, rfl, rfl, hp, hi1, hi2⟩ := hrel
    obtain rfl := hw3.out
    clear hw3
    by_cases hi : i < n
    · have hiI : (i : Int) < n := by omega
      have pb := Nums.powTo_bd (k := (k : Int)) (by omega) (by omega) (show i + 1 ≤ 11 by omega)
      have er : Hid (p * k = Nums.powTo k (i + 1)) := Lib.hid (by rw [hp.out]; rfl)
      rw [← er.out] at pb
      obtain ⟨pb1, pb2⟩ := pb
      go_wp2_with fail
      go_roundg (gk - 1)
      case measure => omega
      case rel => exact ⟨Lib.hid rfl, i + 1, _, rfl, by go_num, er, by omega, by omega⟩
    · obtain rfl : i = n := by omega
      have hpl : p = (l.length : Int) := by
        rw [hp.out, hll.out, Words.powTo_pow (by omega)]
        simp
      subst hpl
      have hll2 : l.length ≤ 4194304 := by
        have h := hll.out
        have h1 : k ^ i ≤ 3 ^ i := Nat.pow_le_pow_left hk2 i
        have h2 : 3 ^ i ≤ 3 ^ 6 := Nat.pow_le_pow_right (by omega) hn2
        omega
      clear hp hp4
      go_wp2_with fail
      refine MakeColors_c hb3.out (by omega) (by omega) hn1 (by omega) (by omega) (by omega) ?_
      intro v4 xs w4 hl4 hr4 o4 b4
      obtain ⟨a4, c4, rfl, _, _, _⟩ := Own.form o4
      have e4 : (ints xs).length = i := by rw [ints_len]; exact hl4
      rw [e4] at o4 ⊢
      obtain ⟨q, F0⟩ := hW'.out.at hn1 hl4 (fun x hx => hr4 x hx)
      have F := Lib.hid F0
      have hq : q < l.length := F0.lt
      have hx4 : Hid (IntsAt w4 (.slice a4 i c4) xs) := Lib.hid (OwnInts.at o4)
      have hl5 := Lib.hid (hl3.out.below b4)
      have bw4 := bw3.trans (b4.mono bw3.size)
      have hqI : ¬ ((q : Int) < 0) := by omega
      have hqL : (q : Int) < l.length := by omega
      have hl48 : l.length ≤ 1048576 := by
        have h := hll.out
        have h1 : k ^ i ≤ 3 ^ i := Nat.pow_le_pow_left hk2 i
        have h2 : 3 ^ i ≤ 3 ^ 6 := Nat.pow_le_pow_right (by omega) hn2
        omega
      have hplc : Hid (Words.placeOf l xs = q) := Lib.hid F0.plc
      clear o4 hr4 F0
      go_wp2_with fail
      refine PlaceOf_i hl5.out hx4.out hl48 (by omega) ?_
      intro w5 d5
      rw [hplc.out]
      have hl6 := Lib.hid (hl5.out.drawn d5)
      have hx6 := Lib.hid (hx4.out.drawn d5)
      have bw5 := bw4.trans (d5.below _)
      go_wp2_with fail
      go_loopg [11, 66] l.length (fun gg u11 u66 w6 => Drawn w5 w6 ∧ ∃ (j : Nat), u11 = .int .i64 (if q < j then 1 else 0) ∧ u66 = .int .i64 j ∧ j + gg ≤ l.length ∧ l.length ≤ j + gg)
      case atStart => exact ⟨Drawn.refl _, 0, rfl, rfl, by omega, by omega⟩
      case round =>
        obtain ⟨d6, j, rfl, rfl, hj1, hj2⟩ := hrel
        obtain ⟨gk2, hgk2⟩ : ∃ g, g = gk := ⟨_, rfl⟩
        by_cases hj : j < l.length
        · have hjI : (j : Int) < l.length := by omega
          obtain ⟨pl, hpl⟩ : ∃ pl : Int, pl = if q < j then 1 else 0 := ⟨_, rfl⟩
          have hplb : 0 ≤ pl ∧ pl ≤ 1 := by rw [hpl]; split <;> omega
          have hpl' := Lib.hid hpl
          rw [← hpl]
          clear hpl
          obtain ⟨hplb1, hplb2⟩ := hplb
          have hmt := Lib.hid (F.out.mt j hj)
          go_wp2_with fail
          go_loopg [13, 71] i (fun gg u13 u71 w7 => Drawn w5 w7 ∧ ∃ (m : Nat), u13 = .bool (Words.matchTo l xs j m) ∧ u71 = .int .i64 m ∧ m + gg ≤ i ∧ i ≤ m + gg)
          case atStart => exact ⟨d6, 0, rfl, rfl, by omega, by omega⟩
          case round =>
            obtain ⟨d7, m, rfl, rfl, hm1, hm2⟩ := hrel
            by_cases hm : m < i
            · have hmI : (m : Int) < i := by omega
              obtain ⟨c, hc⟩ : ∃ c, c = (j + m) % l.length := ⟨_, rfl⟩
              have hcl : c < l.length := by rw [hc]; exact Nat.mod_lt _ (by omega)
              have hcI : (c : Int) < l.length := by omega
              have hcm : ((j : Int) + m) % (l.length : Int) = (c : Int) := by rw [hc, Int.natCast_emod, Int.natCast_add]
              obtain ⟨b1, f1, x, e1, hx, hcx⟩ := (hl6.out.drawn d7).cell hcl
              obtain ⟨b2, f2, y, rfl, hy, hcy⟩ := (hx6.out.drawn d7).cell (k := m) (by omega)
              subst e1
              have hlz : ¬ ((l.length : Int) = 0) := by omega
              have hst : Hid (Words.matchTo l xs j (m + 1) = (Words.matchTo l xs j m && (x == y))) := Lib.hid (by
                simp only [Words.matchTo]
                rw [← hc, hx.out, hy.out]
                simp)
              clear hc
              cases hmm : Words.matchTo l xs j m with
              | true =>
                by_cases hxy : x = y
                · subst hxy
                  have hst2 : Hid (Words.matchTo l xs j (m + 1) = true) := Lib.hid (by rw [hst.out, hmm]; simp)
                  have hxx : (x == x) = true := by simp
                  clear hmm
                  go_wp2_with fail
                  go_roundg (gk - 1)
                  case measure => omega
                  case rel => exact ⟨d7, m + 1, by rw [hst2.out], by go_num, by omega, by omega⟩
                · have hxx : (x == y) = false := by simpa using hxy
                  have hst2 : Hid (Words.matchTo l xs j (m + 1) = false) := Lib.hid (by rw [hst.out, hmm, hxx]; rfl)
                  clear hmm hxy
                  go_wp2_with fail
                  go_roundg (gk - 1)
                  case measure => omega
                  case rel => exact ⟨d7, m + 1, by rw [hst2.out], by go_num, by omega, by omega⟩
              | false =>
                have hst2 : Hid (Words.matchTo l xs j (m + 1) = false) := Lib.hid (by rw [hst.out, hmm]; rfl)
                clear hmm
                go_wp2_with fail
                go_roundg (gk - 1)
                case measure => omega
                case rel => exact ⟨d7, m + 1, by rw [hst2.out], by go_num, by omega, by omega⟩
            · have hmi : m = i := by omega
              have hmv : Hid (Words.matchTo l xs j m = decide (j = q)) := Lib.hid (by rw [← hmt.out, hl4, hmi])
              rw [hmv.out]
              by_cases hjq : j = q
              · have hd : Hid (decide (j = q) = true) := Lib.hid (decide_eq_true hjq)
                have hp0 : pl = 0 := by rw [hpl'.out, if_neg (by omega)]
                have hnq : ((j : Int) != q) = false := by rw [hjq]; simp
                have hnew : Hid ((if q < j + 1 then (1 : Int) else 0) = 1) := Lib.hid (by rw [if_pos (by omega)])
                rw [hd.out]
                subst hp0
                clear hjq
                go_wp2_with fail
                go_roundg (gk2 - 1)
                case measure => omega
                case rel => exact ⟨d7, j + 1, by rw [hnew.out], by go_num, by omega, by omega⟩
              · have hd : Hid (decide (j = q) = false) := Lib.hid (decide_eq_false hjq)
                have hnew : Hid ((if q < j + 1 then (1 : Int) else 0) = pl) := Lib.hid (by
                  rw [hpl'.out]
                  by_cases h : q < j
                  · rw [if_pos h, if_pos (by omega)]
                  · rw [if_neg h, if_neg (by omega)])
                rw [hd.out]
                clear hjq
                go_wp2_with fail
                go_roundg (gk2 - 1)
                case measure => omega
                case rel => exact ⟨d7, j + 1, by rw [hnew.out], by go_num, by omega, by omega⟩
        · obtain rfl : j = l.length := by omega
          rw [if_pos hq]
          go_wp2_with fail
          exact H.out _ (bw5.trans (d6.below _))
end Go.Proofs.Ytmlmpneikhdgcaa
