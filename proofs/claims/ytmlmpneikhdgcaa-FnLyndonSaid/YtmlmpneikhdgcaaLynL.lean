/-
  The law FnLyndon: what it computes.
-/
import Derived.Test.YtmlmpneikhdgcaaLchk
import Derived.Test.YtmlmpneikhdgcaaLynC
import Derived.Test.YtmlmpneikhdgcaaLynF
import Derived.Test.YtmlmpneikhdgcaaEnumI
import Derived.Test.YtmlmpneikhdgcaaMake
import Derived.Test.YtmlmpneikhdgcaaBef
set_option linter.unusedVariables false
namespace Go.Proofs.Ytmlmpneikhdgcaa
open Go.RowKit

theorem Words.flat_take {l : List (List Int)} {j : Nat} {x : List Int} (h : l[j]? = some x) : (l.take (j + 1)).flatten = (l.take j).flatten ++ x := by
  rw [List.take_add_one, h, List.flatten_append]
  simp
theorem Words.flat_take_le (l : List (List Int)) (j : Nat) : (l.take j).flatten.length ≤ l.flatten.length := by
  have h : l.flatten = (l.take j).flatten ++ (l.drop j).flatten := by rw [← List.flatten_append, List.take_append_drop]
  rw [h, List.length_append]
  omega
theorem Words.mem_flat_le {l : List (List Int)} {x : List Int} (h : x ∈ l) : x.length ≤ l.flatten.length := by
  obtain ⟨j, hj⟩ := List.getElem?_of_mem h
  have h1 := Words.flat_take hj
  have h2 := Words.flat_take_le l (j + 1)
  rw [h1, List.length_append] at h2
  omega
set_option maxHeartbeats 3200000 in
theorem FnLyndon_l {v : Value} {bs : List Int} {w : World} {Q : Ending → World → Prop} (hb : BytesAt w v bs) (hQ : ∀ w', Below w.heap.size w w' → Q (.returned (.bool true)) w') :
    Calls Try.prog 11 #[v] w Q := by
  have H := Lib.hid hQ; clear hQ
  have hb' := hb
  obtain ⟨ao, ca, rfl, la, lca, cca⟩ := hb'.form
  rw [show (bytes bs).length = bs.length from by simp [bytes]] at *
  by_cases hlen : (bs.length : Int) ≤ 1048576
  rotate_left
  · have hl2 : (1048576 : Int) < bs.length := by omega
    go_enter Try.func11, Try.ntmps11
    go_wp2_with fail
    exact H.out _ (Below.refl _ _)
  have hb0 := Lib.hid hb
  clear hb hb'
  go_enter Try.func11, Try.ntmps11
  go_wp2_with fail
  refine MakeNum_c hb0.out (by omega) (by omega) ?_
  intro x1 w1 hx0 hx1 b1
  obtain ⟨n0, hn⟩ : ∃ n0 : Nat, 1 + x1 % 10 = (n0 : Int) := ⟨(1 + x1 % 10).toNat, by omega⟩
  have hn1 : 1 ≤ n0 := by omega
  have hn2 : n0 ≤ 10 := by omega
  have hb1 := Lib.hid (hb0.out.below b1)
  go_wp2_with fail
  clear hn hx0 hx1
  refine MakeColors_c hb1.out (by omega) (by omega) hn1 hn2 (by omega) (by omega) ?_
  intro v2 xs w2 hl2 hr2 o2 b2
  obtain ⟨a2, c2, rfl, _, _, _⟩ := Own.form o2
  have e2 : (ints xs).length = n0 := by rw [ints_len]; exact hl2
  rw [e2] at o2 ⊢
  have bw2 : Below w.heap.size w w2 := b1.trans (b2.mono b1.size)
  have F := Lib.hid (Words.lynFacts hn1 hn2 hl2 hr2)
  have hb2 := Lib.hid (hb1.out.below b2)
  have hx2 : Hid (IntsAt w2 (.slice a2 n0 c2) xs) := Lib.hid (OwnInts.at o2)
  clear hr2 o2 b2 b1 hb1
  have hxl : xs.length ≤ 1048576 := by omega
  go_wp2_with fail
  refine LyndonFactors_i hx2.out hxl ?_
  intro v3 w3 o3 b3
  have hl3 := Lib.hid o3.at
  obtain ⟨a3, c3, rfl, _, _, _⟩ := o3.form
  have bw3 := bw2.trans (b3.mono bw2.size)
  have hx3 := Lib.hid (hx2.out.below b3)
  have hb3 := Lib.hid (hb2.out.below b3)
  have hfl : (Words.facW xs).flatten.length = n0 := by rw [F.out.sum]; exact hl2
  rw [F.out.ok]
  obtain ⟨l, hl⟩ : ∃ l, l = Words.facW xs := ⟨_, rfl⟩
  have hlyn : Hid (∀ x ∈ l, Words.lynB x = true) := Lib.hid (by rw [hl]; exact F.out.lyn)
  have hdsc : Hid (Words.desc l = true) := Lib.hid (by rw [hl]; exact F.out.dsc)
  have hsum : Hid (l.flatten = xs) := Lib.hid (by rw [hl]; exact F.out.sum)
  rw [← hl] at hl3 hfl ⊢
  clear hl o3
  obtain ⟨_, _, _, hll, _, _⟩ := hl3.out.form
  go_wp2_with fail
  have o4 := own_empty w3
  have b4 := below_alloc w3 (.cells #[] 3)
  go_loopg [6, 35] l.length (fun gg u6 u35 wr => ∃ (j : Nat), u35 = .int .i64 j ∧ OwnInts wr w3.heap.size u6 (l.take j).flatten ∧ Below w3.heap.size w3 wr ∧ j + gg ≤ l.length ∧ l.length ≤ j + gg)
  case atStart => exact ⟨0, rfl, by simpa using o4, b4, by omega, by omega⟩
  case round =>
    obtain ⟨j, rfl, oj, bj, hm1, hm2⟩ := hrel
    obtain ⟨a6, c6, rfl, _, _, _⟩ := Own.form oj
    by_cases hj : j < l.length
    · have hjI : (j : Int) < l.length := by omega
      obtain ⟨b9, f9, u, x, e9, hx, hcx, hux⟩ := (hl3.out.below bj).cell (k := j) hj
      obtain ⟨ax, cx, rfl, _, _, _⟩ := hux.form
      have hux' := Lib.hid hux
      have hxl2 : x.length ≤ n0 := by have := Words.mem_flat_le (List.mem_of_getElem? hx.out); omega
      have htl : (l.take j).flatten.length ≤ n0 := by have := Words.flat_take_le l j; omega
      have hlx : Hid (Words.lynB x = true) := Lib.hid (hlyn.out x (List.mem_of_getElem? hx.out))
      have hft := Lib.hid (Words.flat_take hx.out)
      clear hux
      by_cases h0 : j = 0
      · subst h0
        have h0f : decide ((0 : Int) < 0) = false := by decide
        rw [Nat.add_zero] at hcx
        cases e9
        go_wp2_with (first
          | (go_at_call 43; refine IsLyndon_i hux'.out (by omega) ?_; intro w9 b9; rw [hlx.out]; have bj9 := bj.trans (b9.mono bj.size); have oj9 := OwnInts.below oj b9; have hux9 := hux'.out.below b9)
          | (at_builtin; refine app_ints rfl (.tmp 56) (.tmp 57) rfl rfl oj9 rfl hux9 (by omega) bj9.size ?_; intro v10 w10 o10 g10))
        rw [← hft.out] at o10
        go_roundg (gk - 1)
        case measure => omega
        case rel => exact ⟨1, by go_num, o10, bj9.grown g10 bj9.size (fun b hb => (Own.lt oj9 hb).1), by omega, by omega⟩
      · obtain ⟨m, hmj⟩ : ∃ m : Nat, (j : Int) - 1 = m := ⟨j - 1, by omega⟩
        have hj00 : 0 < j := by omega
        obtain ⟨b8, f8, u', y, e8, hy, hcy, huy⟩ := (hl3.out.below bj).cell (k := m) (by omega)
        obtain ⟨ay, cy, rfl, _, _, _⟩ := huy.form
        have huy' := Lib.hid huy
        rw [e9] at e8
        obtain ⟨rfl, rfl⟩ : b9 = b8 ∧ f9 = f8 := by
          simp only [Option.some.injEq, Addr.mk.injEq] at e8
          exact ⟨e8.1, e8.2.1⟩
        cases e9
        have hmI : (m : Int) < l.length := by omega
        have hm0 : (0 : Int) < (j : Int) := by omega
        have hde : Hid (decide (Words.cmpL y x < 0) = false) := Lib.hid (Words.desc_at hdsc.out hy.out (by rw [show m + 1 = j from by omega]; exact hx.out))
        clear huy
        go_wp2_with (first
          | (go_at_call 43; refine IsLyndon_i hux'.out (by omega) ?_; intro w9 b9; rw [hlx.out]; have bj9 := bj.trans (b9.mono bj.size); have oj9 := OwnInts.below oj b9; have hux9 := hux'.out.below b9; have huy9 := huy'.out.below b9; have hcy9 := below_cells b9 _ _ hcy)
          | (go_at_call 44; refine before_c huy9 hux9 ?_; rw [hde.out])
          | (at_builtin; refine app_ints rfl (.tmp 56) (.tmp 57) rfl rfl oj9 rfl hux9 (by omega) bj9.size ?_; intro v10 w10 o10 g10))
        rw [← hft.out] at o10
        go_roundg (gk - 1)
        case measure => omega
        case rel => exact ⟨j + 1, by go_num, o10, bj9.grown g10 bj9.size (fun b hb => (Own.lt oj9 hb).1), by omega, by omega⟩
    · obtain rfl : j = l.length := by omega
      have e7 : (ints (l.take l.length).flatten).length = n0 := by rw [List.take_of_length_le (Nat.le_refl _), hsum.out, ints_len]; exact hl2
      have oj0 : OwnInts wr w3.heap.size (.slice a6 n0 c6) xs := by
        rw [e7, List.take_of_length_le (Nat.le_refl _), hsum.out] at oj
        exact oj
      rw [e7]
      replace oj := oj0
      clear oj0
      have hb4 := Lib.hid (hb3.out.below bj)
      have hx4 := Lib.hid (hx3.out.below bj)
      have bw4 := bw3.trans (bj.mono bw3.size)
      have e6 : (ints xs).length = n0 := e2
      go_wp2_with fail
      refine MakeNum_c hb4.out (by omega) (by omega) ?_
      intro x3 w5 hx30 hx31 b5
      obtain ⟨n, hnn⟩ : ∃ n : Nat, 1 + x3 % 10 = (n : Int) := ⟨(1 + x3 % 10).toNat, by omega⟩
      have hn3 : 1 ≤ n := by omega
      have hn4 : n ≤ 10 := by omega
      have hb5 := Lib.hid (hb4.out.below b5)
      have hx5 := Lib.hid (hx4.out.below b5)
      have oj5 := OwnInts.below oj b5
      have bw5 := bw4.trans (b5.mono bw4.size)
      go_wp2_with fail
      clear hnn hx30 hx31
      refine MakeNum_c hb5.out (by omega) (by omega) ?_
      intro x5 w6 hx50 hx51 b6
      obtain ⟨k, hkk⟩ : ∃ k : Nat, 1 + x5 % 4 = (k : Int) := ⟨(1 + x5 % 4).toNat, by omega⟩
      have hk3 : 1 ≤ k := by omega
      have hk4 : k ≤ 4 := by omega
      have hb6 := Lib.hid (hb5.out.below b6)
      have hx6 := Lib.hid (hx5.out.below b6)
      have oj6 := Lib.hid (OwnInts.at (OwnInts.below oj5 b6))
      have bw6 := bw5.trans (b6.mono bw5.size)
      have N := Lib.hid (Nums.lynNum_at hn3 hn4 hk3 hk4)
      clear oj oj5 b5 b6 hb4 hb5
      go_wp2_with fail
      clear hkk hx50 hx51
      go_loopg [11, 12, 13, 14] n (fun gg u11 u12 u13 u14 wr => ∃ (i : Nat) (p q r : Int), u11 = .int .i64 p ∧ u12 = .int .i64 q ∧ u13 = .int .i64 r ∧ u14 = .int .i64 ((i : Int) + 1) ∧ Hid (p = Nums.dl n k i) ∧ Hid (q = Nums.nl n k i) ∧ Hid (r = Nums.powTo k i) ∧ Drawn w6 wr ∧ i + gg ≤ n ∧ n ≤ i + gg)
      case atStart => exact ⟨0, 0, 0, 1, rfl, rfl, rfl, rfl, Lib.hid rfl, Lib.hid rfl, Lib.hid rfl, Drawn.refl _, by omega, by omega⟩
      case round =>
        obtain ⟨i, p, q, r, rfl, rfl, rfl, rfl, hp, hq, hr, dr, hi1, hi2⟩ := hrel
        have nb := N.out.bd i (by omega)
        rw [← hp.out, ← hq.out] at nb
        obtain ⟨nb1, nb2, nb3, nb4, nb5, nb6, nb7, nb8⟩ := nb
        have rb := Nums.powTo_bd (k := k) (by omega) (by omega) (show i ≤ 11 by omega)
        rw [← hr.out] at rb
        obtain ⟨rb1, rb2⟩ := rb
        by_cases hin : i < n
        · have hinI : (i : Int) + 1 ≤ n := by omega
          have rb' := Nums.powTo_bd (k := k) (by omega) (by omega) (show i + 1 ≤ 11 by omega)
          have er : Hid (r * k = Nums.powTo k (i + 1)) := Lib.hid (by rw [hr.out]; rfl)
          rw [← er.out] at rb'
          obtain ⟨rb3, rb4⟩ := rb'
          obtain ⟨c, hc⟩ : ∃ c, c = Nums.lynd ((i : Int) + 1) k := ⟨_, rfl⟩
          rw [← hc] at nb5 nb6 nb7 nb8
          have hc' := Lib.hid hc
          obtain ⟨dc, hdc⟩ : ∃ dc, ((i : Int) + 1) * c = dc := ⟨_, rfl⟩
          rw [hdc] at nb7 nb8
          have hdv : ¬ ((i : Int) + 1 = 0) := by omega
          by_cases hz : (n : Int) % ((i : Int) + 1) = 0
          · have hz' : ((n : Int) % ((i : Int) + 1) == 0) = true := by rw [hz]; rfl
            have ep : Hid (p + dc = Nums.dl n k (i + 1)) := Lib.hid (by rw [hp.out]; simp only [Nums.dl]; rw [if_pos hz, ← hc, hdc])
            have eq : Hid (q + c = Nums.nl n k (i + 1)) := Lib.hid (by rw [hq.out]; simp only [Nums.nl]; rw [if_pos hz, ← hc])
            clear hz hc
            go_wp2_with fail
            refine CountLyndon_i ?_
            intro w7 d7
            rw [← hc'.out]
            go_wp2_with fail
            refine CountLyndon_i ?_
            intro w8 d8
            rw [← hc'.out]
            go_wp2_with fail
            go_roundg (gk - 1)
            case measure => omega
            case rel => exact ⟨i + 1, p + dc, q + c, r * k, rfl, rfl, rfl, by go_num, ep, eq, er, (dr.trans d7).trans d8, by omega, by omega⟩
          · have hz' : ((n : Int) % ((i : Int) + 1) == 0) = false := beq_eq_false_iff_ne.2 hz
            have ep : Hid (p = Nums.dl n k (i + 1)) := Lib.hid (by rw [hp.out]; simp only [Nums.dl]; rw [if_neg hz]; omega)
            have eq : Hid (q = Nums.nl n k (i + 1)) := Lib.hid (by rw [hq.out]; simp only [Nums.nl]; rw [if_neg hz]; omega)
            clear hz hc
            go_wp2_with fail
            go_roundg (gk - 1)
            case measure => omega
            case rel => exact ⟨i + 1, p, q, r * k, rfl, rfl, rfl, by go_num, ep, eq, er, dr, by omega, by omega⟩
        · obtain rfl : i = n := by omega
          have hpr : p = r := by rw [hp.out, hr.out]; exact N.out.all
          subst hpr
          have hqn : Hid (Nums.neck i k = q) := Lib.hid (by rw [hq.out]; exact N.out.nck.symm)
          have hb7 := Lib.hid (RowAt.drawn hb6.out dr)
          have hx7 := Lib.hid (hx6.out.drawn dr)
          have oj7 := Lib.hid (oj6.out.drawn dr)
          have bw7 := bw6.trans (dr.below _)
          clear hp hq hr
          go_wp2_with fail
          refine MakeNum_c hb7.out (by omega) (by omega) ?_
          intro x7 w8 hx70 hx71 b8
          obtain ⟨m, hmm⟩ : ∃ m : Nat, 1 + x7 % 5 = (m : Int) := ⟨(1 + x7 % 5).toNat, by omega⟩
          have hm3 : 1 ≤ m := by omega
          have hm4 : m ≤ 5 := by omega
          have hx8 := Lib.hid (hx7.out.below b8)
          have oj8 := Lib.hid (oj7.out.below b8)
          have bw8 := bw7.trans (b8.mono bw7.size)
          obtain ⟨hcnt, hsm⟩ := Words.lynCount hm3 hm4
          have hcnt' := Lib.hid hcnt
          clear hcnt
          go_wp2_with fail
          clear hmm hx70 hx71
          refine LyndonWords_i ?_
          intro v9 w9 o9 b9
          obtain ⟨a9, c9, rfl, _, _, _⟩ := o9.form
          have hx9 := Lib.hid (hx8.out.below b9)
          have oj9 := Lib.hid (oj8.out.below b9)
          have bw9 := bw8.trans (b9.mono bw8.size)
          rw [hsm]
          obtain ⟨L, hL⟩ : ∃ L, L = (Words.enumO Words.lynB m 2).length := ⟨_, rfl⟩
          rw [← hL] at hcnt' ⊢
          clear hsm hL o9
          go_wp2_with (first
            | (go_at_call 40; refine same_c oj9.out hx9.out ?_; intro w10 d10; rw [decide_eq_true (rfl : xs = xs)])
            | (go_at_call 46; refine CountNecklaces_i ?_; intro w11 d11; rw [hqn.out])
            | (go_at_call 45; refine CountLyndon_i ?_; intro w12 d12; rw [← hcnt'.out]))
          exact H.out _ (((bw9.trans (d10.below _)).trans (d11.below _)).trans (d12.below _))
end Go.Proofs.Ytmlmpneikhdgcaa
