/-
  What the laws' own helpers do with slices of slices of integers.
-/
import Derived.Test.YtdjdagcgodpgdaaGreatLaw
import Derived.Test.YtdjdagcgodpgdaaGreatMemS
set_option linter.unusedVariables false
namespace Go.Proofs.YtdjdagcgodpgdaaGreat
open Go.RowKit

/-- The lengths of the rows, added up. -/
def sumLen : List (List Int) → Nat
  | [] => 0
  | xs :: xss => xs.length + sumLen xss
theorem sumLen_append : ∀ a b : List (List Int), sumLen (a ++ b) = sumLen a + sumLen b
  | [], b => by simp [sumLen]
  | x :: a, b => by simp only [List.cons_append, sumLen, sumLen_append a b]; omega
theorem sumLen_take {xss : List (List Int)} {j : Nat} {xs : List Int} (h : xss[j]? = some xs) : sumLen (xss.take (j + 1)) = sumLen (xss.take j) + xs.length := by
  rw [List.take_add_one, h, sumLen_append]; simp [sumLen]
theorem sumLen_take_le (xss : List (List Int)) (j : Nat) : sumLen (xss.take j) ≤ sumLen xss := by
  have := sumLen_append (xss.take j) (xss.drop j)
  rw [List.take_append_drop] at this
  omega
theorem sumLen_row {xss : List (List Int)} {j : Nat} {xs : List Int} (h : xss[j]? = some xs) : xs.length ≤ sumLen xss := by
  have h1 := sumLen_take h
  have h2 := sumLen_take_le xss (j + 1)
  omega
/-- The rows, marked one after the other. -/
def marksS (k : Int) : List (List Int) → List (List Int)
  | [] => []
  | xs :: xss => marks k xs.length :: marksS (k + xs.length) xss
theorem marksS_len (k : Int) : ∀ xss, (marksS k xss).length = xss.length
  | [] => rfl
  | xs :: xss => by simp [marksS, marksS_len _ xss]
theorem marksS_append : ∀ (k : Int) (a b : List (List Int)), marksS k (a ++ b) = marksS k a ++ marksS (k + sumLen a) b
  | k, [], b => by simp [marksS, sumLen]
  | k, x :: a, b => by
    simp only [List.cons_append, marksS, sumLen, marksS_append _ a b, List.cons.injEq, true_and]
    rw [show k + ((x.length + sumLen a : Nat) : Int) = k + x.length + sumLen a from by omega]
theorem marksS_get (k : Int) {xss : List (List Int)} {j : Nat} {xs : List Int} (h : xss[j]? = some xs) : (marksS k xss)[j]? = some (marks (k + sumLen (xss.take j)) xs.length) := by
  obtain ⟨h1, rfl⟩ := List.getElem?_eq_some_iff.1 h
  have e : xss = xss.take j ++ xss[j] :: xss.drop (j + 1) := by rw [← List.drop_eq_getElem_cons h1, List.take_append_drop]
  have hl : (marksS k (xss.take j)).length = j := by rw [marksS_len, List.length_take]; omega
  have e2 : marksS k xss = marksS k (xss.take j) ++ marksS (k + sumLen (xss.take j)) (xss[j] :: xss.drop (j + 1)) := by rw [← marksS_append, ← e]
  rw [e2, List.getElem?_append_right (by omega), hl, Nat.sub_self]
  rfl
theorem marksS_step {k : Int} {xss : List (List Int)} {j : Nat} {xs : List Int} (h : xss[j]? = some xs) :
    (marksS k (xss.take j) ++ xss.drop j).set j (marks (k + sumLen (xss.take j)) xs.length) = marksS k (xss.take (j + 1)) ++ xss.drop (j + 1) := by
  obtain ⟨h1, rfl⟩ := List.getElem?_eq_some_iff.1 h
  have hl : (marksS k (xss.take j)).length = j := by rw [marksS_len, List.length_take]; omega
  rw [List.set_append_right _ _ (by omega), hl, Nat.sub_self, List.drop_eq_getElem_cons h1, List.set_cons_zero, List.take_add_one, h, marksS_append]
  simp [marksS]
theorem marksS_sum (k : Int) : ∀ xss, sumLen (marksS k xss) = sumLen xss
  | [] => rfl
  | xs :: xss => by simp only [marksS, sumLen, marks_len, marksS_sum _ xss]

set_option maxHeartbeats 800000 in
theorem eqIntSS_c {va vb : Value} {xss yss : List (List Int)} {w : World} {Q : Ending → World → Prop} (ha : RowsAt w va xss) (hb : RowsAt w vb yss) (hQ : ∀ w', Drawn w w' → Q (.returned (.bool (decide (xss = yss)))) w') :
    Calls Tryz.prog 7 #[va, vb] w Q := by
  have H := Lib.hid hQ; clear hQ
  obtain ⟨aa, ca, rfl, la, lca, cca⟩ := ha.form
  obtain ⟨ab, cb, rfl, lb, lcb, ccb⟩ := hb.form
  by_cases hl : xss.length = yss.length
  · have hl' : ((xss.length : Int) != yss.length) = false := by rw [hl]; simp
    have hl'' := Lib.hid hl
    clear hl
    go_enter Tryz.func7, Tryz.ntmps7
    go_wp2
    go_loopg [5] xss.length (fun k i wr => Drawn w wr ∧ ∃ j : Nat, i = .int .i64 j ∧ Hid (xss.take j = yss.take j) ∧ j + k ≤ xss.length ∧ xss.length ≤ j + k)
    case atStart => exact ⟨Drawn.refl w, 0, rfl, Lib.hid rfl, by omega, by omega⟩
    case round =>
      obtain ⟨hw, j, rfl, hg, hk1, hk2⟩ := hrel
      by_cases hj : j < xss.length
      · have hjy : j < yss.length := by have := hl''.out; omega
        have haw := ha.drawn hw
        have hbw := hb.drawn hw
        obtain ⟨ba, oa, u, xs, rfl, hx, hcx, hxi⟩ := haw.cell hj
        obtain ⟨bb, ob, u', ys, rfl, hy, hcy, hyi⟩ := hbw.cell hjy
        have i1 : (j : Int) < xss.length := by omega
        have i2 : (j : Int) < yss.length := by omega
        by_cases hxy : xs = ys
        · have hd : decide (xs = ys) = true := decide_eq_true hxy
          have hxy' := Lib.hid hxy
          clear hxy
          go_wp2_with fail
          go_quiet ((go_at_call 19; exact quiet_c (eqIntS_c (hxi.drawn (Drawn.one _ _)) (hyi.drawn (Drawn.one _ _)) (fun _ h => ⟨rfl, h⟩))))
          go_wp2
          go_roundg (gk - 1)
          case measure => omega
          case rel => exact ⟨hw.next nq, j + 1, by go_num, Lib.hid (by rw [List.take_add_one, List.take_add_one, hx.out, hy.out, hg.out, hxy'.out]), by omega, by omega⟩
        · have hd : decide (xs = ys) = false := decide_eq_false hxy
          have hf : Hid (decide (xss = yss) = false) := Lib.hid (by
            rw [decide_eq_false_iff_not]
            intro e
            have h1 := hx.out
            rw [e, hy.out] at h1
            exact hxy (Option.some.inj h1).symm)
          clear hxy
          go_wp2_with fail
          go_quiet ((go_at_call 19; exact quiet_c (eqIntS_c (hxi.drawn (Drawn.one _ _)) (hyi.drawn (Drawn.one _ _)) (fun _ h => ⟨rfl, h⟩))))
          go_wp2
          exact boolq' (H.out _ (hw.next nq)) hf.out
      · go_wp2
        have e : xss = yss := by
          have h1 := hg.out
          have h2 := hl''.out
          rw [List.take_of_length_le (by omega), List.take_of_length_le (by omega)] at h1
          exact h1
        exact boolq' (H.out _ hw) (decide_eq_true e)
  · have hl' : ((xss.length : Int) != yss.length) = true := by simp; omega
    have hf : Hid (decide (xss = yss) = false) := Lib.hid (by rw [decide_eq_false_iff_not]; intro e; exact hl (by rw [e]))
    clear hl
    go_enter Tryz.func7, Tryz.ntmps7
    go_wp2
    exact boolq' (H.out _ (Drawn.refl w)) hf.out
set_option maxHeartbeats 800000 in
theorem markIntSS_c {v : Value} {xss : List (List Int)} {k : Int} {B E : Nat} {w : World} {Q : Ending → World → Prop} (ho : OwnRows w B E v xss) (hk0 : 0 ≤ k) (hk : k ≤ 4611686018427) (hn : xss.length + sumLen xss ≤ 4611686018427)
    (hQ : ∀ w', OwnRows w' B E v (marksS k xss) → Touch w w' B E → Q (.returned (.int .i64 (k + sumLen xss))) w') :
    Calls Tryz.prog 8 #[v, .int .i64 k] w Q := by
  have H := Lib.hid hQ; clear hQ
  obtain ⟨aa, ca, rfl, la, lca, cca⟩ := ho.form
  go_enter Tryz.func8, Tryz.ntmps8
  go_wp2_with fail
  go_loopg [1, 5] xss.length (fun g x i wr => ∃ (j : Nat) (q : Int), x = .int .i64 q ∧ i = .int .i64 j ∧ Hid (q = k + sumLen (xss.take j)) ∧ 0 ≤ q ∧ q ≤ 9223372036854 ∧ OwnRows wr B E (.slice aa xss.length ca) (marksS k (xss.take j) ++ xss.drop j) ∧ Touch w wr B E ∧ j + g ≤ xss.length ∧ xss.length ≤ j + g)
  case atStart => exact ⟨0, k, rfl, rfl, Lib.hid (by simp [sumLen]), by omega, by omega, by simpa [marksS] using ho, Touch.refl _ _ _, by omega, by omega⟩
  case round =>
    obtain ⟨j, q, rfl, rfl, hq, hq0, hq1, hr, ht, hk1, hk2⟩ := hrel
    by_cases hj : j < xss.length
    · have i1 : (j : Int) < xss.length := by omega
      have hll : (marksS k (xss.take j) ++ xss.drop j).length = xss.length := by rw [List.length_append, marksS_len, List.length_take, List.length_drop]; omega
      obtain ⟨b, rfl, hb1, hb2, hb3⟩ := OwnRows.head hr (by rw [hll]; omega)
      obtain ⟨u, xs, hx, hc, hui, huE⟩ := OwnRows.cell hr (k := j) (by rw [hll]; omega)
      clear hll
      have hx' : Hid (xss[j]? = some xs) := Lib.hid (by
        have := hx.out
        rw [List.getElem?_append_right (by rw [marksS_len, List.length_take]; omega), marksS_len, List.length_take, show j - min j xss.length = 0 from by omega, List.getElem?_drop] at this
        simpa using this)
      have hs1 := Lib.hid (sumLen_take hx'.out)
      have hs2 := Lib.hid (sumLen_take_le xss (j + 1))
      go_wp2_with fail
      refine markIntS_c hui (by omega) (by omega) (by have h1 := hs1.out; have h2 := hs2.out; omega) ?_
      intro w2 m2 g2
      have hq2 : q + xs.length ≤ 9223372036854 := by have h1 := hs1.out; have h2 := hs2.out; have h3 := hq.out; omega
      have hT := OwnRows.turn hr (k := j) (ys := marks q xs.length) (by rw [marks_len]) hx.out hui (fun g n cap e => by cases e; exact hc) m2 g2
      rw [hq.out, marksS_step hx'.out] at hT
      go_wp2
      go_roundg (gk - 1)
      case measure => omega
      case rel => exact ⟨j + 1, _, rfl, by go_num, Lib.hid (by rw [hs1.out, hq.out]; omega), by omega, by omega, hT, ht.trans (Touch.of_grown g2 fun k hk => ⟨(OwnInts.lt hui hk).1, huE k hk⟩), by omega, by omega⟩
    · have e1 : Hid (k + sumLen xss = q) := Lib.hid (by rw [hq.out, List.take_of_length_le (by omega)])
      have e2 : marksS k (xss.take j) ++ xss.drop j = marksS k xss := by rw [List.take_of_length_le (by omega), List.drop_eq_nil_of_le (by omega), List.append_nil]
      rw [e2] at hr
      go_wp2_with fail
      exact intq' (H.out _ hr ht) e1.out
set_option maxHeartbeats 800000 in
theorem heldIntSS_c {v : Value} {xss : List (List Int)} {k : Int} {w : World} {Q : Ending → World → Prop} (ho : RowsAt w v (marksS k xss)) (hk0 : 0 ≤ k) (hk : k ≤ 4611686018427) (hn : xss.length + sumLen xss ≤ 4611686018427)
    (hQ : Q (.returned (.int .i64 (k + sumLen xss))) w) :
    Calls Tryz.prog 9 #[v, .int .i64 k] w Q := by
  have H := Lib.hid hQ; clear hQ
  obtain ⟨aa, ca, rfl, la, lca, cca⟩ := ho.form
  rw [marksS_len] at *
  go_enter Tryz.func9, Tryz.ntmps9
  go_wp2_with fail
  go_loopg [1, 5] xss.length (fun g x i wr => Hid (wr = w) ∧ ∃ (j : Nat) (q : Int), x = .int .i64 q ∧ i = .int .i64 j ∧ Hid (q = k + sumLen (xss.take j)) ∧ 0 ≤ q ∧ q ≤ 9223372036854 ∧ j + g ≤ xss.length ∧ xss.length ≤ j + g)
  case atStart => exact ⟨Lib.hid rfl, 0, k, rfl, rfl, Lib.hid (by simp [sumLen]), by omega, by omega, by omega, by omega⟩
  case round =>
    obtain ⟨hw, j, q, rfl, rfl, hq, hq0, hq1, hk1, hk2⟩ := hrel
    obtain rfl := hw.out
    clear hw
    by_cases hj : j < xss.length
    · have i1 : (j : Int) < xss.length := by omega
      obtain ⟨b, off, u, xs, rfl, hx, hc, hi⟩ := ho.cell (k := j) (by rw [marksS_len]; exact hj)
      obtain ⟨ys, hy⟩ : ∃ ys, xss[j]? = some ys := ⟨_, List.getElem?_eq_getElem hj⟩
      have hxe := hx.out
      rw [marksS_get k hy, ← hq.out] at hxe
      obtain rfl := Option.some.inj hxe
      have hs1 := Lib.hid (sumLen_take hy)
      have hs2 := Lib.hid (sumLen_take_le xss (j + 1))
      clear hxe hx hy
      go_wp2_with fail
      refine heldIntS_c hi (by omega) (by omega) (by have h1 := hs1.out; have h2 := hs2.out; omega) ?_
      have hq2 : q + ys.length ≤ 9223372036854 := by have h1 := hs1.out; have h2 := hs2.out; have h3 := hq.out; omega
      go_wp2
      go_roundg (gk - 1)
      case measure => omega
      case rel => exact ⟨Lib.hid rfl, j + 1, _, rfl, by go_num, Lib.hid (by rw [hs1.out, hq.out]; omega), by omega, by omega, by omega, by omega⟩
    · have e1 : Hid (k + sumLen xss = q) := Lib.hid (by rw [hq.out, List.take_of_length_le (by omega)])
      go_wp2_with fail
      exact intq' H.out e1.out
end Go.Proofs.YtdjdagcgodpgdaaGreat
