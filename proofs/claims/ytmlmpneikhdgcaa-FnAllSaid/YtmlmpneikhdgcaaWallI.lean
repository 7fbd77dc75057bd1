/-
  The word of all words, as the program makes it.
-/
import Derived.Test.YtmlmpneikhdgcaaWall0
import Derived.Test.YtmlmpneikhdgcaaGrowLay
import Derived.Test.YtmlmpneikhdgcaaEnumI
set_option linter.unusedVariables false
namespace Go.Proofs.Ytmlmpneikhdgcaa
open Go.RowKit

theorem Rows.append {w : World} {B B2 E E2 : Nat} {us us2 : List Value} {xss yss : List (List Int)} (h : Rows w B E us xss) (h2 : Rows w B2 E2 us2 yss) (hB : B ≤ B2) (hE : E ≤ B2) (hE2 : B2 ≤ E2) : Rows w B E2 (us ++ us2) (xss ++ yss) := by
  obtain ⟨h3, h4, h5⟩ := h
  obtain ⟨k3, k4, k5⟩ := h2
  refine ⟨by simp [h3, k3], fun k zs hk => ?_, fun i j z z' hij hz hz' => ?_⟩
  · by_cases e : k < xss.length
    · rw [List.getElem?_append_left e] at hk
      obtain ⟨z, a, b, c⟩ := h4 k zs hk
      exact ⟨z, by rw [List.getElem?_append_left (by omega)]; exact a, b, c.mono (by omega)⟩
    · rw [List.getElem?_append_right (by omega)] at hk
      obtain ⟨z, a, b, c⟩ := k4 _ zs hk
      exact ⟨z, by rw [List.getElem?_append_right (by omega), h3]; exact a, Own.mono b hB, c⟩
  · by_cases ej : j < us.length
    · rw [List.getElem?_append_left (by omega)] at hz
      rw [List.getElem?_append_left ej] at hz'
      exact h5 i j z z' hij hz hz'
    · rw [List.getElem?_append_right (by omega)] at hz'
      by_cases ei : i < us.length
      · rw [List.getElem?_append_left ei] at hz
        obtain ⟨z2, a, _, c⟩ := h4 i _ (List.getElem?_eq_getElem (show i < xss.length by omega))
        rw [hz] at a
        obtain rfl := Option.some.inj a
        obtain ⟨z3, a3, b3, c3⟩ := k4 (j - us.length) _ (List.getElem?_eq_getElem (show j - us.length < yss.length by have := (List.getElem?_eq_some_iff.1 hz').1; omega))
        rw [hz'] at a3
        obtain rfl := Option.some.inj a3
        unfold apart
        cases hb : z.ownBlock with
        | none => exact .inl rfl
        | some b =>
          refine .inr fun e => ?_
          have h1 := c b hb
          have h2 := (Own.lt b3 e.symm).1
          omega
      · rw [List.getElem?_append_right (by omega)] at hz
        exact k5 _ _ z z' (by omega) hz hz'
theorem Rows.one {w : World} {B E : Nat} {us : List Value} {xss : List (List Int)} (h : Rows w B E us xss) : ∀ y ∈ us, y.oneCell' = true := fun y hy => by
  obtain ⟨k, hk⟩ := List.getElem?_of_mem hy
  have hl := (List.getElem?_eq_some_iff.1 hk).1
  obtain ⟨u, xs, hu, _, hou, _⟩ := h.get (k := k) (by have := h.1; omega)
  obtain ⟨au, cu, rfl, _, _, _⟩ := Own.form hou
  rw [hu.out] at hk
  obtain rfl := Option.some.inj hk
  rfl
/-- 'append(s, rows...)': s is the call's own, the rows may be anyone's. -/
theorem app_outer {w : World} {ops : Array Oper} {rest : List Oper} {o : Oper} {a : Act} {Q : Exit → Act → World → Prop} (hg : o.guard = none) (s x : Operand) (hop : o.op = .call { callee := .builtin .append, args := #[s, x], argTypes := #[31, 31] })
    {B : Nat} {v u : Value} {us ys : List Value} (hs : a.eval s = v) (hown : Own w B 22 v us) (hx : a.eval x = u) (hrow : RowAt w u ys) (h1 : ∀ y ∈ ys, y.oneCell' = true)
    (hn : us.length + ys.length ≤ 1099511627776) (hB : B ≤ w.heap.size)
    (hK : ∀ v' w', Own w' B 22 v' (us ++ ys) → w.grownBy w' v.ownBlock → wpList Try.prog ops Q rest (a.put o.dst v') w') :
    wpList Try.prog ops Q (o :: rest) a w :=
  app_row 31 22 (.slice none 0 0) 24 Try.infoInts Try.underlying31 rfl hg s x hop hs hown hx hrow h1 (by omega) (by unfold maxLen; omega) hB hK
set_option maxHeartbeats 1600000 in
theorem WordOfAll_i {n k : Int} {w : World} {Q : Ending → World → Prop}
    (hQ : ∀ v w', OwnInts w' w.heap.size v (Words.wallW n k) → Below w.heap.size w w' → Q (.returned (.tuple #[v, .bool (Words.smallN n k)])) w') :
    Calls Try.prog 31 #[.int .i64 n, .int .i64 k] w Q := by
  have H := Lib.hid hQ; clear hQ
  have none' : ∀ w', Below w.heap.size w w' → Words.smallN n k = false → Q (.returned (.tuple #[.slice none 0 0, .bool false])) w' := fun w' hb e => by
    have := H.out (.slice none 0 0) w' (by unfold Words.wallW; rw [if_neg (by rw [e]; simp)]; exact Own.nil _ _ _) hb
    rw [e] at this; exact this
  have none'' := Lib.hid none'
  clear none'
  by_cases hn : 1 ≤ n ∧ n ≤ 10
  rotate_left
  · have hd : Hid (decide (1 ≤ n ∧ n ≤ 10) = false) := Lib.hid (decide_eq_false hn)
    have e : Hid (Words.smallN n k = false) := Lib.hid (by unfold Words.smallN; rw [hd.out]; simp)
    clear hn
    go_enter Try.func31, Try.ntmps31
    go_wp2_with (go_at_call 60; refine isLength_i ?_; rw [hd.out])
    all_goals exact none''.out _ (Below.refl _ _) e.out
  have hd : Hid (decide (1 ≤ n ∧ n ≤ 10) = true) := Lib.hid (decide_eq_true hn)
  obtain ⟨hn1, hn2⟩ := hn
  have hsm : Hid (Words.smallN n k = (decide (1 ≤ k ∧ k ≤ 4) && decide (Nums.pw k n ≤ 1024))) := Lib.hid (by unfold Words.smallN; rw [hd.out, Bool.true_and])
  go_enter Try.func31, Try.ntmps31
  go_wp2_with (go_at_call 60; refine isLength_i ?_; rw [hd.out])
  refine isSmall_i (by omega) hn2 ?_
  rw [← hsm.out]
  by_cases hs0 : Words.smallN n k = true
  rotate_left
  · have hf : Hid (Words.smallN n k = false) := Lib.hid (by simpa using hs0)
    rw [hf.out]
    clear hs0
    go_wp2_with fail
    exact none''.out _ (Below.refl _ _) hf.out
  have hs := Lib.hid hs0
  have hs2 := hs0
  unfold Words.smallN at hs2
  simp only [Bool.and_eq_true, decide_eq_true_eq] at hs2
  obtain ⟨_, ⟨hk1, hk4⟩, _⟩ := hs2
  obtain ⟨n0, rfl⟩ : ∃ n0 : Nat, n = n0 := ⟨n.toNat, by omega⟩
  rw [hs.out]
  have Hok : Hid (∀ v w', OwnInts w' w.heap.size v (Words.isort (Words.allTo k n0 n0)).flatten → Below w.heap.size w w' → Q (.returned (.tuple #[v, .bool true])) w') := Lib.hid fun v w' ho hb => by
    have h2 := H.out v w' (by unfold Words.wallW; rw [if_pos hs.out, Int.toNat_natCast]; exact ho) hb
    rwa [hs.out] at h2
  clear hs0
  go_wp2_with fail
  have o0 := own_outer_empty w
  have b0 := below_alloc w (.cells #[] 22)
  have r0 := Rows.nil (w.alloc (.cells #[] 22)) w.heap.size (w.alloc (.cells #[] 22)).heap.size
  go_loopg [6, 7] n0 (fun gg u6 u7 wr => ∃ (j : Nat) (us : List Value), u7 = .int .i64 ((j : Int) + 1) ∧ Own wr w.heap.size 22 u6 us ∧ Hid (Rows wr w.heap.size wr.heap.size us (Words.allTo k n0 j)) ∧ Below w.heap.size w wr ∧ j + gg ≤ n0 ∧ n0 ≤ j + gg)
  case atStart => exact ⟨0, [], rfl, o0, Lib.hid r0, b0, by omega, by omega⟩
  case round =>
    obtain ⟨j, us, rfl, oj, rj, bj, hm1, hm2⟩ := hrel
    obtain ⟨a6, c6, rfl, _, _, _⟩ := Own.form oj
    have hal := Words.allTo_len k n0 j
    have hul : us.length ≤ 10240 := by have := rj.out.1; omega
    by_cases hj : j < n0
    · have hjI : (j : Int) + 1 ≤ n0 := by omega
      have hdv : ¬ ((j : Int) + 1 = 0) := by omega
      by_cases hz : (n0 : Int) % ((j : Int) + 1) = 0
      · have hz' : ((n0 : Int) % ((j : Int) + 1) == 0) = true := by rw [hz]; rfl
        have hst : Hid (Words.allTo k n0 (j + 1) = Words.allTo k n0 j ++ Words.enumO Words.lynB ((j : Int) + 1) k) := Lib.hid (by simp only [Words.allTo]; rw [if_pos hz])
        have hel := Words.enumO_le Words.lynB ((j : Int) + 1) k
        clear hz
        go_wp2_with fail
        refine LyndonWords_i ?_
        intro v2 w2 o2 b2
        obtain ⟨us2, p1, p2, p3⟩ := o2.parts
        obtain ⟨a2, c2, rfl, _, _, _⟩ := Own.form p1
        have hl2 : us2.length ≤ 1024 := by have := p3.1; omega
        have oj2 := Own.below oj b2
        have rj2 := rj.out.below b2
        have bj2 := bj.trans (b2.mono bj.size)
        have prow := Own.row p1
        have pone := p3.one
        have b2s := b2.size
        have p3' := Lib.hid p3
        have rj2' := Lib.hid rj2
        clear p3 rj2 o2
        go_wp2_with (at_builtin; refine app_outer rfl (.tmp 35) (.tmp 36) rfl rfl oj2 rfl prow pone (by omega) bj2.size ?_; intro v3 w3 o3 g3)
        have r3 := rj2'.out.outer oj2 g3
        have q3 := p3'.out.outer oj2 g3
        have hs3 := g3.size
        have r4 := (Rows.append r3 q3 bj.size (Nat.le_refl _) b2s).mono (Nat.le_refl _) hs3
        rw [← hst.out] at r4
        have r5 := Lib.hid r4
        go_roundg (gk - 1)
        case measure => omega
        case rel => exact ⟨j + 1, us ++ us2, by go_num, o3, r5, bj2.grown g3 bj2.size (fun b hb => (Own.lt oj2 hb).1), by omega, by omega⟩
      · have hz' : ((n0 : Int) % ((j : Int) + 1) == 0) = false := beq_eq_false_iff_ne.2 hz
        have hst : Hid (Words.allTo k n0 (j + 1) = Words.allTo k n0 j) := Lib.hid (by simp only [Words.allTo]; rw [if_neg hz, List.append_nil])
        have rj' : Hid (Rows wr w.heap.size wr.heap.size us (Words.allTo k n0 (j + 1))) := Lib.hid (by rw [hst.out]; exact rj.out)
        clear hz
        go_wp2_with fail
        go_roundg (gk - 1)
        case measure => omega
        case rel => exact ⟨j + 1, us, by go_num, oj, rj', bj, by omega, by omega⟩
    · obtain rfl : j = n0 := by omega
      have how := rj.out.whole oj (Own.inBlk oj)
      have hpos : 0 < (Words.allTo k j j).length := List.length_pos_of_mem (Words.allTo_pos hk1 hk4 (by omega))
      have hpos2 : 0 < (Words.isort (Words.allTo k j j)).flatten.length := by
        have hm := (Words.isort_perm _).mem_iff.2 (Words.allTo_pos (n := j) hk1 hk4 (show 1 ≤ j by omega))
        have := List.length_pos_of_mem (List.mem_flatten.2 ⟨_, hm, show (0 : Int) ∈ [0] by simp⟩)
        exact this
      have hbg : (Words.isort (Words.allTo k j j)).flatten.length ≤ 1048576 := by
        have h1 := Words.flat_le (l := Words.isort (Words.allTo k j j)) (n := 10) fun x hx => Words.allTo_mem ((Words.isort_perm _).mem_iff.1 hx)
        rw [Words.isort_len] at h1
        omega
      have bjs := bj.size
      have how' := Lib.hid how
      have hpos' := Lib.hid hpos
      have hpos2' := Lib.hid hpos2
      have hbg' := Lib.hid hbg
      clear how hpos hpos2 hbg
      go_wp2_with fail
      refine sortRows_c how'.out bjs hpos'.out (by omega) ?_
      intro w2 yss hp2 hso o2 b2
      have hy : yss = Words.isort (Words.allTo k j j) := sorted_unique (hp2.trans (Words.isort_perm _).symm) hso (Words.isort_sorted _)
      subst hy
      have bw2 : Below w.heap.size w w2 := bj.trans b2
      have oa2 := Lib.hid o2.at
      clear o2 hp2 hso
      go_wp2_with fail
      refine concat_c oa2.out hpos2'.out hbg'.out ?_
      intro v3 w3 o3 b3
      obtain ⟨a3, c3, rfl, _, _, _⟩ := Own.form o3
      have h3 := Lib.hid (Hok.out _ w3 (OwnInts.mono o3 bw2.size) (bw2.trans (b3.mono bw2.size)))
      go_wp2_with fail
      exact h3.out
end Go.Proofs.Ytmlmpneikhdgcaa
