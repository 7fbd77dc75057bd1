/-
  Permutations: whether a list is one; composing; carrying colorings.
-/
import Derived.Test.YtdjdagcgodpgdaaGreatRot
import Derived.Test.YtdjdagcgodpgdaaGreatMemS
import Derived.Test.YtdjdagcgodpgdaaGreatPerms
set_option linter.unusedVariables false
namespace Go.Proofs.YtdjdagcgodpgdaaGreat
open Go.RowKit

/-- Block b holds n bools: the i-th is P i. -/
def BoolsIn (w : World) (b : Nat) (T : TypeId) (n : Nat) (P : Nat → Bool) : Prop := ∃ arr, w.heap[b]? = some (.cells arr T (0, 0)) ∧ arr.size = n ∧ ∀ i, i < n → arr[i]? = some (.bool (P i))
theorem BoolsIn.cell {w : World} {b n : Nat} {T : TypeId} {P : Nat → Bool} (h : BoolsIn w b T n P) {i : Nat} (hi : i < n) : w.cell? ⟨b, i, none⟩ = some (.bool (P i)) := by
  obtain ⟨arr, h1, h2, h3⟩ := h
  rw [cell_of_row w b i _ _ _ h1]; exact h3 i hi
theorem BoolsIn.frozen {w : World} {b n : Nat} {T : TypeId} {P : Nat → Bool} (h : BoolsIn w b T n P) (i : Nat) : w.frozen? ⟨b, i, none⟩ = false := by
  obtain ⟨arr, h1, h2, h3⟩ := h
  simp [World.frozen?, h1]
theorem BoolsIn.set {w : World} {b n : Nat} {T : TypeId} {P : Nat → Bool} (h : BoolsIn w b T n P) (k : Nat) (v : Bool) : BoolsIn (w.setCell ⟨b, k, none⟩ (.bool v)) b T n (fun i => if i = k then v else P i) := by
  obtain ⟨arr, h1, h2, h3⟩ := h
  refine ⟨arr.setIfInBounds k (.bool v), by simp [World.setCell, Array.getElem?_modify, h1], by simpa using h2, fun i hi => ?_⟩
  rw [Array.getElem?_setIfInBounds]
  by_cases e : k = i
  · subst e; simp [h2, hi]
  · rw [if_neg e]
    simp only [show ¬ i = k from fun h => e h.symm, if_false]
    exact h3 i hi
theorem BoolsIn.below {w w' : World} {b n : Nat} {T : TypeId} {P : Nat → Bool} (h : BoolsIn w b T n P) (hb : Below w.heap.size w w') : BoolsIn w' b T n P := by
  obtain ⟨arr, h1, h2, h3⟩ := h
  exact ⟨arr, by rw [hb.block b (Array.getElem?_eq_some_iff.1 h1).1]; exact h1, h2, h3⟩
theorem BoolsIn.congr {w : World} {b n : Nat} {T : TypeId} {P P' : Nat → Bool} (h : BoolsIn w b T n P) (e : ∀ i, i < n → P i = P' i) : BoolsIn w b T n P' := by
  obtain ⟨arr, h1, h2, h3⟩ := h
  exact ⟨arr, h1, h2, fun i hi => by rw [← e i hi]; exact h3 i hi⟩
theorem BoolsIn.lt {w : World} {b n : Nat} {T : TypeId} {P : Nat → Bool} (h : BoolsIn w b T n P) : b < w.heap.size := by
  obtain ⟨arr, h1, h2, h3⟩ := h
  exact (Array.getElem?_eq_some_iff.1 h1).1
theorem BoolsIn.drawn {w w' : World} {b n : Nat} {T : TypeId} {P : Nat → Bool} (h : BoolsIn w b T n P) (hd : Drawn w w') : BoolsIn w' b T n P := by
  obtain ⟨arr, h1, h2, h3⟩ := h
  exact ⟨arr, by rw [hd.heap]; exact h1, h2, h3⟩

set_option maxHeartbeats 1000000 in
theorem PermOk_i {va : Value} {xs : List Int} {w : World} {Q : Ending → World → Prop} (ha : IntsAt w va xs)
    (hQ : ∀ w', Below w.heap.size w w' → Q (.returned (.bool (Perms.permB xs))) w') :
    Calls Tryz.prog 62 #[va] w Q := by
  have H := Lib.hid hQ; clear hQ
  have ha' := ha
  obtain ⟨aa, ca, rfl, la, lca, cca⟩ := ha'.form
  clear ha'
  by_cases hl : 1 ≤ (xs.length : Int) ∧ (xs.length : Int) ≤ 10
  · have hbs : BoolsIn (w.alloc (.cells #[.bool false, .bool false, .bool false, .bool false, .bool false, .bool false, .bool false, .bool false, .bool false, .bool false] 82)) w.heap.size 82 10 (fun i => decide ((i : Int) ∈ xs.take 0)) :=
      ⟨_, heap_alloc_new _ _, rfl, fun i hi => by
        match i, hi with
        | 0, _ | 1, _ | 2, _ | 3, _ | 4, _ | 5, _ | 6, _ | 7, _ | 8, _ | 9, _ => simp⟩
    have hp : Hid (Perms.permB xs = Perms.okTo xs xs.length) := Lib.hid (by unfold Perms.permB; rw [decide_eq_true (by omega), Bool.true_and])
    obtain ⟨l1, l2⟩ := hl
    go_enter Tryz.func62, Tryz.ntmps62
    go_wp2
    go_loopg [17] xs.length (fun g i wr => Below w.heap.size w wr ∧ ∃ j : Nat, i = .int .i64 j ∧ BoolsIn wr w.heap.size 82 10 (fun i => decide ((i : Int) ∈ xs.take j)) ∧ Hid (Perms.okTo xs j = true) ∧ j + g ≤ xs.length ∧ xs.length ≤ j + g)
    case atStart => exact ⟨below_alloc w _, 0, rfl, hbs, Lib.hid rfl, by omega, by omega⟩
    case round =>
      obtain ⟨hb, j, rfl, hB, hg, hk1, hk2⟩ := hrel
      by_cases hj : j < xs.length
      · have i1 : (j : Int) < xs.length := by omega
        obtain ⟨ba, oa, x, rfl, hx, hcx⟩ := ha.cell hj
        have hcx' := below_cells hb _ _ hcx
        by_cases hr : 0 ≤ x ∧ x < xs.length
        · obtain ⟨r1, r2⟩ := hr
          have hcb := hB.cell (i := x.toNat) (by omega)
          have hfb := hB.frozen x.toNat
          rw [show ((x.toNat : Nat) : Int) = x from by omega] at hcb
          by_cases hm : x ∈ xs.take j
          · have hf : Hid (Perms.permB xs = false) := Lib.hid (by rw [hp.out]; exact Perms.okTo_bad hj (by simp only [Perms.okTo]; rw [hx.out]; simp [hm]))
            have hd : decide (x ∈ xs.take j) = true := decide_eq_true hm
            rw [hd] at hcb
            clear hm hd
            go_wp2
            exact boolq' (H.out _ hb) hf.out
          · have hs : Hid (Perms.okTo xs (j + 1) = true) := Lib.hid (by simp only [Perms.okTo]; rw [hg.out, hx.out]; simp [hm, r1, r2])
            have hd : decide (x ∈ xs.take j) = false := decide_eq_false hm
            rw [hd] at hcb
            clear hm hd
            go_wp2
            go_roundg (gk - 1)
            case measure => omega
            case rel =>
              exact ⟨hb.setCell (Nat.le_refl _) _, j + 1, by go_num, (hB.set x.toNat true).congr (fun i hi => Perms.mem_step hx.out r1 i), hs, by omega, by omega⟩
        · have hf : Hid (Perms.permB xs = false) := Lib.hid (by rw [hp.out]; exact Perms.okTo_bad hj (by simp only [Perms.okTo]; rw [hx.out]; simp; intro _ a b; omega))
          go_wp2
          all_goals exact boolq' (H.out _ hb) hf.out
      · have hf : Hid (Perms.permB xs = true) := Lib.hid (by rw [hp.out, show xs.length = j from by omega]; exact hg.out)
        go_wp2
        exact boolq' (H.out _ hb) hf.out
  · have hf : Hid (Perms.permB xs = false) := Lib.hid (by unfold Perms.permB; rw [decide_eq_false (by omega), Bool.false_and])
    go_enter Tryz.func62, Tryz.ntmps62
    go_wp2
    all_goals exact boolq' (H.out _ (Below.refl _ _)) hf.out
theorem Tryz.infoBool : (Tryz.prog.info? 4).map (fun i => (i.zero, i.size, i.bytes)) = some (some (.bool false), 1, 1) := by kernel_rfl
/-- 'make([]bool, n)'. -/
theorem mk_bools {w : World} {ops : Array Oper} {rest : List Oper} {o : Oper} {a : Act} {Q : Exit → Act → World → Prop}
    (hg : o.guard = none) (l c : Operand) (hop : o.op = Op.makeSlice 81 l c) {C : Int} (hl : a.eval l = .int .i64 C) (hc : a.eval c = .int .i64 C) (n : Nat) (hC : C = n) (hn : n ≤ 1099511627776)
    (hK : ∀ w', BoolsIn w' w.heap.size 4 n (fun _ => false) → Below w.heap.size w w' → w.heap.size < w'.heap.size → wpList Tryz.prog ops Q rest (a.put o.dst (.slice (some ⟨w.heap.size, 0, none⟩) n n)) w') :
    wpList Tryz.prog ops Q (o :: rest) a w := by
  obtain ⟨i0, hi, hz0, hz1, hz2⟩ := info_parts Tryz.infoBool
  refine wpList_make_full w hg l c 81 hop w.heap.size 4 i0 (.bool false) 1 Tryz.underlying81 hi hz0 hz1 .i64 .i64 C C n hl hc hC hC (by rw [hz2]; omega) (by unfold maxLen; omega) (Nat.le_refl _) ?_
  intro w' hown hgr
  have e : (madeCells (Value.bool false).cells (n * 1)).toList = List.replicate n (.bool false) := by
    rw [Nat.mul_one]
    show (madeCells #[Value.bool false] n).toList = _
    rw [toList_madeCells_one]
  rw [e] at hown
  refine hK w' ?_ (below_of_grown hgr (Nat.le_refl _) (fun k hk => by cases hk)) (hown.lt _ rfl).2
  rcases hown.2 with ⟨h, _⟩ | ⟨g, cap, cur, h, hb, hgg, h1, h2, h3, h4⟩
  · simp at h
  · simp only [Value.slice.injEq, Option.some.injEq, Addr.mk.injEq, and_true, true_and] at h
    obtain ⟨rfl, rfl⟩ := h
    refine ⟨cur, hgg, by omega, fun i hi => ?_⟩
    have e2 : (cur.toList.take (n * 1))[i]? = (List.replicate n (Value.bool false))[i]? := by rw [h4]
    rw [List.getElem?_take, if_pos (by omega), List.getElem?_replicate, if_pos hi, Array.getElem?_toList] at e2
    exact e2
set_option maxHeartbeats 1000000 in
theorem PermOk_s {va : Value} {xs : List Int} {w : World} {Q : Ending → World → Prop} (ha : IntsAt w va xs)
    (hQ : ∀ w', Below w.heap.size w w' → Q (.returned (.bool (Perms.permB xs))) w') :
    Calls Tryz.prog 55 #[va] w Q := by
  have H := Lib.hid hQ; clear hQ
  have ha' := ha
  obtain ⟨aa, ca, rfl, la, lca, cca⟩ := ha'.form
  clear ha'
  by_cases hl : 1 ≤ (xs.length : Int) ∧ (xs.length : Int) ≤ 10
  · have hp : Hid (Perms.permB xs = Perms.okTo xs xs.length) := Lib.hid (by unfold Perms.permB; rw [decide_eq_true (by omega), Bool.true_and])
    have hd0 : Hid (decide (1 ≤ (xs.length : Int) ∧ (xs.length : Int) ≤ 10) = true) := Lib.hid (decide_eq_true hl)
    obtain ⟨l1, l2⟩ := hl
    go_enter Tryz.func55, Tryz.ntmps55
    go_wp2_with (first | (go_at_call 29; refine l01In_c ?_; rw [hd0.out]) | (at_make; refine mk_bools rfl (.tmp 11) (.tmp 11) rfl rfl rfl xs.length rfl (by omega) ?_; intro w1 hB1 hb1 hs1))
    go_loopg [15] xs.length (fun g i wr => Below w.heap.size w wr ∧ ∃ j : Nat, i = .int .i64 j ∧ BoolsIn wr w.heap.size 4 xs.length (fun i => decide ((i : Int) ∈ xs.take j)) ∧ Hid (Perms.okTo xs j = true) ∧ j + g ≤ xs.length ∧ xs.length ≤ j + g)
    case atStart => exact ⟨hb1, 0, rfl, hB1.congr (fun i hi => by simp), Lib.hid rfl, by omega, by omega⟩
    case round =>
      obtain ⟨hb, j, rfl, hB, hg, hk1, hk2⟩ := hrel
      by_cases hj : j < xs.length
      · have i1 : (j : Int) < xs.length := by omega
        obtain ⟨ba, oa, x, rfl, hx, hcx⟩ := ha.cell hj
        have hcx' := below_cells hb _ _ hcx
        by_cases hr : 0 ≤ x ∧ x < xs.length
        · have hd1 : Hid (decide (0 ≤ x ∧ x ≤ (xs.length : Int) - 1) = true) := Lib.hid (decide_eq_true (by omega))
          obtain ⟨r1, r2⟩ := hr
          have hcb := hB.cell (i := x.toNat) (by omega)
          have hfb := hB.frozen x.toNat
          rw [show ((x.toNat : Nat) : Int) = x from by omega] at hcb
          by_cases hm : x ∈ xs.take j
          · have hf : Hid (Perms.permB xs = false) := Lib.hid (by rw [hp.out]; exact Perms.okTo_bad hj (by simp only [Perms.okTo]; rw [hx.out]; simp [hm]))
            have hd : decide (x ∈ xs.take j) = true := decide_eq_true hm
            rw [hd] at hcb
            clear hm hd
            go_wp2_with (go_at_call 29; refine l01In_c ?_; rw [hd1.out])
            exact boolq' (H.out _ hb) hf.out
          · have hs : Hid (Perms.okTo xs (j + 1) = true) := Lib.hid (by simp only [Perms.okTo]; rw [hg.out, hx.out]; simp [hm, r1, r2])
            have hd : decide (x ∈ xs.take j) = false := decide_eq_false hm
            rw [hd] at hcb
            clear hm hd
            go_wp2_with (go_at_call 29; refine l01In_c ?_; rw [hd1.out])
            go_roundg (gk - 1)
            case measure => omega
            case rel =>
              exact ⟨hb.setCell (Nat.le_refl _) _, j + 1, by go_num, (hB.set x.toNat true).congr (fun i hi => Perms.mem_step hx.out r1 i), hs, by omega, by omega⟩
        · have hf : Hid (Perms.permB xs = false) := Lib.hid (by rw [hp.out]; exact Perms.okTo_bad hj (by simp only [Perms.okTo]; rw [hx.out]; simp; intro _ a b; omega))
          have hd1 : Hid (decide (0 ≤ x ∧ x ≤ (xs.length : Int) - 1) = false) := Lib.hid (decide_eq_false (by omega))
          clear hr
          go_wp2_with (go_at_call 29; refine l01In_c ?_; rw [hd1.out])
          exact boolq' (H.out _ hb) hf.out
      · have hf : Hid (Perms.permB xs = true) := Lib.hid (by rw [hp.out, show xs.length = j from by omega]; exact hg.out)
        go_wp2_with fail
        exact boolq' (H.out _ hb) hf.out
  · have hf : Hid (Perms.permB xs = false) := Lib.hid (by unfold Perms.permB; rw [decide_eq_false (by omega), Bool.false_and])
    have hd0 : Hid (decide (1 ≤ (xs.length : Int) ∧ (xs.length : Int) ≤ 10) = false) := Lib.hid (decide_eq_false hl)
    clear hl
    go_enter Tryz.func55, Tryz.ntmps55
    go_wp2_with (go_at_call 29; refine l01In_c ?_; rw [hd0.out])
    exact boolq' (H.out _ (Below.refl _ _)) hf.out
end Go.Proofs.YtdjdagcgodpgdaaGreat
