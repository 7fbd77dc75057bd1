/-
  The groups of solid bodies, as the program makes them (printed by mk/mksoli.py).
-/
import Derived.Test.YtdjdagcgodpgdaaGreatSolJ
import Derived.Test.YtdjdagcgodpgdaaGreatGofI
set_option linter.unusedVariables false
namespace Go.Proofs.YtdjdagcgodpgdaaGreat
open Go.RowKit

theorem lit_two (w : World) (x y : List Int) (hx : x.length ≤ 1000) (hy : y.length ≤ 1000) :
    OwnRows (((w.alloc (.cells (ints x).toArray 3)).alloc (.cells (ints y).toArray 3)).alloc (.cells #[.slice (some ⟨w.heap.size, 0, none⟩) x.length x.length, .slice (some ⟨w.heap.size + 1, 0, none⟩) y.length y.length] 36))
      w.heap.size (w.heap.size + 1 + 1 + 1) (.slice (some ⟨w.heap.size + 1 + 1, 0, none⟩) 2 2) [x, y] := by
  have h1 := lit_ints w x hx
  have h2 := lit_ints (w.alloc (.cells (ints x).toArray 3)) y hy
  have h4 := World.ownsRow_lit (size := 1) (base := w.heap.size) ((w.alloc (.cells (ints x).toArray 3)).alloc (.cells (ints y).toArray 3)) (e := 36) #[.slice (some ⟨w.heap.size, 0, none⟩) x.length x.length, .slice (some ⟨w.heap.size + 1, 0, none⟩) y.length y.length] 2 (by simp; omega) (by unfold maxLen; omega) (by simp)
  rw [World.size_alloc] at h2
  rw [World.size_alloc, World.size_alloc] at h4
  refine ⟨_, h4, (fun b hb => by cases hb; exact Nat.lt_succ_self _), rfl, fun k xs hk => ?_, fun i j u u' hij hu hu' => ?_⟩
  · match k, hk with
    | 0, hk => cases hk; exact ⟨_, rfl, OwnInts.below (OwnInts.below h1 (below_alloc _ _)) (below_alloc _ _), (fun b hb => by cases hb; show w.heap.size < _; omega)⟩
    | 1, hk => cases hk; exact ⟨_, rfl, OwnInts.mono (OwnInts.below h2 (below_alloc _ _)) (by omega), (fun b hb => by cases hb; show w.heap.size + 1 < _; omega)⟩
    | k + 2, hk => simp at hk
  · match i, j, hu, hu' with
    | 0, 1, hu, hu' =>
      cases hu; cases hu'
      refine .inr ?_
      show some w.heap.size ≠ some (w.heap.size + 1)
      simp
    | 0, 0, _, _ => omega
    | 1, 0, _, _ => omega
    | 1, 1, _, _ => omega
    | i + 2, j, hu, _ => simp at hu
    | i, j + 2, _, hu' => simp at hu'
theorem Perms.mapTo_get {f : List Int → List Int} {L : List (List Int)} {j : Nat} (hj : j < L.length) : ((L.take j).map f ++ L.drop j)[j]? = L[j]? := by
  rw [List.getElem?_append_right (by simp; omega), List.length_map, List.length_take, Nat.min_eq_left (by omega), Nat.sub_self, List.getElem?_drop, Nat.add_zero]
theorem Perms.mapTo_set {f : List Int → List Int} {L : List (List Int)} {j : Nat} {x : List Int} (hx : L[j]? = some x) : ((L.take j).map f ++ L.drop j).set j (f x) = (L.take (j + 1)).map f ++ L.drop (j + 1) := by
  have hj := (List.getElem?_eq_some_iff.1 hx).1
  have e : L.drop j = x :: L.drop (j + 1) := by
    rw [← (List.getElem?_eq_some_iff.1 hx).2]
    exact List.drop_eq_getElem_cons hj
  have hl : ((L.take j).map f).length = j := by rw [List.length_map, List.length_take]; omega
  rw [List.set_append_right _ _ (by omega), hl, Nat.sub_self, e, List.take_add_one, hx, List.map_append]
  simp
theorem lit_more {W : World} {B E : Nat} {v : Value} {L : List (List Int)} (x : List Int) (hx : x.length ≤ 1000) (ho : OwnRows W B E v L) (hE : E ≤ W.heap.size) (hB : B ≤ W.heap.size) :
    ∃ us, us.length = L.length ∧ Own ((W.alloc (.cells (ints x).toArray 3)).alloc (.cells #[.slice (some ⟨W.heap.size, 0, none⟩) x.length x.length] 36)) B 36 v us ∧
      RowAt ((W.alloc (.cells (ints x).toArray 3)).alloc (.cells #[.slice (some ⟨W.heap.size, 0, none⟩) x.length x.length] 36)) (.slice (some ⟨W.heap.size + 1, 0, none⟩) 1 1) [.slice (some ⟨W.heap.size, 0, none⟩) x.length x.length] ∧
      Rows ((W.alloc (.cells (ints x).toArray 3)).alloc (.cells #[.slice (some ⟨W.heap.size, 0, none⟩) x.length x.length] 36)) B (W.heap.size + 2) (us ++ [.slice (some ⟨W.heap.size, 0, none⟩) x.length x.length]) (L ++ [x]) := by
  obtain ⟨us, h1, h2, h3⟩ := ho.parts
  have hl := lit_ints W x hx
  have hr := row_one (W.alloc (.cells (ints x).toArray 3)) (.slice (some ⟨W.heap.size, 0, none⟩) x.length x.length) 36
  rw [World.size_alloc] at hr
  refine ⟨us, h3.1, Own.below (Own.below h1 (below_alloc _ _)) (below_alloc _ _), hr, ?_⟩
  have h4 := (h3.below (below_alloc W (.cells (ints x).toArray 3))).below (below_alloc _ (.cells #[.slice (some ⟨W.heap.size, 0, none⟩) x.length x.length] 36))
  have h5 := h4.push (OwnInts.mono (OwnInts.below hl (below_alloc _ (.cells #[.slice (some ⟨W.heap.size, 0, none⟩) x.length x.length] 36))) hB) (fun b hb => by cases hb; exact hE)
  rw [World.size_alloc, World.size_alloc] at h5
  exact h5
set_option maxHeartbeats 3200000 in
theorem solI_1_false {w : World} {Q : Ending → World → Prop}
    (hQ : ∀ v w', OwnRows w' w.heap.size w'.heap.size v (Perms.gofW (Nums.sdeg 1) (Perms.igens 1 false)) → Below w.heap.size w w' → Q (.returned (.tuple #[v, .bool (Perms.gofB (Nums.sdeg 1) (Perms.igens 1 false))])) w') :
    Calls Tryz.prog 17 #[.int .i64 1, .bool false] w Q := by
  have H := Lib.hid hQ; clear hQ
  have hd : Hid (Nums.sdeg 1 = 4) := Lib.hid (by decide)
  go_enter Tryz.func17, Tryz.ntmps17
  have o2 := lit_two (w.alloc (.cells #[] 36)) [1, 2, 0, 3] [0, 2, 3, 1] (by simp) (by simp)
  rw [World.size_alloc] at o2
  have b2 := ((below_alloc w (.cells #[] 36)).trans ((below_alloc _ (.cells (ints [1, 2, 0, 3]).toArray 3)).mono (by simp <;> omega))).trans (((below_alloc _ (.cells (ints [0, 2, 3, 1]).toArray 3)).trans ((below_alloc _ (.cells #[.slice (some ⟨w.heap.size + 1, 0, none⟩) 4 4, .slice (some ⟨w.heap.size + 1 + 1, 0, none⟩) 4 4] 36)).mono (by simp <;> omega))).mono (by simp <;> omega))
  have o2' := Lib.hid o2.at
  clear o2
  go_wp2_with fail
  refine SolidDegree_i ?_
  rw [hd.out]
  have hW : Hid (Perms.gofW (Nums.sdeg 1) (Perms.igens 1 false) = Perms.gofW 4 [[1, 2, 0, 3], [0, 2, 3, 1]]) := Lib.hid rfl
  have hB : Hid (Perms.gofB (Nums.sdeg 1) (Perms.igens 1 false) = Perms.gofB 4 [[1, 2, 0, 3], [0, 2, 3, 1]]) := Lib.hid rfl
  go_wp2_with fail
  refine GroupOf_i o2'.out ?_
  intro v3 w3 o3 b3
  rw [← hW.out] at o3
  rw [← hB.out]
  have h3 := Lib.hid (H.out v3 w3 (OwnRows.mono o3 b2.size (Nat.le_refl _)) (b2.trans (b3.mono b2.size)))
  obtain ⟨a3, c3, rfl, _, _, _⟩ := o3.form
  go_wp2_with fail
  exact h3.out
set_option maxHeartbeats 3200000 in
theorem solI_1_true {w : World} {Q : Ending → World → Prop}
    (hQ : ∀ v w', OwnRows w' w.heap.size w'.heap.size v (Perms.gofW (Nums.sdeg 1) (Perms.igens 1 true)) → Below w.heap.size w w' → Q (.returned (.tuple #[v, .bool (Perms.gofB (Nums.sdeg 1) (Perms.igens 1 true))])) w') :
    Calls Tryz.prog 17 #[.int .i64 1, .bool true] w Q := by
  have H := Lib.hid hQ; clear hQ
  have hd : Hid (Nums.sdeg 1 = 4) := Lib.hid (by decide)
  go_enter Tryz.func17, Tryz.ntmps17
  have o2 := lit_two (w.alloc (.cells #[] 36)) [1, 2, 0, 3] [0, 2, 3, 1] (by simp) (by simp)
  rw [World.size_alloc] at o2
  obtain ⟨us, hul, r1, r2, r3⟩ := lit_more [1, 0, 2, 3] (by simp) o2 (by simp <;> omega) (by simp <;> omega)
  have b2 : Below w.heap.size w _ := ((((((below_alloc w (.cells #[] 36)).alloc (by simp) (.cells (ints [1, 2, 0, 3]).toArray 3)).alloc (by simp <;> omega) (.cells (ints [0, 2, 3, 1]).toArray 3)).alloc (by simp <;> omega) (.cells #[.slice (some ⟨w.heap.size + 1, 0, none⟩) 4 4, .slice (some ⟨w.heap.size + 1 + 1, 0, none⟩) 4 4] 36)).alloc (by simp <;> omega) (.cells (ints [1, 0, 2, 3]).toArray 3)).alloc (by simp <;> omega) (.cells #[.slice (some ⟨w.heap.size + 1 + 1 + 1 + 1, 0, none⟩) 4 4] 36))
  simp only [World.size_alloc] at r1 r2 r3
  clear o2
  have r1' := Lib.hid r1
  have r3' := Lib.hid r3
  clear r3
  go_wp2_with (at_builtin; refine app_outer rfl (.tmp 21) (.tmp 23) rfl rfl r1 rfl r2 (fun y hy => by rw [List.mem_singleton] at hy; rw [hy]; rfl) (by show us.length + 1 ≤ 1099511627776; rw [hul]; decide) (by simp <;> omega) ?_; intro v5 w5 o5 g5; have q5 : OwnRows w5 (w.heap.size + 1) w5.heap.size v5 [[1, 2, 0, 3], [0, 2, 3, 1], [1, 0, 2, 3]] := (r3'.out.outer r1'.out g5).tight.whole o5 (Own.inBlk o5); have b5 := b2.grown g5 (by simp <;> omega) (fun b hb => by have := (Own.lt r1'.out hb).1; omega); have q5' := Lib.hid q5.at; obtain ⟨a5, c5, rfl, _, _, _⟩ := q5.form; clear q5 o5 g5)
  refine SolidDegree_i ?_
  rw [hd.out]
  have hW : Hid (Perms.gofW (Nums.sdeg 1) (Perms.igens 1 true) = Perms.gofW 4 [[1, 2, 0, 3], [0, 2, 3, 1], [1, 0, 2, 3]]) := Lib.hid rfl
  have hB : Hid (Perms.gofB (Nums.sdeg 1) (Perms.igens 1 true) = Perms.gofB 4 [[1, 2, 0, 3], [0, 2, 3, 1], [1, 0, 2, 3]]) := Lib.hid rfl
  go_wp2_with fail
  refine GroupOf_i q5'.out ?_
  intro v3 w3 o3 b3
  rw [← hW.out] at o3
  rw [← hB.out]
  have h3 := Lib.hid (H.out v3 w3 (OwnRows.mono o3 b5.size (Nat.le_refl _)) (b5.trans (b3.mono b5.size)))
  obtain ⟨a3, c3, rfl, _, _, _⟩ := o3.form
  go_wp2_with fail
  exact h3.out
set_option maxHeartbeats 3200000 in
theorem solI_2_false {w : World} {Q : Ending → World → Prop}
    (hQ : ∀ v w', OwnRows w' w.heap.size w'.heap.size v (Perms.gofW (Nums.sdeg 2) (Perms.igens 2 false)) → Below w.heap.size w w' → Q (.returned (.tuple #[v, .bool (Perms.gofB (Nums.sdeg 2) (Perms.igens 2 false))])) w') :
    Calls Tryz.prog 17 #[.int .i64 2, .bool false] w Q := by
  have H := Lib.hid hQ; clear hQ
  have hd : Hid (Nums.sdeg 2 = 6) := Lib.hid (by decide)
  go_enter Tryz.func17, Tryz.ntmps17
  have o2 := lit_two (w.alloc (.cells #[] 36)) [1, 2, 0, 3] [0, 2, 3, 1] (by simp) (by simp)
  rw [World.size_alloc] at o2
  have b2 := ((below_alloc w (.cells #[] 36)).trans ((below_alloc _ (.cells (ints [1, 2, 0, 3]).toArray 3)).mono (by simp <;> omega))).trans (((below_alloc _ (.cells (ints [0, 2, 3, 1]).toArray 3)).trans ((below_alloc _ (.cells #[.slice (some ⟨w.heap.size + 1, 0, none⟩) 4 4, .slice (some ⟨w.heap.size + 1 + 1, 0, none⟩) 4 4] 36)).mono (by simp <;> omega))).mono (by simp <;> omega))
  have o2' := Lib.hid o2
  clear o2
  go_wp2_with fail
  obtain ⟨L, hL⟩ : ∃ L : List (List Int), L = [[1, 2, 0, 3], [0, 2, 3, 1]] := ⟨_, rfl⟩
  have hLl : L.length = 2 := by rw [hL]; rfl
  have hgood : Hid (∀ x ∈ L, x.length = 4 ∧ Perms.permB x = true) := Lib.hid (by rw [hL]; decide)
  have hL' := Lib.hid hL
  have r0 : Hid (OwnRows _ (w.heap.size + 1) _ (.slice (some ⟨w.heap.size + 1 + 1 + 1, 0, none⟩) 2 2) ((L.take 0).map Perms.mvAct ++ L.drop 0)) := Lib.hid (by rw [hL]; exact o2'.out.mono (Nat.le_refl _) (Nat.le_refl _))
  have bS := b2
  clear hL
  go_loopg [29] 2 (fun gg u29 wr => ∃ j : Nat, u29 = .int .i64 j ∧ Hid (OwnRows wr (w.heap.size + 1) wr.heap.size (.slice (some ⟨w.heap.size + 1 + 1 + 1, 0, none⟩) 2 2) ((L.take j).map Perms.mvAct ++ L.drop j)) ∧ Below w.heap.size w wr ∧ j + gg = 2 ∧ w.heap.size + 1 ≤ wr.heap.size)
  case atStart => exact ⟨0, rfl, Lib.hid (OwnRows.mono r0.out (Nat.le_refl _) (by simp <;> omega)), bS, rfl, by simp <;> omega⟩
  case round =>
    obtain ⟨j, rfl, oj, bj, hj, hsz⟩ := hrel
    by_cases hjn : j < 2
    · have hjI : (j : Int) < 2 := by omega
      obtain ⟨u, x, hx0, hcx, hux, _⟩ := oj.out.cell (k := j) (by simp; omega)
      have hx : Hid (L[j]? = some x) := Lib.hid (by rw [← hx0.out, Perms.mapTo_get (by omega)])
      have hg := hgood.out x (List.mem_of_getElem? hx.out)
      obtain ⟨ax, cx, rfl, _, _, _⟩ := Own.form hux
      have hux' := Lib.hid (OwnInts.at hux)
      have hg1 := Lib.hid hg.1
      have hg2 := Lib.hid hg.2
      clear hx0 hg hux
      go_wp2_with fail
      refine PairAction_i hux'.out hg1.out hg2.out ?_
      intro v3 w3 o3 b3
      obtain ⟨a3, c3, rfl, _, _, _⟩ := Own.form o3
      have bj3 := bj.trans (b3.mono bj.size)
      have oj3 := oj.out.below b3
      have hf := oj3.frozen j
      obtain ⟨u2, _, _, hc3, _, _⟩ := oj3.cell (k := j) (by simp; omega)
      have hp := OwnRows.put oj3 (OwnInts.mono o3 hsz) (fun b hb => (Own.lt o3 hb).1) j
      rw [Perms.mapTo_set hx.out] at hp
      have hp' := Lib.hid hp.tight
      have bp := bj3.setCell (p := ⟨w.heap.size + 1 + 1 + 1, j, none⟩) (by simp <;> omega) (.slice a3 (ints (Perms.mvAct x)).length c3)
      have hs3 : w.heap.size + 1 ≤ (w3.setCell ⟨w.heap.size + 1 + 1 + 1, j, none⟩ (.slice a3 (ints (Perms.mvAct x)).length c3)).heap.size := by have := b3.size; simp [World.setCell]; omega
      clear hp oj3
      go_wp2_with fail
      go_roundg (gk - 1)
      case measure => omega
      case rel => exact ⟨j + 1, by go_num, hp', bp, by omega, hs3⟩
    · obtain rfl : j = 2 := by omega
      have b2 := bj
      have o2' : Hid (RowsAt wr (.slice (some ⟨w.heap.size + 1 + 1 + 1, 0, none⟩) 2 2) (L.map Perms.mvAct)) := Lib.hid (by
        have h := oj.out.at
        rw [List.take_of_length_le (by omega), List.drop_of_length_le (by omega), List.append_nil] at h
        exact h)
      go_wp2_with fail
      refine SolidDegree_i ?_
      rw [hd.out]
      have hW : Hid (Perms.gofW (Nums.sdeg 2) (Perms.igens 2 false) = Perms.gofW 6 (L.map Perms.mvAct)) := Lib.hid (by rw [hL'.out]; rfl)
      have hB : Hid (Perms.gofB (Nums.sdeg 2) (Perms.igens 2 false) = Perms.gofB 6 (L.map Perms.mvAct)) := Lib.hid (by rw [hL'.out]; rfl)
      go_wp2_with fail
      refine GroupOf_i o2'.out ?_
      intro v3 w3 o3 b3
      rw [← hW.out] at o3
      rw [← hB.out]
      have h3 := Lib.hid (H.out v3 w3 (OwnRows.mono o3 b2.size (Nat.le_refl _)) (b2.trans (b3.mono b2.size)))
      obtain ⟨a3, c3, rfl, _, _, _⟩ := o3.form
      go_wp2_with fail
      exact h3.out
set_option maxHeartbeats 3200000 in
theorem solI_2_true {w : World} {Q : Ending → World → Prop}
    (hQ : ∀ v w', OwnRows w' w.heap.size w'.heap.size v (Perms.gofW (Nums.sdeg 2) (Perms.igens 2 true)) → Below w.heap.size w w' → Q (.returned (.tuple #[v, .bool (Perms.gofB (Nums.sdeg 2) (Perms.igens 2 true))])) w') :
    Calls Tryz.prog 17 #[.int .i64 2, .bool true] w Q := by
  have H := Lib.hid hQ; clear hQ
  have hd : Hid (Nums.sdeg 2 = 6) := Lib.hid (by decide)
  go_enter Tryz.func17, Tryz.ntmps17
  have o2 := lit_two (w.alloc (.cells #[] 36)) [1, 2, 0, 3] [0, 2, 3, 1] (by simp) (by simp)
  rw [World.size_alloc] at o2
  obtain ⟨us, hul, r1, r2, r3⟩ := lit_more [1, 0, 2, 3] (by simp) o2 (by simp <;> omega) (by simp <;> omega)
  have b2 : Below w.heap.size w _ := ((((((below_alloc w (.cells #[] 36)).alloc (by simp) (.cells (ints [1, 2, 0, 3]).toArray 3)).alloc (by simp <;> omega) (.cells (ints [0, 2, 3, 1]).toArray 3)).alloc (by simp <;> omega) (.cells #[.slice (some ⟨w.heap.size + 1, 0, none⟩) 4 4, .slice (some ⟨w.heap.size + 1 + 1, 0, none⟩) 4 4] 36)).alloc (by simp <;> omega) (.cells (ints [1, 0, 2, 3]).toArray 3)).alloc (by simp <;> omega) (.cells #[.slice (some ⟨w.heap.size + 1 + 1 + 1 + 1, 0, none⟩) 4 4] 36))
  simp only [World.size_alloc] at r1 r2 r3
  clear o2
  have r1' := Lib.hid r1
  have r3' := Lib.hid r3
  clear r3
  go_wp2_with (at_builtin; refine app_outer rfl (.tmp 21) (.tmp 23) rfl rfl r1 rfl r2 (fun y hy => by rw [List.mem_singleton] at hy; rw [hy]; rfl) (by show us.length + 1 ≤ 1099511627776; rw [hul]; decide) (by simp <;> omega) ?_; intro v5 w5 o5 g5; have q5 : OwnRows w5 (w.heap.size + 1) w5.heap.size v5 [[1, 2, 0, 3], [0, 2, 3, 1], [1, 0, 2, 3]] := (r3'.out.outer r1'.out g5).tight.whole o5 (Own.inBlk o5); have b5 := b2.grown g5 (by simp <;> omega) (fun b hb => by have := (Own.lt r1'.out hb).1; omega); obtain ⟨a5, c5, rfl, _, _, _⟩ := q5.form; obtain ⟨g5', rfl, hg5, _, _⟩ := q5.head (by decide); have q5' := Lib.hid q5; clear q5 o5 g5)
  obtain ⟨L, hL⟩ : ∃ L : List (List Int), L = [[1, 2, 0, 3], [0, 2, 3, 1], [1, 0, 2, 3]] := ⟨_, rfl⟩
  have hLl : L.length = 3 := by rw [hL]; rfl
  have hgood : Hid (∀ x ∈ L, x.length = 4 ∧ Perms.permB x = true) := Lib.hid (by rw [hL]; decide)
  have hL' := Lib.hid hL
  have r0 : Hid (OwnRows _ (w.heap.size + 1) _ (.slice (some ⟨g5', 0, none⟩) 3 c5) ((L.take 0).map Perms.mvAct ++ L.drop 0)) := Lib.hid (by rw [hL]; exact q5'.out.mono (Nat.le_refl _) (Nat.le_refl _))
  have bS := b5
  clear hL
  go_loopg [29] 3 (fun gg u29 wr => ∃ j : Nat, u29 = .int .i64 j ∧ Hid (OwnRows wr (w.heap.size + 1) wr.heap.size (.slice (some ⟨g5', 0, none⟩) 3 c5) ((L.take j).map Perms.mvAct ++ L.drop j)) ∧ Below w.heap.size w wr ∧ j + gg = 3 ∧ w.heap.size + 1 ≤ wr.heap.size)
  case atStart => exact ⟨0, rfl, Lib.hid (OwnRows.mono r0.out (Nat.le_refl _) (Nat.le_refl _)), bS, rfl, by have := b5.size; have := (q5'.out.head (by decide)); obtain ⟨_, e, _, _, _⟩ := this; cases e; omega⟩
  case round =>
    obtain ⟨j, rfl, oj, bj, hj, hsz⟩ := hrel
    by_cases hjn : j < 3
    · have hjI : (j : Int) < 3 := by omega
      obtain ⟨u, x, hx0, hcx, hux, _⟩ := oj.out.cell (k := j) (by simp; omega)
      have hx : Hid (L[j]? = some x) := Lib.hid (by rw [← hx0.out, Perms.mapTo_get (by omega)])
      have hg := hgood.out x (List.mem_of_getElem? hx.out)
      obtain ⟨ax, cx, rfl, _, _, _⟩ := Own.form hux
      have hux' := Lib.hid (OwnInts.at hux)
      have hg1 := Lib.hid hg.1
      have hg2 := Lib.hid hg.2
      clear hx0 hg hux
      go_wp2_with fail
      refine PairAction_i hux'.out hg1.out hg2.out ?_
      intro v3 w3 o3 b3
      obtain ⟨a3, c3, rfl, _, _, _⟩ := Own.form o3
      have bj3 := bj.trans (b3.mono bj.size)
      have oj3 := oj.out.below b3
      have hf := oj3.frozen j
      obtain ⟨u2, _, _, hc3, _, _⟩ := oj3.cell (k := j) (by simp; omega)
      have hp := OwnRows.put oj3 (OwnInts.mono o3 hsz) (fun b hb => (Own.lt o3 hb).1) j
      rw [Perms.mapTo_set hx.out] at hp
      have hp' := Lib.hid hp.tight
      have bp := bj3.setCell (p := ⟨g5', j, none⟩) (by show w.heap.size ≤ g5'; omega) (.slice a3 (ints (Perms.mvAct x)).length c3)
      have hs3 : w.heap.size + 1 ≤ (w3.setCell ⟨g5', j, none⟩ (.slice a3 (ints (Perms.mvAct x)).length c3)).heap.size := by have := b3.size; simp [World.setCell]; omega
      clear hp oj3
      go_wp2_with fail
      go_roundg (gk - 1)
      case measure => omega
      case rel => exact ⟨j + 1, by go_num, hp', bp, by omega, hs3⟩
    · obtain rfl : j = 3 := by omega
      have b2 := bj
      have o2' : Hid (RowsAt wr (.slice (some ⟨g5', 0, none⟩) 3 c5) (L.map Perms.mvAct)) := Lib.hid (by
        have h := oj.out.at
        rw [List.take_of_length_le (by omega), List.drop_of_length_le (by omega), List.append_nil] at h
        exact h)
      go_wp2_with fail
      refine SolidDegree_i ?_
      rw [hd.out]
      have hW : Hid (Perms.gofW (Nums.sdeg 2) (Perms.igens 2 true) = Perms.gofW 6 (L.map Perms.mvAct)) := Lib.hid (by rw [hL'.out]; rfl)
      have hB : Hid (Perms.gofB (Nums.sdeg 2) (Perms.igens 2 true) = Perms.gofB 6 (L.map Perms.mvAct)) := Lib.hid (by rw [hL'.out]; rfl)
      go_wp2_with fail
      refine GroupOf_i o2'.out ?_
      intro v3 w3 o3 b3
      rw [← hW.out] at o3
      rw [← hB.out]
      have h3 := Lib.hid (H.out v3 w3 (OwnRows.mono o3 b2.size (Nat.le_refl _)) (b2.trans (b3.mono b2.size)))
      obtain ⟨a3, c3, rfl, _, _, _⟩ := o3.form
      go_wp2_with fail
      exact h3.out
set_option maxHeartbeats 3200000 in
theorem solI_3_false {w : World} {Q : Ending → World → Prop}
    (hQ : ∀ v w', OwnRows w' w.heap.size w'.heap.size v (Perms.gofW (Nums.sdeg 3) (Perms.igens 3 false)) → Below w.heap.size w w' → Q (.returned (.tuple #[v, .bool (Perms.gofB (Nums.sdeg 3) (Perms.igens 3 false))])) w') :
    Calls Tryz.prog 17 #[.int .i64 3, .bool false] w Q := by
  have H := Lib.hid hQ; clear hQ
  have hd : Hid (Nums.sdeg 3 = 6) := Lib.hid (by decide)
  go_enter Tryz.func17, Tryz.ntmps17
  have o0 := own_outer_empty w
  have b0 := below_alloc w (.cells #[] 36)
  go_wp2_with fail
  refine faces_c ?_
  intro v1 w1 q1 b1
  obtain ⟨g, cap, cur, rfl, hg1, hg2, hg3, hg4⟩ := q1.blk (by decide)
  have bw1 := b0.trans (b1.mono b0.size)
  have ow1 := Own.below o0 b1
  have hgA := Lib.hid hg1
  have hgB := Lib.hid hg2
  clear hg1 hg2
  go_wp2_with fail
  refine cubeMoves_c ?_
  intro b w2 hb b2
  have bw2 := bw1.trans (b2.mono bw1.size)
  have ow2 := Own.below ow1 b2
  have hgA2 := Lib.hid (blk_below hgA.out b2)
  have hbA := Lib.hid hb
  have R0 := Lib.hid (Rows.nil w2 w.heap.size w2.heap.size)
  obtain ⟨F, hF⟩ : ∃ F, F = Perms.face := ⟨_, rfl⟩
  have hFl : F.length = 6 := by rw [hF]; decide
  have hF' := Lib.hid hF
  have hFr : Hid (∀ t ∈ F, -100 ≤ t.2.1 ∧ t.2.1 ≤ 100 ∧ -100 ≤ t.2.2 ∧ t.2.2 ≤ 100) := Lib.hid (by rw [hF]; decide)
  have hfl' : Perms.face.length = F.length := by rw [hF]
  rw [hfl'] at hg3 ⊢
  rw [← hF] at hgB
  clear hb hgA hF hfl'
  go_wp2_with fail
  go_loopg [6, 58] 2 (fun gg u6 u58 wr => ∃ (j : Nat) (us : List Value), u58 = .int .i64 j ∧ Own wr w.heap.size 36 u6 us ∧ Hid (Rows wr w.heap.size wr.heap.size us (((Perms.imvs true).take j).map fun mv => permTo F mv F.length)) ∧ Below w.heap.size w wr ∧ Hid (wr.heap[g]? = some (.cells cur 72 (0, 0))) ∧ Hid (wr.heap[b]? = some (.cells mvCells 55 (0, 0))) ∧ j + gg = 2)
  case atStart => exact ⟨0, [], rfl, ow2, R0, bw2, hgA2, hbA, rfl⟩
  case round =>
    obtain ⟨j, us, rfl, oj, rj, bj, gj, fj, hj⟩ := hrel
    obtain ⟨a6, c6, rfl, _, _, _⟩ := Own.form oj
    have husl : us.length ≤ 3 := by rw [rj.out.1, List.length_map, List.length_take]; omega
    by_cases hjn : j < 2
    · have hjI : (j : Int) < 2 := by omega
      obtain ⟨N, hN1, hN2, mv, hmv, hM⟩ := moves_at (j := j) (by omega)
      have hcN := cellOf fj.out hN1
      unfold funcN at hcN
      have hM' := Lib.hid (hM F hFr.out)
      have hmv' := Lib.hid hmv
      have hAt := Lib.hid (hgB.out wr gj.out)
      have hl1 : 1 ≤ F.length := by omega
      have hl8 : F.length ≤ 8 := by omega
      have hcall : Hid (∀ Q : Ending → World → Prop, (∀ v w', OwnInts w' wr.heap.size v (permTo F mv F.length) → Below wr.heap.size wr w' → Q (.returned v) w') → Calls Tryz.prog 36 #[.slice (some ⟨g, 0, none⟩) 6 cap, .func (.func N) #[] #[]] wr Q) := Lib.hid (by
        intro Q h
        have h2 := permuted_c hAt.out hl1 hl8 hg3 hg4 hN2 hM'.out h
        rw [hFl] at h2
        exact h2)
      clear hM hmv hN1
      go_wp2_with fail
      refine hcall.out _ ?_
      intro v3 w3 o3 b3
      obtain ⟨y, hy⟩ : ∃ y, y = permTo F mv F.length := ⟨_, rfl⟩
      have hst : Hid (((Perms.imvs true).take (j + 1)).map (fun mv => permTo F mv F.length) = ((Perms.imvs true).take j).map (fun mv => permTo F mv F.length) ++ [y]) := Lib.hid (by rw [List.take_add_one, hmv'.out, List.map_append, hy]; rfl)
      rw [← hy] at o3
      clear hy
      obtain ⟨a3, c3, rfl, _, _, _⟩ := Own.form o3
      have bj3 := bj.trans (b3.mono bj.size)
      have ba := below_alloc w3 (.cells #[.slice a3 (ints y).length c3] 36)
      have oj3 := Own.below (Own.below oj b3) ba
      have hr3 := row_one w3 (.slice a3 (ints y).length c3) 36
      have hone : Hid (∀ y' ∈ [Value.slice a3 (ints y).length c3], y'.oneCell' = true) := Lib.hid (fun y' hy' => by rw [List.mem_singleton] at hy'; rw [hy']; rfl)
      have bj4 := bj3.trans (ba.mono bj3.size)
      have oy := Lib.hid (OwnInts.below o3 ba)
      have rj3 := Lib.hid ((rj.out.below b3).below ba)
      have gj3 := Lib.hid (blk_below (blk_below gj.out b3) ba)
      have fj3 := Lib.hid (blk_below (blk_below fj.out b3) ba)
      clear o3
      go_wp2_with (at_builtin; refine app_outer rfl (.tmp 62) (.tmp 66) rfl rfl oj3 rfl hr3 hone.out (by show us.length + 1 ≤ 1099511627776; omega) bj4.size ?_; intro v5 w5 o5 g5)
      have rj5 := Lib.hid ((((rj3.out).push (xs := y) (OwnInts.mono oy.out bj.size) (fun b hb => (Own.lt oy.out hb).1)).outer oj3 g5).tight)
      rw [← hst.out] at rj5
      have bj5 := bj4.grown g5 bj4.size (fun b hb => (Own.lt oj3 hb).1)
      have gj5 := Lib.hid (blk_grown gj3.out (by decide) oj3 g5)
      have fj5 := Lib.hid (blk_grown fj3.out (by decide) oj3 g5)
      go_roundg (gk - 1)
      case measure => omega
      case rel => exact ⟨j + 1, _, by go_num, o5, rj5, bj5, gj5, fj5, by omega⟩
    · obtain rfl : j = 2 := by omega
      have b2 := bj
      have o2' : Hid (RowsAt wr (.slice a6 us.length c6) ((Perms.imvs false).map fun mv => permTo F mv F.length)) := Lib.hid ((rj.out.whole oj (Own.inBlk oj)).at)
      go_wp2_with fail
      refine SolidDegree_i ?_
      rw [hd.out]
      have hW : Hid (Perms.gofW (Nums.sdeg 3) (Perms.igens 3 false) = Perms.gofW 6 ((Perms.imvs false).map fun mv => permTo F mv F.length)) := Lib.hid (by rw [hF'.out]; rfl)
      have hB : Hid (Perms.gofB (Nums.sdeg 3) (Perms.igens 3 false) = Perms.gofB 6 ((Perms.imvs false).map fun mv => permTo F mv F.length)) := Lib.hid (by rw [hF'.out]; rfl)
      go_wp2_with fail
      refine GroupOf_i o2'.out ?_
      intro v3 w3 o3 b3
      rw [← hW.out] at o3
      rw [← hB.out]
      have h3 := Lib.hid (H.out v3 w3 (OwnRows.mono o3 b2.size (Nat.le_refl _)) (b2.trans (b3.mono b2.size)))
      obtain ⟨a3, c3, rfl, _, _, _⟩ := o3.form
      go_wp2_with fail
      exact h3.out
set_option maxHeartbeats 3200000 in
theorem solI_3_true {w : World} {Q : Ending → World → Prop}
    (hQ : ∀ v w', OwnRows w' w.heap.size w'.heap.size v (Perms.gofW (Nums.sdeg 3) (Perms.igens 3 true)) → Below w.heap.size w w' → Q (.returned (.tuple #[v, .bool (Perms.gofB (Nums.sdeg 3) (Perms.igens 3 true))])) w') :
    Calls Tryz.prog 17 #[.int .i64 3, .bool true] w Q := by
  have H := Lib.hid hQ; clear hQ
  have hd : Hid (Nums.sdeg 3 = 6) := Lib.hid (by decide)
  go_enter Tryz.func17, Tryz.ntmps17
  have o0 := own_outer_empty w
  have b0 := below_alloc w (.cells #[] 36)
  go_wp2_with fail
  refine faces_c ?_
  intro v1 w1 q1 b1
  obtain ⟨g, cap, cur, rfl, hg1, hg2, hg3, hg4⟩ := q1.blk (by decide)
  have bw1 := b0.trans (b1.mono b0.size)
  have ow1 := Own.below o0 b1
  have hgA := Lib.hid hg1
  have hgB := Lib.hid hg2
  clear hg1 hg2
  go_wp2_with fail
  refine cubeMoves_c ?_
  intro b w2 hb b2
  have bw2 := bw1.trans (b2.mono bw1.size)
  have ow2 := Own.below ow1 b2
  have hgA2 := Lib.hid (blk_below hgA.out b2)
  have hbA := Lib.hid hb
  have R0 := Lib.hid (Rows.nil w2 w.heap.size w2.heap.size)
  obtain ⟨F, hF⟩ : ∃ F, F = Perms.face := ⟨_, rfl⟩
  have hFl : F.length = 6 := by rw [hF]; decide
  have hF' := Lib.hid hF
  have hFr : Hid (∀ t ∈ F, -100 ≤ t.2.1 ∧ t.2.1 ≤ 100 ∧ -100 ≤ t.2.2 ∧ t.2.2 ≤ 100) := Lib.hid (by rw [hF]; decide)
  have hfl' : Perms.face.length = F.length := by rw [hF]
  rw [hfl'] at hg3 ⊢
  rw [← hF] at hgB
  clear hb hgA hF hfl'
  go_wp2_with fail
  go_loopg [6, 58] 3 (fun gg u6 u58 wr => ∃ (j : Nat) (us : List Value), u58 = .int .i64 j ∧ Own wr w.heap.size 36 u6 us ∧ Hid (Rows wr w.heap.size wr.heap.size us (((Perms.imvs true).take j).map fun mv => permTo F mv F.length)) ∧ Below w.heap.size w wr ∧ Hid (wr.heap[g]? = some (.cells cur 72 (0, 0))) ∧ Hid (wr.heap[b]? = some (.cells mvCells 55 (0, 0))) ∧ j + gg = 3)
  case atStart => exact ⟨0, [], rfl, ow2, R0, bw2, hgA2, hbA, rfl⟩
  case round =>
    obtain ⟨j, us, rfl, oj, rj, bj, gj, fj, hj⟩ := hrel
    obtain ⟨a6, c6, rfl, _, _, _⟩ := Own.form oj
    have husl : us.length ≤ 3 := by rw [rj.out.1, List.length_map, List.length_take]; omega
    by_cases hjn : j < 3
    · have hjI : (j : Int) < 3 := by omega
      obtain ⟨N, hN1, hN2, mv, hmv, hM⟩ := moves_at (j := j) (by omega)
      have hcN := cellOf fj.out hN1
      unfold funcN at hcN
      have hM' := Lib.hid (hM F hFr.out)
      have hmv' := Lib.hid hmv
      have hAt := Lib.hid (hgB.out wr gj.out)
      have hl1 : 1 ≤ F.length := by omega
      have hl8 : F.length ≤ 8 := by omega
      have hcall : Hid (∀ Q : Ending → World → Prop, (∀ v w', OwnInts w' wr.heap.size v (permTo F mv F.length) → Below wr.heap.size wr w' → Q (.returned v) w') → Calls Tryz.prog 36 #[.slice (some ⟨g, 0, none⟩) 6 cap, .func (.func N) #[] #[]] wr Q) := Lib.hid (by
        intro Q h
        have h2 := permuted_c hAt.out hl1 hl8 hg3 hg4 hN2 hM'.out h
        rw [hFl] at h2
        exact h2)
      clear hM hmv hN1
      go_wp2_with fail
      refine hcall.out _ ?_
      intro v3 w3 o3 b3
      obtain ⟨y, hy⟩ : ∃ y, y = permTo F mv F.length := ⟨_, rfl⟩
      have hst : Hid (((Perms.imvs true).take (j + 1)).map (fun mv => permTo F mv F.length) = ((Perms.imvs true).take j).map (fun mv => permTo F mv F.length) ++ [y]) := Lib.hid (by rw [List.take_add_one, hmv'.out, List.map_append, hy]; rfl)
      rw [← hy] at o3
      clear hy
      obtain ⟨a3, c3, rfl, _, _, _⟩ := Own.form o3
      have bj3 := bj.trans (b3.mono bj.size)
      have ba := below_alloc w3 (.cells #[.slice a3 (ints y).length c3] 36)
      have oj3 := Own.below (Own.below oj b3) ba
      have hr3 := row_one w3 (.slice a3 (ints y).length c3) 36
      have hone : Hid (∀ y' ∈ [Value.slice a3 (ints y).length c3], y'.oneCell' = true) := Lib.hid (fun y' hy' => by rw [List.mem_singleton] at hy'; rw [hy']; rfl)
      have bj4 := bj3.trans (ba.mono bj3.size)
      have oy := Lib.hid (OwnInts.below o3 ba)
      have rj3 := Lib.hid ((rj.out.below b3).below ba)
      have gj3 := Lib.hid (blk_below (blk_below gj.out b3) ba)
      have fj3 := Lib.hid (blk_below (blk_below fj.out b3) ba)
      clear o3
      go_wp2_with (at_builtin; refine app_outer rfl (.tmp 62) (.tmp 66) rfl rfl oj3 rfl hr3 hone.out (by show us.length + 1 ≤ 1099511627776; omega) bj4.size ?_; intro v5 w5 o5 g5)
      have rj5 := Lib.hid ((((rj3.out).push (xs := y) (OwnInts.mono oy.out bj.size) (fun b hb => (Own.lt oy.out hb).1)).outer oj3 g5).tight)
      rw [← hst.out] at rj5
      have bj5 := bj4.grown g5 bj4.size (fun b hb => (Own.lt oj3 hb).1)
      have gj5 := Lib.hid (blk_grown gj3.out (by decide) oj3 g5)
      have fj5 := Lib.hid (blk_grown fj3.out (by decide) oj3 g5)
      go_roundg (gk - 1)
      case measure => omega
      case rel => exact ⟨j + 1, _, by go_num, o5, rj5, bj5, gj5, fj5, by omega⟩
    · obtain rfl : j = 3 := by omega
      have b2 := bj
      have o2' : Hid (RowsAt wr (.slice a6 us.length c6) ((Perms.imvs true).map fun mv => permTo F mv F.length)) := Lib.hid ((rj.out.whole oj (Own.inBlk oj)).at)
      go_wp2_with fail
      refine SolidDegree_i ?_
      rw [hd.out]
      have hW : Hid (Perms.gofW (Nums.sdeg 3) (Perms.igens 3 true) = Perms.gofW 6 ((Perms.imvs true).map fun mv => permTo F mv F.length)) := Lib.hid (by rw [hF'.out]; rfl)
      have hB : Hid (Perms.gofB (Nums.sdeg 3) (Perms.igens 3 true) = Perms.gofB 6 ((Perms.imvs true).map fun mv => permTo F mv F.length)) := Lib.hid (by rw [hF'.out]; rfl)
      go_wp2_with fail
      refine GroupOf_i o2'.out ?_
      intro v3 w3 o3 b3
      rw [← hW.out] at o3
      rw [← hB.out]
      have h3 := Lib.hid (H.out v3 w3 (OwnRows.mono o3 b2.size (Nat.le_refl _)) (b2.trans (b3.mono b2.size)))
      obtain ⟨a3, c3, rfl, _, _, _⟩ := o3.form
      go_wp2_with fail
      exact h3.out
set_option maxHeartbeats 3200000 in
theorem solI_4_false {w : World} {Q : Ending → World → Prop}
    (hQ : ∀ v w', OwnRows w' w.heap.size w'.heap.size v (Perms.gofW (Nums.sdeg 4) (Perms.igens 4 false)) → Below w.heap.size w w' → Q (.returned (.tuple #[v, .bool (Perms.gofB (Nums.sdeg 4) (Perms.igens 4 false))])) w') :
    Calls Tryz.prog 17 #[.int .i64 4, .bool false] w Q := by
  have H := Lib.hid hQ; clear hQ
  have hd : Hid (Nums.sdeg 4 = 8) := Lib.hid (by decide)
  go_enter Tryz.func17, Tryz.ntmps17
  have o0 := own_outer_empty w
  have b0 := below_alloc w (.cells #[] 36)
  go_wp2_with fail
  refine faces_c ?_
  intro v1 w1 q1 b1
  obtain ⟨g0, cap0, cur0, rfl, _, _, _, _⟩ := q1.blk (by decide)
  clear q1
  go_wp2_with fail
  refine corners_c ?_
  intro v1' w1' q1' b1'
  obtain ⟨g, cap, cur, rfl, hg1, hg2, hg3, hg4⟩ := q1'.blk (by decide)
  have bw1 := (b0.trans (b1.mono b0.size)).trans (b1'.mono (b0.trans (b1.mono b0.size)).size)
  have ow1 := Own.below (Own.below o0 b1) b1'
  have hgA := Lib.hid hg1
  have hgB := Lib.hid hg2
  clear hg1 hg2
  go_wp2_with fail
  refine cubeMoves_c ?_
  intro b w2 hb b2
  have bw2 := bw1.trans (b2.mono bw1.size)
  have ow2 := Own.below ow1 b2
  have hgA2 := Lib.hid (blk_below hgA.out b2)
  have hbA := Lib.hid hb
  have R0 := Lib.hid (Rows.nil w2 w.heap.size w2.heap.size)
  obtain ⟨F, hF⟩ : ∃ F, F = (Perms.cornTo 8) := ⟨_, rfl⟩
  have hFl : F.length = 8 := by rw [hF]; decide
  have hF' := Lib.hid hF
  have hFr : Hid (∀ t ∈ F, -100 ≤ t.2.1 ∧ t.2.1 ≤ 100 ∧ -100 ≤ t.2.2 ∧ t.2.2 ≤ 100) := Lib.hid (by rw [hF]; decide)
  have hfl' : (Perms.cornTo 8).length = F.length := by rw [hF]
  rw [hfl'] at hg3 ⊢
  rw [← hF] at hgB
  clear hb hgA hF hfl'
  go_wp2_with fail
  go_loopg [6, 58] 2 (fun gg u6 u58 wr => ∃ (j : Nat) (us : List Value), u58 = .int .i64 j ∧ Own wr w.heap.size 36 u6 us ∧ Hid (Rows wr w.heap.size wr.heap.size us (((Perms.imvs true).take j).map fun mv => permTo F mv F.length)) ∧ Below w.heap.size w wr ∧ Hid (wr.heap[g]? = some (.cells cur 72 (0, 0))) ∧ Hid (wr.heap[b]? = some (.cells mvCells 55 (0, 0))) ∧ j + gg = 2)
  case atStart => exact ⟨0, [], rfl, ow2, R0, bw2, hgA2, hbA, rfl⟩
  case round =>
    obtain ⟨j, us, rfl, oj, rj, bj, gj, fj, hj⟩ := hrel
    obtain ⟨a6, c6, rfl, _, _, _⟩ := Own.form oj
    have husl : us.length ≤ 3 := by rw [rj.out.1, List.length_map, List.length_take]; omega
    by_cases hjn : j < 2
    · have hjI : (j : Int) < 2 := by omega
      obtain ⟨N, hN1, hN2, mv, hmv, hM⟩ := moves_at (j := j) (by omega)
      have hcN := cellOf fj.out hN1
      unfold funcN at hcN
      have hM' := Lib.hid (hM F hFr.out)
      have hmv' := Lib.hid hmv
      have hAt := Lib.hid (hgB.out wr gj.out)
      have hl1 : 1 ≤ F.length := by omega
      have hl8 : F.length ≤ 8 := by omega
      have hcall : Hid (∀ Q : Ending → World → Prop, (∀ v w', OwnInts w' wr.heap.size v (permTo F mv F.length) → Below wr.heap.size wr w' → Q (.returned v) w') → Calls Tryz.prog 36 #[.slice (some ⟨g, 0, none⟩) 8 cap, .func (.func N) #[] #[]] wr Q) := Lib.hid (by
        intro Q h
        have h2 := permuted_c hAt.out hl1 hl8 hg3 hg4 hN2 hM'.out h
        rw [hFl] at h2
        exact h2)
      clear hM hmv hN1
      go_wp2_with fail
      refine hcall.out _ ?_
      intro v3 w3 o3 b3
      obtain ⟨y, hy⟩ : ∃ y, y = permTo F mv F.length := ⟨_, rfl⟩
      have hst : Hid (((Perms.imvs true).take (j + 1)).map (fun mv => permTo F mv F.length) = ((Perms.imvs true).take j).map (fun mv => permTo F mv F.length) ++ [y]) := Lib.hid (by rw [List.take_add_one, hmv'.out, List.map_append, hy]; rfl)
      rw [← hy] at o3
      clear hy
      obtain ⟨a3, c3, rfl, _, _, _⟩ := Own.form o3
      have bj3 := bj.trans (b3.mono bj.size)
      have ba := below_alloc w3 (.cells #[.slice a3 (ints y).length c3] 36)
      have oj3 := Own.below (Own.below oj b3) ba
      have hr3 := row_one w3 (.slice a3 (ints y).length c3) 36
      have hone : Hid (∀ y' ∈ [Value.slice a3 (ints y).length c3], y'.oneCell' = true) := Lib.hid (fun y' hy' => by rw [List.mem_singleton] at hy'; rw [hy']; rfl)
      have bj4 := bj3.trans (ba.mono bj3.size)
      have oy := Lib.hid (OwnInts.below o3 ba)
      have rj3 := Lib.hid ((rj.out.below b3).below ba)
      have gj3 := Lib.hid (blk_below (blk_below gj.out b3) ba)
      have fj3 := Lib.hid (blk_below (blk_below fj.out b3) ba)
      clear o3
      go_wp2_with (at_builtin; refine app_outer rfl (.tmp 62) (.tmp 66) rfl rfl oj3 rfl hr3 hone.out (by show us.length + 1 ≤ 1099511627776; omega) bj4.size ?_; intro v5 w5 o5 g5)
      have rj5 := Lib.hid ((((rj3.out).push (xs := y) (OwnInts.mono oy.out bj.size) (fun b hb => (Own.lt oy.out hb).1)).outer oj3 g5).tight)
      rw [← hst.out] at rj5
      have bj5 := bj4.grown g5 bj4.size (fun b hb => (Own.lt oj3 hb).1)
      have gj5 := Lib.hid (blk_grown gj3.out (by decide) oj3 g5)
      have fj5 := Lib.hid (blk_grown fj3.out (by decide) oj3 g5)
      go_roundg (gk - 1)
      case measure => omega
      case rel => exact ⟨j + 1, _, by go_num, o5, rj5, bj5, gj5, fj5, by omega⟩
    · obtain rfl : j = 2 := by omega
      have b2 := bj
      have o2' : Hid (RowsAt wr (.slice a6 us.length c6) ((Perms.imvs false).map fun mv => permTo F mv F.length)) := Lib.hid ((rj.out.whole oj (Own.inBlk oj)).at)
      go_wp2_with fail
      refine SolidDegree_i ?_
      rw [hd.out]
      have hW : Hid (Perms.gofW (Nums.sdeg 4) (Perms.igens 4 false) = Perms.gofW 8 ((Perms.imvs false).map fun mv => permTo F mv F.length)) := Lib.hid (by rw [hF'.out]; rfl)
      have hB : Hid (Perms.gofB (Nums.sdeg 4) (Perms.igens 4 false) = Perms.gofB 8 ((Perms.imvs false).map fun mv => permTo F mv F.length)) := Lib.hid (by rw [hF'.out]; rfl)
      go_wp2_with fail
      refine GroupOf_i o2'.out ?_
      intro v3 w3 o3 b3
      rw [← hW.out] at o3
      rw [← hB.out]
      have h3 := Lib.hid (H.out v3 w3 (OwnRows.mono o3 b2.size (Nat.le_refl _)) (b2.trans (b3.mono b2.size)))
      obtain ⟨a3, c3, rfl, _, _, _⟩ := o3.form
      go_wp2_with fail
      exact h3.out
set_option maxHeartbeats 3200000 in
theorem solI_4_true {w : World} {Q : Ending → World → Prop}
    (hQ : ∀ v w', OwnRows w' w.heap.size w'.heap.size v (Perms.gofW (Nums.sdeg 4) (Perms.igens 4 true)) → Below w.heap.size w w' → Q (.returned (.tuple #[v, .bool (Perms.gofB (Nums.sdeg 4) (Perms.igens 4 true))])) w') :
    Calls Tryz.prog 17 #[.int .i64 4, .bool true] w Q := by
  have H := Lib.hid hQ; clear hQ
  have hd : Hid (Nums.sdeg 4 = 8) := Lib.hid (by decide)
  go_enter Tryz.func17, Tryz.ntmps17
  have o0 := own_outer_empty w
  have b0 := below_alloc w (.cells #[] 36)
  go_wp2_with fail
  refine faces_c ?_
  intro v1 w1 q1 b1
  obtain ⟨g0, cap0, cur0, rfl, _, _, _, _⟩ := q1.blk (by decide)
  clear q1
  go_wp2_with fail
  refine corners_c ?_
  intro v1' w1' q1' b1'
  obtain ⟨g, cap, cur, rfl, hg1, hg2, hg3, hg4⟩ := q1'.blk (by decide)
  have bw1 := (b0.trans (b1.mono b0.size)).trans (b1'.mono (b0.trans (b1.mono b0.size)).size)
  have ow1 := Own.below (Own.below o0 b1) b1'
  have hgA := Lib.hid hg1
  have hgB := Lib.hid hg2
  clear hg1 hg2
  go_wp2_with fail
  refine cubeMoves_c ?_
  intro b w2 hb b2
  have bw2 := bw1.trans (b2.mono bw1.size)
  have ow2 := Own.below ow1 b2
  have hgA2 := Lib.hid (blk_below hgA.out b2)
  have hbA := Lib.hid hb
  have R0 := Lib.hid (Rows.nil w2 w.heap.size w2.heap.size)
  obtain ⟨F, hF⟩ : ∃ F, F = (Perms.cornTo 8) := ⟨_, rfl⟩
  have hFl : F.length = 8 := by rw [hF]; decide
  have hF' := Lib.hid hF
  have hFr : Hid (∀ t ∈ F, -100 ≤ t.2.1 ∧ t.2.1 ≤ 100 ∧ -100 ≤ t.2.2 ∧ t.2.2 ≤ 100) := Lib.hid (by rw [hF]; decide)
  have hfl' : (Perms.cornTo 8).length = F.length := by rw [hF]
  rw [hfl'] at hg3 ⊢
  rw [← hF] at hgB
  clear hb hgA hF hfl'
  go_wp2_with fail
  go_loopg [6, 58] 3 (fun gg u6 u58 wr => ∃ (j : Nat) (us : List Value), u58 = .int .i64 j ∧ Own wr w.heap.size 36 u6 us ∧ Hid (Rows wr w.heap.size wr.heap.size us (((Perms.imvs true).take j).map fun mv => permTo F mv F.length)) ∧ Below w.heap.size w wr ∧ Hid (wr.heap[g]? = some (.cells cur 72 (0, 0))) ∧ Hid (wr.heap[b]? = some (.cells mvCells 55 (0, 0))) ∧ j + gg = 3)
  case atStart => exact ⟨0, [], rfl, ow2, R0, bw2, hgA2, hbA, rfl⟩
  case round =>
    obtain ⟨j, us, rfl, oj, rj, bj, gj, fj, hj⟩ := hrel
    obtain ⟨a6, c6, rfl, _, _, _⟩ := Own.form oj
    have husl : us.length ≤ 3 := by rw [rj.out.1, List.length_map, List.length_take]; omega
    by_cases hjn : j < 3
    · have hjI : (j : Int) < 3 := by omega
      obtain ⟨N, hN1, hN2, mv, hmv, hM⟩ := moves_at (j := j) (by omega)
      have hcN := cellOf fj.out hN1
      unfold funcN at hcN
      have hM' := Lib.hid (hM F hFr.out)
      have hmv' := Lib.hid hmv
      have hAt := Lib.hid (hgB.out wr gj.out)
      have hl1 : 1 ≤ F.length := by omega
      have hl8 : F.length ≤ 8 := by omega
      have hcall : Hid (∀ Q : Ending → World → Prop, (∀ v w', OwnInts w' wr.heap.size v (permTo F mv F.length) → Below wr.heap.size wr w' → Q (.returned v) w') → Calls Tryz.prog 36 #[.slice (some ⟨g, 0, none⟩) 8 cap, .func (.func N) #[] #[]] wr Q) := Lib.hid (by
        intro Q h
        have h2 := permuted_c hAt.out hl1 hl8 hg3 hg4 hN2 hM'.out h
        rw [hFl] at h2
        exact h2)
      clear hM hmv hN1
      go_wp2_with fail
      refine hcall.out _ ?_
      intro v3 w3 o3 b3
      obtain ⟨y, hy⟩ : ∃ y, y = permTo F mv F.length := ⟨_, rfl⟩
      have hst : Hid (((Perms.imvs true).take (j + 1)).map (fun mv => permTo F mv F.length) = ((Perms.imvs true).take j).map (fun mv => permTo F mv F.length) ++ [y]) := Lib.hid (by rw [List.take_add_one, hmv'.out, List.map_append, hy]; rfl)
      rw [← hy] at o3
      clear hy
      obtain ⟨a3, c3, rfl, _, _, _⟩ := Own.form o3
      have bj3 := bj.trans (b3.mono bj.size)
      have ba := below_alloc w3 (.cells #[.slice a3 (ints y).length c3] 36)
      have oj3 := Own.below (Own.below oj b3) ba
      have hr3 := row_one w3 (.slice a3 (ints y).length c3) 36
      have hone : Hid (∀ y' ∈ [Value.slice a3 (ints y).length c3], y'.oneCell' = true) := Lib.hid (fun y' hy' => by rw [List.mem_singleton] at hy'; rw [hy']; rfl)
      have bj4 := bj3.trans (ba.mono bj3.size)
      have oy := Lib.hid (OwnInts.below o3 ba)
      have rj3 := Lib.hid ((rj.out.below b3).below ba)
      have gj3 := Lib.hid (blk_below (blk_below gj.out b3) ba)
      have fj3 := Lib.hid (blk_below (blk_below fj.out b3) ba)
      clear o3
      go_wp2_with (at_builtin; refine app_outer rfl (.tmp 62) (.tmp 66) rfl rfl oj3 rfl hr3 hone.out (by show us.length + 1 ≤ 1099511627776; omega) bj4.size ?_; intro v5 w5 o5 g5)
      have rj5 := Lib.hid ((((rj3.out).push (xs := y) (OwnInts.mono oy.out bj.size) (fun b hb => (Own.lt oy.out hb).1)).outer oj3 g5).tight)
      rw [← hst.out] at rj5
      have bj5 := bj4.grown g5 bj4.size (fun b hb => (Own.lt oj3 hb).1)
      have gj5 := Lib.hid (blk_grown gj3.out (by decide) oj3 g5)
      have fj5 := Lib.hid (blk_grown fj3.out (by decide) oj3 g5)
      go_roundg (gk - 1)
      case measure => omega
      case rel => exact ⟨j + 1, _, by go_num, o5, rj5, bj5, gj5, fj5, by omega⟩
    · obtain rfl : j = 3 := by omega
      have b2 := bj
      have o2' : Hid (RowsAt wr (.slice a6 us.length c6) ((Perms.imvs true).map fun mv => permTo F mv F.length)) := Lib.hid ((rj.out.whole oj (Own.inBlk oj)).at)
      go_wp2_with fail
      refine SolidDegree_i ?_
      rw [hd.out]
      have hW : Hid (Perms.gofW (Nums.sdeg 4) (Perms.igens 4 true) = Perms.gofW 8 ((Perms.imvs true).map fun mv => permTo F mv F.length)) := Lib.hid (by rw [hF'.out]; rfl)
      have hB : Hid (Perms.gofB (Nums.sdeg 4) (Perms.igens 4 true) = Perms.gofB 8 ((Perms.imvs true).map fun mv => permTo F mv F.length)) := Lib.hid (by rw [hF'.out]; rfl)
      go_wp2_with fail
      refine GroupOf_i o2'.out ?_
      intro v3 w3 o3 b3
      rw [← hW.out] at o3
      rw [← hB.out]
      have h3 := Lib.hid (H.out v3 w3 (OwnRows.mono o3 b2.size (Nat.le_refl _)) (b2.trans (b3.mono b2.size)))
      obtain ⟨a3, c3, rfl, _, _, _⟩ := o3.form
      go_wp2_with fail
      exact h3.out
theorem SolidGroup_i {k : Int} {m : Bool} {w : World} {Q : Ending → World → Prop}
    (hQ : ∀ v w', OwnRows w' w.heap.size w'.heap.size v (Perms.solW k m) → Below w.heap.size w w' → Q (.returned (.tuple #[v, .bool (Perms.solB k m)])) w') :
    Calls Tryz.prog 17 #[.int .i64 k, .bool m] w Q := by
  by_cases hk : 1 ≤ k ∧ k ≤ 4
  · obtain ⟨e1, e2⟩ := Perms.same k m hk
    rw [← e1, ← e2] at hQ
    clear e1 e2
    obtain rfl | rfl | rfl | rfl : k = 1 ∨ k = 2 ∨ k = 3 ∨ k = 4 := by omega
    · cases m
      · exact solI_1_false hQ
      · exact solI_1_true hQ
    · cases m
      · exact solI_2_false hQ
      · exact solI_2_true hQ
    · cases m
      · exact solI_3_false hQ
      · exact solI_3_true hQ
    · cases m
      · exact solI_4_false hQ
      · exact solI_4_true hQ
  · have b0 := below_alloc w (.cells #[] 36)
    have h2 := hQ (.slice none 0 0) _ (by unfold Perms.solW Perms.solO; rw [if_neg hk]; exact OwnRows.nil _ _ _) b0
    unfold Perms.solB Perms.solO at h2
    rw [if_neg hk] at h2
    have h3 := Lib.hid h2
    have hk1 : (k == 1) = false := by rw [beq_eq_false_iff_ne]; omega
    have hk2 : (k == 2) = false := by rw [beq_eq_false_iff_ne]; omega
    have hk3 : (k == 3) = false := by rw [beq_eq_false_iff_ne]; omega
    have hk4 : (k == 4) = false := by rw [beq_eq_false_iff_ne]; omega
    clear hk h2 hQ
    go_enter Tryz.func17, Tryz.ntmps17
    go_wp2_with fail
    exact h3.out
end Go.Proofs.YtdjdagcgodpgdaaGreat
