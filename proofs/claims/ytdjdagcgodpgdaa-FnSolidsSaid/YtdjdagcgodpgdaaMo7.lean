/-
  Part 7 of 8 of what the law FnSolids rests on.
-/
import Derived.Test.YtdjdagcgodpgdaaMo6
set_option maxRecDepth 20000
/- The groups of solid bodies, as the reference makes them. -/
set_option linter.unusedVariables false
namespace Go.Proofs.Ytdjdagcgodpgdaa
open Go.RowKit

def Perms.tetra : List (List Int) := [[1, 2, 0, 3], [1, 0, 3, 2], [1, 0, 2, 3]]
def Perms.sgen (k : Int) : List (List Int) := if k = 1 then Perms.tetra else if k = 2 then Perms.tetra.map Perms.pairAct else if k = 3 then [[0, 1, 4, 5, 3, 2], [2, 3, 1, 0, 4, 5], [1, 0, 2, 3, 4, 5]] else [Perms.corL Perms.corA 8, Perms.corL Perms.corB 8, Perms.corL Perms.corM 8]
def Perms.sgens (k : Int) (m : Bool) : List (List Int) := if m = true then Perms.sgen k else (Perms.sgen k).take 2
def Perms.solO (k : Int) (m : Bool) : Option (List (List Int)) := if 1 ≤ k ∧ k ≤ 4 then Perms.gofO (Nums.sdeg k) (Perms.sgens k m) else none
def Perms.solW (k : Int) (m : Bool) : List (List Int) := ((Perms.solO k m).map Perms.isort).getD []
def Perms.solB (k : Int) (m : Bool) : Bool := (Perms.solO k m).isSome
theorem lit_ints (w : World) (xs : List Int) (hn : xs.length ≤ 1000) : OwnInts (w.alloc (.cells (ints xs).toArray 3)) w.heap.size (.slice (some ⟨w.heap.size, 0, none⟩) xs.length xs.length) xs := by
  unfold OwnInts Own
  have h := World.ownsRow_lit (size := 1) w (e := 3) (ints xs).toArray xs.length (Nat.le_refl _) (by unfold maxLen; omega) (by simp [ints_len])
  have e : (ints xs).length = xs.length := ints_len xs
  rw [e]
  simpa using h
theorem lit_outer (w : World) (us : List Value) (hn : us.length ≤ 1000) : RowAt (w.alloc (.cells us.toArray 38)) (.slice (some ⟨w.heap.size, 0, none⟩) us.length us.length) us := by
  have h := World.ownsRow_lit (size := 1) w (e := 38) us.toArray us.length (Nat.le_refl _) (by unfold maxLen; omega) (by simp)
  have h2 : Own (w.alloc (.cells us.toArray 38)) w.heap.size 38 (.slice (some ⟨w.heap.size, 0, none⟩) us.length us.length) us := by
    unfold Own
    simpa using h
  exact Own.row h2
/-- A literal of three lists. -/
theorem lit_three (w : World) (x y z : List Int) (hx : x.length ≤ 1000) (hy : y.length ≤ 1000) (hz : z.length ≤ 1000) :
    RowsAt ((((w.alloc (.cells (ints x).toArray 3)).alloc (.cells (ints y).toArray 3)).alloc (.cells (ints z).toArray 3)).alloc (.cells #[.slice (some ⟨w.heap.size, 0, none⟩) x.length x.length, .slice (some ⟨w.heap.size + 1, 0, none⟩) y.length y.length, .slice (some ⟨w.heap.size + 1 + 1, 0, none⟩) z.length z.length] 38))
      (.slice (some ⟨w.heap.size + 1 + 1 + 1, 0, none⟩) 3 3) [x, y, z] := by
  have h1 := lit_ints w x hx
  have h2 := lit_ints (w.alloc (.cells (ints x).toArray 3)) y hy
  have h3 := lit_ints ((w.alloc (.cells (ints x).toArray 3)).alloc (.cells (ints y).toArray 3)) z hz
  have h4 := lit_outer (((w.alloc (.cells (ints x).toArray 3)).alloc (.cells (ints y).toArray 3)).alloc (.cells (ints z).toArray 3)) [.slice (some ⟨w.heap.size, 0, none⟩) x.length x.length, .slice (some ⟨w.heap.size + 1, 0, none⟩) y.length y.length, .slice (some ⟨w.heap.size + 1 + 1, 0, none⟩) z.length z.length] (by simp)
  rw [World.size_alloc] at h2
  rw [World.size_alloc, World.size_alloc] at h3
  rw [World.size_alloc, World.size_alloc, World.size_alloc] at h4
  refine ⟨_, h4, rfl, fun k xs hk => ?_⟩
  match k, hk with
  | 0, hk => cases hk; exact ⟨_, rfl, OwnInts.at (((OwnInts.below h1 (below_alloc _ _)).below (below_alloc _ _)).below (below_alloc _ _))⟩
  | 1, hk => cases hk; exact ⟨_, rfl, OwnInts.at ((OwnInts.below h2 (below_alloc _ _)).below (below_alloc _ _))⟩
  | 2, hk => cases hk; exact ⟨_, rfl, OwnInts.at (OwnInts.below h3 (below_alloc _ _))⟩
  | k + 3, hk => simp at hk
theorem below_three (w : World) (a b c d : Obj) : Below w.heap.size w ((((w.alloc a).alloc b).alloc c).alloc d) :=
  ((((below_alloc w a).alloc (below_alloc w a).size b).alloc (by simp; omega) c)).alloc (by simp; omega) d
set_option maxHeartbeats 1600000 in
theorem gens_one {w : World} {Q : Ending → World → Prop}
    (hQ : ∀ v w', RowsAt w' v (Perms.sgen 1) → Below w.heap.size w w' → Q (.returned v) w') :
    Calls Try.prog 28 #[.int .i64 1] w Q := by
  have H := Lib.hid hQ; clear hQ
  have h3 := Lib.hid (H.out _ _ (lit_three w [1, 2, 0, 3] [1, 0, 3, 2] [1, 0, 2, 3] (by simp) (by simp) (by simp)) (below_three w _ _ _ _))
  go_enter Try.func28, Try.ntmps28
  go_wp2_with fail
  exact h3.out
set_option maxHeartbeats 1600000 in
theorem gens_three {w : World} {Q : Ending → World → Prop}
    (hQ : ∀ v w', RowsAt w' v (Perms.sgen 3) → Below w.heap.size w w' → Q (.returned v) w') :
    Calls Try.prog 28 #[.int .i64 3] w Q := by
  have H := Lib.hid hQ; clear hQ
  have b4 := below_three w (.cells (ints [1, 2, 0, 3]).toArray 3) (.cells (ints [1, 0, 3, 2]).toArray 3) (.cells (ints [1, 0, 2, 3]).toArray 3) (.cells #[.slice (some ⟨w.heap.size, 0, none⟩) 4 4, .slice (some ⟨w.heap.size + 1, 0, none⟩) 4 4, .slice (some ⟨w.heap.size + 1 + 1, 0, none⟩) 4 4] 38)
  obtain ⟨W, hW⟩ : ∃ W, W = ((((w.alloc (.cells (ints [1, 2, 0, 3]).toArray 3)).alloc (.cells (ints [1, 0, 3, 2]).toArray 3)).alloc (.cells (ints [1, 0, 2, 3]).toArray 3)).alloc (.cells #[.slice (some ⟨w.heap.size, 0, none⟩) 4 4, .slice (some ⟨w.heap.size + 1, 0, none⟩) 4 4, .slice (some ⟨w.heap.size + 1 + 1, 0, none⟩) 4 4] 38)) := ⟨_, rfl⟩
  have hs : W.heap.size = w.heap.size + 1 + 1 + 1 + 1 := by rw [hW, World.size_alloc, World.size_alloc, World.size_alloc, World.size_alloc]
  rw [← hW] at b4
  have h := lit_three W [0, 1, 4, 5, 3, 2] [2, 3, 1, 0, 4, 5] [1, 0, 2, 3, 4, 5] (by simp) (by simp) (by simp)
  have h3 := H.out _ _ h (b4.trans (Below.mono (below_three W _ _ _ _) b4.size))
  rw [hs, hW] at h3
  have h4 := Lib.hid h3
  clear h h3 b4 hs hW W
  go_enter Try.func28, Try.ntmps28
  go_wp2_with fail
  exact h4.out
set_option maxHeartbeats 3200000 in
theorem gens_two {w : World} {Q : Ending → World → Prop}
    (hQ : ∀ v w', RowsAt w' v (Perms.sgen 2) → Below w.heap.size w w' → Q (.returned v) w') :
    Calls Try.prog 28 #[.int .i64 2] w Q := by
  have H := Lib.hid hQ; clear hQ
  have b4 := below_three w (.cells #[.int .i64 1, .int .i64 2, .int .i64 0, .int .i64 3] 3) (.cells #[.int .i64 1, .int .i64 0, .int .i64 3, .int .i64 2] 3) (.cells #[.int .i64 1, .int .i64 0, .int .i64 2, .int .i64 3] 3) (.cells #[.slice (some ⟨w.heap.size, 0, none⟩) 4 4, .slice (some ⟨w.heap.size + 1, 0, none⟩) 4 4, .slice (some ⟨w.heap.size + 1 + 1, 0, none⟩) 4 4] 38)
  have hF0 := lit_three w [1, 2, 0, 3] [1, 0, 3, 2] [1, 0, 2, 3] (by simp) (by simp) (by simp)
  go_enter Try.func28, Try.ntmps28
  go_wp2_with fail
  obtain ⟨W, hW⟩ : ∃ W, W = ((((w.alloc (.cells #[.int .i64 1, .int .i64 2, .int .i64 0, .int .i64 3] 3)).alloc (.cells #[.int .i64 1, .int .i64 0, .int .i64 3, .int .i64 2] 3)).alloc (.cells #[.int .i64 1, .int .i64 0, .int .i64 2, .int .i64 3] 3)).alloc (.cells #[.slice (some ⟨w.heap.size, 0, none⟩) 4 4, .slice (some ⟨w.heap.size + 1, 0, none⟩) 4 4, .slice (some ⟨w.heap.size + 1 + 1, 0, none⟩) 4 4] 38)) := ⟨_, rfl⟩
  have hs : W.heap.size = w.heap.size + 1 + 1 + 1 + 1 := by rw [hW, World.size_alloc, World.size_alloc, World.size_alloc, World.size_alloc]
  change RowsAt ((((w.alloc (.cells #[.int .i64 1, .int .i64 2, .int .i64 0, .int .i64 3] 3)).alloc (.cells #[.int .i64 1, .int .i64 0, .int .i64 3, .int .i64 2] 3)).alloc (.cells #[.int .i64 1, .int .i64 0, .int .i64 2, .int .i64 3] 3)).alloc (.cells #[.slice (some ⟨w.heap.size, 0, none⟩) 4 4, .slice (some ⟨w.heap.size + 1, 0, none⟩) 4 4, .slice (some ⟨w.heap.size + 1 + 1, 0, none⟩) 4 4] 38)) (.slice (some ⟨w.heap.size + 1 + 1 + 1, 0, none⟩) 3 3) Perms.tetra at hF0
  rw [← hW] at hF0 b4
  have hF := Lib.hid hF0
  have o0 := own_outer_empty W
  have ba0 := below_alloc W (.cells #[] 38)
  rw [hs] at o0
  have v0 : Vals (W.alloc (.cells #[] 38)) W.heap.size [] ((Perms.tetra.take 0).map Perms.pairAct) := ⟨rfl, fun k xs h => by simp at h⟩
  have v0' := Lib.hid v0
  have hten : Hid (∀ x ∈ Perms.tetra, Perms.inR 4 x ∧ Perms.permB x = true) := Lib.hid (by
    intro x hx
    simp only [Perms.tetra, List.mem_cons, List.not_mem_nil, or_false] at hx
    rcases hx with rfl | rfl | rfl
    · exact ⟨⟨rfl, by decide⟩, by decide⟩
    · exact ⟨⟨rfl, by decide⟩, by decide⟩
    · exact ⟨⟨rfl, by decide⟩, by decide⟩)
  obtain ⟨L, hL⟩ : ∃ L, L = Perms.tetra := ⟨_, rfl⟩
  have hLl : L.length ≤ 3 ∧ 3 ≤ L.length := by rw [hL]; decide
  rw [← hL] at hF hten v0'
  have hfin : Hid (Perms.sgen 2 = L.map Perms.pairAct) := Lib.hid (by rw [hL]; rfl)
  rw [← hW]
  clear hF0 hL v0 hW
  have hso : W.heap.size ≤ w.heap.size + 1 + 1 + 1 + 1 := by omega
  have o0' : Own (W.alloc (.cells #[] 38)) W.heap.size 38 (.slice (some ⟨w.heap.size + 1 + 1 + 1 + 1, 0, none⟩) 0 0) [] := o0.mono hso
  clear o0 hs hso
  go_loopg [4, 22] 3 (fun gg u4 u22 wr => ∃ (j : Nat) (us : List Value), u22 = .int .i64 j ∧ Own wr W.heap.size 38 u4 us ∧ Hid (Vals wr W.heap.size us ((L.take j).map Perms.pairAct)) ∧ Below W.heap.size W wr ∧ j + gg = 3)
  case atStart => exact ⟨0, [], rfl, o0', v0', ba0, rfl⟩
  case round =>
    obtain ⟨j, us, rfl, oj, vj, bj, hm⟩ := hrel
    obtain ⟨a4, c4, rfl, _, _, _⟩ := Own.form oj
    have hul : us.length ≤ 3 := by rw [vj.out.1, List.length_map, List.length_take]; omega
    by_cases hj : j < 3
    · have hjI : (j : Int) < 3 := by omega
      obtain ⟨b7, f7, u, x, e7, hx, hcx, hux⟩ := (hF.out.below bj).cell (k := j) (by omega)
      cases e7
      rw [Nat.zero_add] at hcx
      obtain ⟨ax, cx, rfl, _, _, _⟩ := hux.form
      have hux' := Lib.hid hux
      obtain ⟨hxR, hxO⟩ := hten.out x (List.mem_of_getElem? hx.out)
      have hxR' := Lib.hid hxR
      have hst : Hid ((L.take (j + 1)).map Perms.pairAct = (L.take j).map Perms.pairAct ++ [Perms.pairAct x]) := Lib.hid (by rw [List.take_add_one, hx.out, List.map_append]; rfl)
      clear hux hxR
      go_wp2_with fail
      refine PairAction_s hux'.out hxR'.out hxO ?_
      intro v3 w3 o3 b3
      obtain ⟨y, hy⟩ : ∃ y, y = Perms.pairAct x := ⟨_, rfl⟩
      rw [← hy] at o3 hst
      clear hy
      obtain ⟨a3, c3, rfl, _, _, _⟩ := Own.form o3
      have bj3 := bj.trans (b3.mono bj.size)
      have oj3 := Own.below (Own.below oj b3) (below_alloc w3 (.cells #[.slice a3 (ints y).length c3] 38))
      have hr3 := row_one w3 (.slice a3 (ints y).length c3) 38
      have ba3 := below_alloc w3 (.cells #[.slice a3 (ints y).length c3] 38)
      have bj4 := bj3.trans (ba3.mono bj3.size)
      have vj4 := Lib.hid (((vj.out.below b3).below ba3).push (OwnInts.mono (OwnInts.below o3 ba3) bj.size))
      have hone : Hid (∀ y' ∈ [Value.slice a3 (ints y).length c3], y'.oneCell' = true) := Lib.hid (fun y' hy' => by rw [List.mem_singleton] at hy'; rw [hy']; rfl)
      go_wp2_with (at_builtin; refine app_outer rfl (.tmp 31) (.tmp 33) rfl rfl oj3 rfl hr3 hone.out (by show us.length + 1 ≤ 1099511627776; omega) bj4.size ?_; intro v5 w5 o5 g5)
      have vj5 : Hid (Vals w5 W.heap.size (us ++ [.slice a3 (ints y).length c3]) ((L.take (j + 1)).map Perms.pairAct)) := Lib.hid (by rw [hst.out]; exact vj4.out.outer oj3 g5)
      have bj5 := bj4.grown g5 bj4.size (fun b hb => (Own.lt oj3 hb).1)
      go_roundg (gk - 1)
      case measure => omega
      case rel => exact ⟨j + 1, _, by go_num, o5, vj5, bj5, by omega⟩
    · obtain rfl : j = 3 := by omega
      have hR : RowsAt wr (.slice a4 us.length c4) (Perms.sgen 2) := by
        have h := vj.out.at oj
        rw [List.take_of_length_le (by omega), ← hfin.out] at h
        exact h
      have h3 := Lib.hid (H.out _ wr hR (b4.trans (bj.mono b4.size)))
      clear hR
      go_wp2_with fail
      exact h3.out
set_option maxHeartbeats 1600000 in
theorem gens_four {w : World} {Q : Ending → World → Prop}
    (hQ : ∀ v w', RowsAt w' v (Perms.sgen 4) → Below w.heap.size w w' → Q (.returned v) w') :
    Calls Try.prog 28 #[.int .i64 4] w Q := by
  have H := Lib.hid hQ; clear hQ
  have b4 := Lib.hid (below_three w (.cells (ints [1, 2, 0, 3]).toArray 3) (.cells (ints [1, 0, 3, 2]).toArray 3) (.cells (ints [1, 0, 2, 3]).toArray 3) (.cells #[.slice (some ⟨w.heap.size, 0, none⟩) 4 4, .slice (some ⟨w.heap.size + 1, 0, none⟩) 4 4, .slice (some ⟨w.heap.size + 1 + 1, 0, none⟩) 4 4] 38))
  go_enter Try.func28, Try.ntmps28
  go_wp2_with fail
  refine l10Corners_c ?_
  intro v5 w5 o5 b5
  have h3 := Lib.hid (H.out v5 w5 o5.at (b4.out.trans (b5.mono b4.out.size)))
  obtain ⟨a5, c5, rfl, _, _, _⟩ := o5.form
  go_wp2_with fail
  exact h3.out
theorem gens_c {k : Int} (hk : 1 ≤ k ∧ k ≤ 4) {w : World} {Q : Ending → World → Prop}
    (hQ : ∀ v w', RowsAt w' v (Perms.sgen k) → Below w.heap.size w w' → Q (.returned v) w') :
    Calls Try.prog 28 #[.int .i64 k] w Q := by
  obtain rfl | rfl | rfl | rfl : k = 1 ∨ k = 2 ∨ k = 3 ∨ k = 4 := by omega
  · exact gens_one hQ
  · exact gens_two hQ
  · exact gens_three hQ
  · exact gens_four hQ
theorem Perms.sgen_len (k : Int) : (Perms.sgen k).length = 3 := by
  unfold Perms.sgen
  split
  · rfl
  · split
    · rfl
    · split <;> rfl
set_option maxHeartbeats 1600000 in
theorem SolidGroup_s {k : Int} {m : Bool} {w : World} {Q : Ending → World → Prop}
    (hQ : ∀ v w', OwnRows w' w.heap.size w'.heap.size v (Perms.solW k m) → Below w.heap.size w w' → Q (.returned (.tuple #[v, .bool (Perms.solB k m)])) w') :
    Calls Try.prog 8 #[.int .i64 k, .bool m] w Q := by
  have H := Lib.hid hQ; clear hQ
  by_cases hk : 1 ≤ k ∧ k ≤ 4
  rotate_left
  · have h2 := H.out (.slice none 0 0) w (by unfold Perms.solW Perms.solO; rw [if_neg hk]; exact OwnRows.nil _ _ _) (Below.refl _ _)
    unfold Perms.solB Perms.solO at h2
    rw [if_neg hk] at h2
    have h3 := Lib.hid h2
    have hd : Hid (Nums.sdeg k = 0) := Lib.hid (by unfold Nums.sdeg; rw [if_neg (by omega), if_neg (by omega), if_neg (by omega), if_neg (by omega)])
    clear hk h2
    go_enter Try.func8, Try.ntmps8
    go_wp2_with fail
    refine SolidDegree_s ?_
    rw [hd.out]
    go_wp2_with fail
    exact h3.out
  have hso : Perms.solO k m = Perms.gofO (Nums.sdeg k) (Perms.sgens k m) := by unfold Perms.solO; rw [if_pos hk]
  have hW : Hid (Perms.solW k m = Perms.gofW (Nums.sdeg k) (Perms.sgens k m)) := Lib.hid (by unfold Perms.solW Perms.gofW; rw [hso])
  have hB : Hid (Perms.solB k m = Perms.gofB (Nums.sdeg k) (Perms.sgens k m)) := Lib.hid (by unfold Perms.solB Perms.gofB; rw [hso])
  have hd : 4 ≤ Nums.sdeg k ∧ Nums.sdeg k ≤ 8 := by
    obtain rfl | rfl | rfl | rfl : k = 1 ∨ k = 2 ∨ k = 3 ∨ k = 4 := by omega
    all_goals decide
  obtain ⟨d, hdd⟩ : ∃ d, d = Nums.sdeg k := ⟨_, rfl⟩
  rw [← hdd] at hd
  have hdd' := Lib.hid hdd
  obtain ⟨hd4, hd8⟩ := hd
  have hd0 : (d == 0) = false := by rw [beq_eq_false_iff_ne]; omega
  have hk' := Lib.hid hk
  clear hso hdd hk
  go_enter Try.func8, Try.ntmps8
  go_wp2_with fail
  refine SolidDegree_s ?_
  rw [← hdd'.out]
  go_wp2_with fail
  refine gens_c hk'.out ?_
  intro v1 w1 r1 b1
  obtain ⟨L, hL⟩ : ∃ L, L = Perms.sgen k := ⟨_, rfl⟩
  have hL3 : L.length ≤ 3 ∧ 3 ≤ L.length := by rw [hL, Perms.sgen_len]; omega
  rw [← hL] at r1
  have hL' := Lib.hid hL
  clear hL
  have r1' := Lib.hid r1
  obtain ⟨a1, c1, rfl, _, _, _⟩ := r1.form
  cases m with
  | true =>
    have hg : Hid (Perms.sgens k true = L) := Lib.hid (by unfold Perms.sgens; rw [if_pos rfl, hL'.out])
    clear r1
    go_wp2_with fail
    refine SolidDegree_s ?_
    rw [← hdd'.out]
    go_wp2_with fail
    refine GroupOf_s r1'.out ?_
    intro v3 w3 o3 b3
    rw [← hg.out, hdd'.out, ← hW.out] at o3
    have h2 := H.out v3 w3 (OwnRows.mono o3 b1.size (Nat.le_refl _)) (b1.trans (b3.mono b1.size))
    rw [hB.out, ← hdd'.out, hg.out] at h2
    have h3 := Lib.hid h2
    obtain ⟨a3, c3, rfl, _, _, _⟩ := o3.form
    clear h2
    go_wp2_with fail
    exact h3.out
  | false =>
    have hg : Hid (Perms.sgens k false = L.take 2) := Lib.hid (by unfold Perms.sgens; rw [if_neg (by decide), hL'.out])
    obtain ⟨vs, hv1, hv2, hv3⟩ := r1
    have r2 : RowsAt w1 (.slice a1 2 c1) (L.take 2) := by
      have hu := RowAt.upto hv1 (k := 2) (by omega)
      refine ⟨vs.take 2, hu, by simp; omega, fun q xs hq => ?_⟩
      rw [List.getElem?_take] at hq
      split at hq
      · rename_i h
        obtain ⟨u, h1, h2⟩ := hv3 q xs hq
        exact ⟨u, by rw [List.getElem?_take, if_pos h]; exact h1, h2⟩
      · cases hq
    have hlt : Hid ((L.take 2).length = 2) := Lib.hid (by rw [List.length_take]; omega)
    have r2' := Lib.hid r2
    have hc2 : 2 ≤ c1 := by omega
    clear hv1 hv2 hv3 r2
    go_wp2_with fail
    refine SolidDegree_s ?_
    rw [← hdd'.out]
    go_wp2_with fail
    refine GroupOf_s r2'.out ?_
    intro v3 w3 o3 b3
    rw [← hg.out, hdd'.out, ← hW.out] at o3
    have h2 := H.out v3 w3 (OwnRows.mono o3 b1.size (Nat.le_refl _)) (b1.trans (b3.mono b1.size))
    rw [hB.out, ← hdd'.out, hg.out] at h2
    have h3 := Lib.hid h2
    obtain ⟨a3, c3, rfl, _, _, _⟩ := o3.form
    clear h2
    go_wp2_with fail
    exact h3.out
end Go.Proofs.Ytdjdagcgodpgdaa
/- How many colorings a group leaves apart: both sides (printed by mk/mkcolo.py). -/
set_option linter.unusedVariables false
namespace Go.Proofs.Ytdjdagcgodpgdaa
open Go.RowKit

def Perms.sumTo (g : List (List Int)) (k : Int) : Nat → Int
  | 0 => 0
  | j + 1 => Perms.sumTo g k j + Nums.pw k (Perms.cycles (g.getD j [])).length
def Perms.colO (g : List (List Int)) (k : Int) : Int := if Perms.grpB g = true ∧ 0 ≤ k ∧ k ≤ 4 then Perms.sumTo g k g.length / g.length else -1
theorem Perms.cycles_len (p : List Int) : (Perms.cycles p).length ≤ 10 := by
  unfold Perms.cycles
  by_cases h : Perms.permB p = true
  · rw [if_pos h]
    have := Perms.cycTo_len p p.length
    have := Perms.permB_len h
    omega
  · rw [if_neg h]; simp
theorem Perms.sum_bd (g : List (List Int)) {k : Int} (h0 : 0 ≤ k) (h4 : k ≤ 4) : ∀ j : Nat, 0 ≤ Perms.sumTo g k j ∧ Perms.sumTo g k j ≤ 1048576 * j
  | 0 => by simp [Perms.sumTo]
  | j + 1 => by
    have ih := Perms.sum_bd g h0 h4 j
    have hc := Perms.cycles_len (g.getD j [])
    have h1 := Nums.powTo_bd4 h0 h4 (Perms.cycles (g.getD j [])).length
    have h2 : 4 ^ (Perms.cycles (g.getD j [])).length ≤ 4 ^ 10 := Nat.pow_le_pow_right (by omega) hc
    have h3 : Nums.pw k (Perms.cycles (g.getD j [])).length = Nums.powTo k (Perms.cycles (g.getD j [])).length := by unfold Nums.pw; rw [Int.toNat_natCast]
    unfold Perms.sumTo
    rw [h3]
    omega
theorem CountCycles_s {vp : Value} {p : List Int} {w : World} {Q : Ending → World → Prop} (hp : IntsAt w vp p)
    (hQ : ∀ w', Below w.heap.size w w' → Q (.returned (.int .i64 (Perms.cycles p).length)) w') :
    Calls Try.prog 69 #[vp] w Q := by
  have H := Lib.hid hQ; clear hQ
  have hp0 := Lib.hid hp
  obtain ⟨ap, cp, rfl, lp, lcp, ccp⟩ := hp.form
  clear hp
  go_enter Try.func69, Try.ntmps69
  go_wp2_with fail
  refine CyclesOf_s hp0.out ?_
  intro v1 w1 o1 b1
  have h3 := Lib.hid (H.out w1 b1)
  obtain ⟨a1, c1, rfl, _, _, _⟩ := o1.form
  go_wp2_with fail
  exact h3.out
set_option maxHeartbeats 1600000 in
theorem CountColorings_s {vg : Value} {g : List (List Int)} {k : Int} {w : World} {Q : Ending → World → Prop} (hg : RowsAt w vg g)
    (hQ : ∀ w', Below w.heap.size w w' → Q (.returned (.int .i64 (Perms.colO g k))) w') :
    Calls Try.prog 39 #[vg, .int .i64 k] w Q := by
  have H := Lib.hid hQ; clear hQ
  have hg0 := Lib.hid hg
  obtain ⟨ag, cg, rfl, lg, lcg, ccg⟩ := hg.form
  clear hg
  by_cases hok : Perms.grpB g = true ∧ 0 ≤ k ∧ k ≤ 4
  rotate_left
  · have hc : Perms.colO g k = -1 := by unfold Perms.colO; rw [if_neg hok]
    rw [hc] at H
    have hk : Hid (Perms.grpB g = true → ¬ (0 ≤ k ∧ k ≤ 4)) := Lib.hid (fun a b => hok ⟨a, b⟩)
    clear hok hc
    go_enter Try.func39, Try.ntmps39
    go_wp2_with fail
    refine GroupOk_s hg0.out ?_
    intro w1 b1
    have h3 := Lib.hid (H.out w1 b1)
    cases hb : Perms.grpB g with
    | false =>
      clear hb
      go_wp2_with fail
      exact h3.out
    | true =>
      have hk2 := hk.out hb
      clear hb
      go_wp2_with (go_at_call 51; refine l01In_c ?_; rw [decide_eq_false hk2])
      exact h3.out
  obtain ⟨hgr, hk0, hk4⟩ := hok
  have hc : Hid (Perms.colO g k = Perms.sumTo g k g.length / g.length) := Lib.hid (by unfold Perms.colO; rw [if_pos ⟨hgr, hk0, hk4⟩])
  obtain ⟨hl1, hl2, _, _⟩ := Perms.grpB_parts hgr
  have hgr' := Lib.hid hgr
  clear hgr
  go_enter Try.func39, Try.ntmps39
  go_wp2_with fail
  refine GroupOk_s hg0.out ?_
  intro w1 b1
  rw [hgr'.out]
  have hk2 : 0 ≤ k ∧ k ≤ 4 := ⟨hk0, hk4⟩
  go_wp2_with (go_at_call 51; refine l01In_c ?_; rw [decide_eq_true hk2])
  go_loopg [5, 18] g.length (fun gg u5 u18 wr => ∃ (j : Nat), u18 = .int .i64 j ∧ u5 = .int .i64 (Perms.sumTo g k j) ∧ Below w.heap.size w wr ∧ j + gg ≤ g.length ∧ g.length ≤ j + gg)
  case atStart => exact ⟨0, rfl, rfl, b1, by omega, by omega⟩
  case round =>
    obtain ⟨j, rfl, rfl, bj, hj1, hj2⟩ := hrel
    have hsb := Perms.sum_bd g hk0 hk4 j
    by_cases hj : j < g.length
    · have hjI : (j : Int) < g.length := by omega
      obtain ⟨b7, f7, u, x, e7, hx, hcx, hux⟩ := (hg0.out.below bj).cell hj
      cases e7
      obtain ⟨ax, cx, rfl, _, _, _⟩ := hux.form
      have hux' := Lib.hid hux
      have hcl := Perms.cycles_len x
      have hsb2 := Perms.sum_bd g hk0 hk4 (j + 1)
      have hst : Perms.sumTo g k (j + 1) = Perms.sumTo g k j + Nums.pw k (Perms.cycles x).length := by
        have e : g.getD j [] = x := by simp [List.getD, hx.out]
        show Perms.sumTo g k j + Nums.pw k (Perms.cycles (g.getD j [])).length = _
        rw [e]
      obtain ⟨P, hP⟩ : ∃ P, P = Nums.pw k (Perms.cycles x).length := ⟨_, rfl⟩
      obtain ⟨n, hn⟩ : ∃ n, n = (Perms.cycles x).length := ⟨_, rfl⟩
      rw [← hP] at hst
      rw [← hn] at hP hcl
      have hP' := Lib.hid hP
      have hn' := Lib.hid hn
      have hbd : -9223372036854775808 ≤ Perms.sumTo g k j + P ∧ Perms.sumTo g k j + P ≤ 9223372036854775807 := by omega
      have hst' := Lib.hid hst
      clear hux hP hn hst hsb2
      go_wp2_with (first
        | (refine CountCycles_s hux'.out ?_; intro w3 b3; rw [← hn'.out])
        | (go_at_call 68; refine power_s hk0 hk4 (by omega) (by omega) ?_; rw [← hP'.out]))
      have bj3 := bj.trans (b3.mono bj.size)
      go_roundg (gk - 1)
      case measure => omega
      case rel => exact ⟨j + 1, by go_num, by rw [hst'.out], bj3, by omega, by omega⟩
    · have hje : j = g.length := by omega
      subst hje
      have h3 := Lib.hid (H.out wr bj)
      rw [hc.out] at h3
      obtain ⟨T, hT⟩ : ∃ T, T = Perms.sumTo g k g.length := ⟨_, rfl⟩
      rw [← hT] at h3 hsb ⊢
      clear hT hc
      have hq0 : 0 ≤ T / (g.length : Int) := Int.ediv_nonneg hsb.1 (by omega)
      have hq1 : T / (g.length : Int) ≤ T := Int.ediv_le_self _ hsb.1
      have hgz : ((g.length : Int) == 0) = false := by rw [beq_eq_false_iff_ne]; omega
      have hgm : ((g.length : Int) == -1) = false := by rw [beq_eq_false_iff_ne]; omega
      go_wp2_with fail
      exact h3.out
theorem CountCycles_i {vp : Value} {p : List Int} {w : World} {Q : Ending → World → Prop} (hp : IntsAt w vp p)
    (hQ : ∀ w', Below w.heap.size w w' → Q (.returned (.int .i64 (Perms.cycles p).length)) w') :
    Calls Try.prog 71 #[vp] w Q := by
  have H := Lib.hid hQ; clear hQ
  have hp0 := Lib.hid hp
  obtain ⟨ap, cp, rfl, lp, lcp, ccp⟩ := hp.form
  clear hp
  go_enter Try.func71, Try.ntmps71
  go_wp2_with fail
  refine CyclesOf_i hp0.out ?_
  intro v1 w1 o1 b1
  have h3 := Lib.hid (H.out w1 b1)
  obtain ⟨a1, c1, rfl, _, _, _⟩ := o1.form
  go_wp2_with fail
  exact h3.out
set_option maxHeartbeats 1600000 in
theorem CountColorings_i {vg : Value} {g : List (List Int)} {k : Int} {w : World} {Q : Ending → World → Prop} (hg : RowsAt w vg g)
    (hQ : ∀ w', Below w.heap.size w w' → Q (.returned (.int .i64 (Perms.colO g k))) w') :
    Calls Try.prog 40 #[vg, .int .i64 k] w Q := by
  have H := Lib.hid hQ; clear hQ
  have hg0 := Lib.hid hg
  obtain ⟨ag, cg, rfl, lg, lcg, ccg⟩ := hg.form
  clear hg
  by_cases hok : Perms.grpB g = true ∧ 0 ≤ k ∧ k ≤ 4
  rotate_left
  · have hc : Perms.colO g k = -1 := by unfold Perms.colO; rw [if_neg hok]
    rw [hc] at H
    have hk : Hid (Perms.grpB g = true → ¬ (0 ≤ k ∧ k ≤ 4)) := Lib.hid (fun a b => hok ⟨a, b⟩)
    clear hok hc
    go_enter Try.func40, Try.ntmps40
    go_wp2_with fail
    refine GroupOk_i hg0.out ?_
    intro w1 b1
    have h3 := Lib.hid (H.out w1 b1)
    cases hb : Perms.grpB g with
    | false =>
      clear hb
      go_wp2_with fail
      exact h3.out
    | true =>
      have hk2 := hk.out hb
      clear hb
      rcases Int.lt_or_le k 0 with hk3 | hk3
      · go_wp2_with fail
        exact h3.out
      · have hk4 : 4 < k := by omega
        go_wp2_with fail
        exact h3.out
  obtain ⟨hgr, hk0, hk4⟩ := hok
  have hc : Hid (Perms.colO g k = Perms.sumTo g k g.length / g.length) := Lib.hid (by unfold Perms.colO; rw [if_pos ⟨hgr, hk0, hk4⟩])
  obtain ⟨hl1, hl2, _, _⟩ := Perms.grpB_parts hgr
  have hgr' := Lib.hid hgr
  clear hgr
  go_enter Try.func40, Try.ntmps40
  go_wp2_with fail
  refine GroupOk_i hg0.out ?_
  intro w1 b1
  rw [hgr'.out]
  go_wp2_with fail
  go_loopg [5, 21] g.length (fun gg u5 u21 wr => ∃ (j : Nat), u21 = .int .i64 j ∧ u5 = .int .i64 (Perms.sumTo g k j) ∧ Below w.heap.size w wr ∧ j + gg ≤ g.length ∧ g.length ≤ j + gg)
  case atStart => exact ⟨0, rfl, rfl, b1, by omega, by omega⟩
  case round =>
    obtain ⟨j, rfl, rfl, bj, hj1, hj2⟩ := hrel
    have hsb := Perms.sum_bd g hk0 hk4 j
    by_cases hj : j < g.length
    · have hjI : (j : Int) < g.length := by omega
      obtain ⟨b7, f7, u, x, e7, hx, hcx, hux⟩ := (hg0.out.below bj).cell hj
      cases e7
      obtain ⟨ax, cx, rfl, _, _, _⟩ := hux.form
      have hux' := Lib.hid hux
      have hcl := Perms.cycles_len x
      have hsb2 := Perms.sum_bd g hk0 hk4 (j + 1)
      have hst : Perms.sumTo g k (j + 1) = Perms.sumTo g k j + Nums.pw k (Perms.cycles x).length := by
        have e : g.getD j [] = x := by simp [List.getD, hx.out]
        show Perms.sumTo g k j + Nums.pw k (Perms.cycles (g.getD j [])).length = _
        rw [e]
      obtain ⟨P, hP⟩ : ∃ P, P = Nums.pw k (Perms.cycles x).length := ⟨_, rfl⟩
      obtain ⟨n, hn⟩ : ∃ n, n = (Perms.cycles x).length := ⟨_, rfl⟩
      rw [← hP] at hst
      rw [← hn] at hP hcl
      have hP' := Lib.hid hP
      have hn' := Lib.hid hn
      have hbd : -9223372036854775808 ≤ Perms.sumTo g k j + P ∧ Perms.sumTo g k j + P ≤ 9223372036854775807 := by omega
      have hst' := Lib.hid hst
      clear hux hP hn hst hsb2
      go_wp2_with (first
        | (refine CountCycles_i hux'.out ?_; intro w3 b3; rw [← hn'.out])
        | (go_at_call 70; refine power_i hk0 hk4 (by omega) (by omega) ?_; rw [← hP'.out]))
      have bj3 := bj.trans (b3.mono bj.size)
      go_roundg (gk - 1)
      case measure => omega
      case rel => exact ⟨j + 1, by go_num, by rw [hst'.out], bj3, by omega, by omega⟩
    · have hje : j = g.length := by omega
      subst hje
      have h3 := Lib.hid (H.out wr bj)
      rw [hc.out] at h3
      obtain ⟨T, hT⟩ : ∃ T, T = Perms.sumTo g k g.length := ⟨_, rfl⟩
      rw [← hT] at h3 hsb ⊢
      clear hT hc
      have hq0 : 0 ≤ T / (g.length : Int) := Int.ediv_nonneg hsb.1 (by omega)
      have hq1 : T / (g.length : Int) ≤ T := Int.ediv_le_self _ hsb.1
      have hgz : ((g.length : Int) == 0) = false := by rw [beq_eq_false_iff_ne]; omega
      have hgm : ((g.length : Int) == -1) = false := by rw [beq_eq_false_iff_ne]; omega
      go_wp2_with fail
      exact h3.out
end Go.Proofs.Ytdjdagcgodpgdaa
/- Sorting a slice of terms by their types: out of the library's contract at structs. -/
set_option linter.unusedVariables false
namespace Go.Proofs.Ytdjdagcgodpgdaa
open Go.RowKit

set_option maxHeartbeats 800000 in
theorem cmpClos_c {u1 u2 : Value} {c1 c2 : Int} {t1 t2 : List Int} {w : World} {Q : Ending → World → Prop} (h1 : IntsAt w u1 t1) (h2 : IntsAt w u2 t2)
    (hQ : ∀ q os, Q (.returned (.int .i64 (Words.cmpL t1 t2))) (Go.Sort.grow (w.drewN q) os)) :
    Calls Try.prog 79 #[.agg #[u1, .int .i64 c1], .agg #[u2, .int .i64 c2]] w Q := by
  have H := Lib.hid hQ; clear hQ
  have h10 := Lib.hid h1
  have h20 := Lib.hid h2
  obtain ⟨a1, k1, rfl, _, _, _⟩ := h1.form
  obtain ⟨a2, k2, rfl, _, _, _⟩ := h2.form
  have ba := below_alloc w (.cells #[.slice a1 t1.length k1, .int .i64 c1] 64)
  have bb := ba.trans ((below_alloc (w.alloc (.cells #[.slice a1 t1.length k1, .int .i64 c1] 64)) (.cells #[.slice a2 t2.length k2, .int .i64 c2] 64)).mono ba.size)
  have h11 := Lib.hid (h10.out.below bb)
  have h21 := Lib.hid (h20.out.below bb)
  have hfin := Lib.hid (H.out 0 #[.cells #[.slice a1 t1.length k1, .int .i64 c1] 64 (0, 0), .cells #[.slice a2 t2.length k2, .int .i64 c2] 64 (0, 0)])
  clear h1 h2
  go_enter Try.func79, Try.ntmps79
  go_wp2_with fail
  refine Compare_c h11.out h21.out ?_
  have e : (w.alloc (.cells #[.slice a1 t1.length k1, .int .i64 c1] 64)).alloc (.cells #[.slice a2 t2.length k2, .int .i64 c2] 64) = Go.Sort.grow (w.drewN 0) #[.cells #[.slice a1 t1.length k1, .int .i64 c1] 64 (0, 0), .cells #[.slice a2 t2.length k2, .int .i64 c2] 64 (0, 0)] := by
    rw [Go.Sort.alloc_eq_grow, Go.Sort.alloc_eq_grow, Go.Sort.grow_grow]
    rfl
  have hf2 := hfin.out
  rw [← e] at hf2
  have hf3 := Lib.hid hf2
  clear hf2 e
  go_wp2_with fail
  exact hf3.out
def pairAt (zs : List (Value × Int)) (i : Nat) : Value × Int := zs.getD i (nilV, 0)
theorem ownT_sortWorld {zs : List (Value × Int)} {w : World} {B g n cap : Nat} (h : OwnT w B (.slice (some ⟨g, 0, none⟩) n cap) zs) (m : Nat) (dk : Array Nat) (os : Array Obj) (hs : dk.size = n) :
    OwnT (sortWorldK (fun i => cellsT (pairAt zs i)) 2 w g 0 m dk os) B (.slice (some ⟨g, 0, none⟩) n cap) (dk.toList.map (pairAt zs)) := by
  have hn := h.len
  unfold OwnT at h ⊢
  rcases h.2 with ⟨he, _⟩ | ⟨g', cap', cur, he, hb, hgg, h1, h2, h3, h4⟩
  · cases he
  · simp only [Value.slice.injEq] at he
    obtain ⟨e1, _, rfl⟩ := he
    obtain rfl : g = g' := by simpa using e1
    have hlt : g < w.heap.size := (Array.getElem?_eq_some_iff.1 hgg).1
    have hlm : (dk.toList.map (pairAt zs)).length = n := by simp [hs]
    refine ⟨by rw [flatT_len], .inr ⟨g, cap, Go.Sort.putCells id 0 (Go.Sort.flatK (fun i => cellsT (pairAt zs i)) 2 dk) cur, by rw [hlm], hb, ?_, by rw [hlm]; omega, h2, by simp [Go.Sort.putCells, h3], ?_⟩⟩
    · unfold sortWorldK Go.Sort.putRowK
      rw [Go.Sort.heap_grow_old _ _ (by simp; exact hlt)]
      unfold Go.Sort.putRow Go.Sort.mapBlock
      rw [Array.getElem?_modify]
      simp [Go.Sort.ahead, hgg, Go.Sort.onCells]
    · rw [hlm]
      apply List.ext_getElem?
      intro i
      by_cases hi : i < n * 2
      · obtain ⟨x, hx⟩ : ∃ x, dk[i / 2]? = some x := ⟨_, Array.getElem?_eq_getElem (by omega)⟩
        have hxb : dk[i / 2]! = x := by rw [getElem!_pos dk (i / 2) (by omega)]; rw [Array.getElem?_eq_getElem (show i / 2 < dk.size by omega)] at hx; exact Option.some.inj hx
        have hm : (dk.toList.map (pairAt zs))[i / 2]? = some (pairAt zs x) := by rw [List.getElem?_map, Array.getElem?_toList, hx]; rfl
        have hf := flatT_get _ _ _ hm
        rw [List.getElem?_take, if_pos hi, Array.getElem?_toList]
        unfold Go.Sort.putCells
        rw [Array.getElem?_mapIdx, Array.getElem?_eq_getElem (show i < cur.size by omega), Option.map_some, if_pos ⟨by omega, by simp; omega⟩, Nat.sub_zero, Go.Sort.get_flatK _ _ _ _ (by omega), hxb]
        rcases Nat.mod_two_eq_zero_or_one i with hp | hp
        · rw [hp, show i = i / 2 * 2 by omega, hf.1]
          simp [cellsT]
        · rw [hp, show i = i / 2 * 2 + 1 by omega, hf.2]
          simp [cellsT]
      · rw [List.getElem?_eq_none (by simp; omega), List.getElem?_eq_none (by rw [flatT_len, hlm]; omega)]
set_option maxHeartbeats 1600000 in
theorem sortTerms_c {v : Value} {xs : List (List Int)} {cs : List Int} {w : World} {B E : Nat} {Q : Ending → World → Prop} (ho : OwnTerms w B E v xs cs) (hB : B ≤ w.heap.size) (hn : 0 < xs.length) (hbig : xs.length ≤ 1048576)
    (hQ : ∀ w' ys ds, ds.length = ys.length → (ys.zip ds).Perm (xs.zip cs) → Words.Sorted ys → OwnTerms w' B w'.heap.size v ys ds → Below B w w' → Q (.returned (.tuple #[])) w') :
    Calls Try.prog 78 #[v, .func (.func 79) #[] #[]] w Q := by
  obtain ⟨aa, ca, rfl, la, lca, cca⟩ := ho.form
  obtain ⟨h0, us, o1, o2, o3⟩ := ho
  have hus := o3.1
  have hzl : (us.zip cs).length = xs.length := by rw [List.length_zip, h0, hus, Nat.min_self]
  obtain ⟨g, rfl, hgB, hgl⟩ := o1.head (by omega)
  obtain ⟨zs, hzs⟩ : ∃ zs, zs = us.zip cs := ⟨_, rfl⟩
  have get : ∀ i, i < xs.length → ∃ u x c, us[i]? = some u ∧ xs[i]? = some x ∧ cs[i]? = some c ∧ pairAt zs i = (u, c) ∧ OwnInts w B u x := by
    intro i hi
    obtain ⟨u, x, hu, hx, hou, _⟩ := o3.get (k := i) hi
    have hc : cs[i]? = some cs[i] := List.getElem?_eq_getElem (by omega)
    refine ⟨u, x, cs[i], hu.out, hx.out, hc, ?_, hou⟩
    unfold pairAt
    rw [hzs]
    have : (us.zip cs)[i]? = some (u, cs[i]) := by rw [List.getElem?_zip_eq_some]; exact ⟨hu.out, hc⟩
    simp [List.getD, this]
  have out : ∀ i, xs.length ≤ i → pairAt zs i = (nilV, 0) := fun i hi => by
    unfold pairAt
    rw [hzs]
    simp [List.getD, List.getElem?_eq_none (show (us.zip cs).length ≤ i by omega)]
  have one : ∀ i, ∀ v ∈ cellsT (pairAt zs i), v.oneCell' = true := by
    intro i v hv
    by_cases hi : i < xs.length
    · obtain ⟨u, x, c, _, _, _, hp, hou⟩ := get i hi
      obtain ⟨au, cu, rfl, _, _, _⟩ := Own.form hou
      rw [hp] at hv
      simp [cellsT] at hv
      rcases hv with rfl | rfl <;> rfl
    · rw [out i (by omega)] at hv
      simp [cellsT, nilV] at hv
      rcases hv with rfl | rfl <;> rfl
  have hoth : ∀ (u : Value) (x : List Int), OwnInts w B u x → ∀ k, u.ownBlock = some k → k ≠ g := fun u x hou k hk e => by
    subst e
    obtain ⟨c1, e1⟩ := Own.block hou hk
    obtain ⟨c2, e2⟩ := o1.block rfl
    rw [e1] at e2
    simp only [Option.some.injEq, Obj.cells.injEq] at e2
    exact absurd e2.2.1 (by decide)
  have heap : ∀ (m : Nat) (os : Array Obj) (dk : Array Nat) (k : Nat), k < w.heap.size → k ≠ g → (sortWorldK (fun i => cellsT (pairAt zs i)) 2 w g 0 m dk os).heap[k]? = w.heap[k]? := fun m os dk k hk hne => heap_sortWorld id w g 0 m _ os hk hne
  have read : ∀ (m : Nat) (os : Array Obj) (dk : Array Nat) (i : Nat), IntsAt (sortWorldK (fun i => cellsT (pairAt zs i)) 2 w g 0 m dk os) (pairAt zs i).1 (xs.getD i []) := by
    intro m os dk i
    by_cases hi : i < xs.length
    · obtain ⟨u, x, c, _, hx, _, hp, hou⟩ := get i hi
      have e2 : xs.getD i [] = x := by simp [List.getD, hx]
      rw [hp, e2]
      exact OwnInts.at (Own.kept (B := B) hou fun k hk => heap m os dk k (Own.lt hou hk).2 (hoth u x hou k hk))
    · have e2 : xs.getD i [] = [] := by simp [List.getD, List.getElem?_eq_none (show xs.length ≤ i by omega)]
      rw [out i (by omega), e2]
      exact ⟨none, 0, rfl, Nat.le_refl _, by unfold maxLen; omega, fun _ => rfl, fun k x h => by simp [ints] at h⟩
  have hcmp : CmpLays Try.prog 79 #[] (fun i => cellsT (pairAt zs i)) 2 (fun i j => Words.cmpL (xs.getD i []) (xs.getD j [])) g 0 xs.length w := by
    intro m os dk hs x y
    exact cmpClos_c (c1 := (pairAt zs x).2) (c2 := (pairAt zs y).2) (read m os dk x) (read m os dk y) fun q os' => ⟨rfl, q, os', rfl⟩
  have hH : Go.Sort.HoldsK (fun i => cellsT (pairAt zs i)) 2 w g 0 (Array.range xs.length) := by
    intro j hj
    rw [Go.Sort.size_flatK, Array.size_range] at hj
    rw [Nat.zero_add, Go.Sort.get_flatK _ _ _ _ (by rw [Array.size_range]; exact hj), getElem!_pos _ (j / 2) (by rw [Array.size_range]; omega)]
    obtain ⟨u, x, c, hu, hx, hc, hp, hou⟩ := get (j / 2) (by omega)
    have hz : zs[j / 2]? = some (u, c) := by rw [hzs, List.getElem?_zip_eq_some]; exact ⟨hu, hc⟩
    rw [← hzs] at o1
    obtain ⟨c1, c2⟩ := o1.cells hz
    refine ⟨?_, o1.frozen j⟩
    simp only [Array.getElem_range]
    rw [hp]
    rcases Nat.mod_two_eq_zero_or_one j with hq | hq
    · rw [hq]
      rw [show j / 2 * 2 = j by omega] at c1
      rw [c1]; simp [cellsT]
    · rw [hq]
      rw [show j / 2 * 2 + 1 = j by omega] at c2
      rw [c2]; simp [cellsT]
  have hc := AnyQ.slices_SortFunc Try.sortTerms 2 Try.isAgg64 Try.sizeOf64 (fun i => cellsT (pairAt zs i)) (fun x => rfl) one (fun i j => Words.cmpL (xs.getD i []) (xs.getD j [])) (Words.cmpL_swo xs) 79 #[] g 0 ca (Array.range xs.length) w
    (fun args w => enters_of Try.func79 (by kernel_rfl) rfl args w) (by rw [Array.size_range]; exact hcmp) hH hgl (by rw [Array.size_range]; omega)
  rw [Array.size_range] at hc
  refine hc.mono ?_
  rintro e w' ⟨rfl, d', m, os, hp, hs, rfl⟩
  obtain ⟨hp1, hp2, hp3⟩ := hp
  rw [Array.size_range] at hp1
  have hpl : d'.toList.Perm (List.range xs.length) := by
    have h1 : d'.extract 0 xs.length = d' := by rw [← hp1]; simp
    have h2 : (Array.range xs.length).extract 0 xs.length = Array.range xs.length := by
      conv => lhs; arg 3; rw [← Array.size_range (n := xs.length)]
      simp
    rw [h1, h2] at hp3
    simpa using hp3
  have hnd : d'.toList.Nodup := hpl.nodup_iff.2 List.nodup_range
  have hlt : ∀ i ∈ d'.toList, i < xs.length := fun i hi => List.mem_range.1 (hpl.mem_iff.1 hi)
  have hzip : (d'.toList.map fun i => xs.getD i []).zip (d'.toList.map fun i => cs.getD i 0) = d'.toList.map fun i => (xs.zip cs).getD i ([], 0) := by
    rw [List.zip_map']
    refine List.map_congr_left fun i hi => ?_
    have hi := hlt i hi
    have a : xs[i]? = some xs[i] := List.getElem?_eq_getElem hi
    have b : cs[i]? = some cs[i] := List.getElem?_eq_getElem (by omega)
    have c : (xs.zip cs)[i]? = some (xs[i], cs[i]) := by rw [List.getElem?_zip_eq_some]; exact ⟨a, b⟩
    simp [List.getD, a, b, c]
  have hxzl : (xs.zip cs).length = xs.length := by rw [List.length_zip, h0, Nat.min_self]
  refine hQ _ (d'.toList.map fun i => xs.getD i []) (d'.toList.map fun i => cs.getD i 0) (by simp) ?_ ?_ ?_ (below_sortWorld id hB hgB _ _ _ _)
  · rw [hzip]
    have := hpl.map fun i => (xs.zip cs).getD i ([], 0)
    rw [← hxzl] at this
    rwa [map_range_getD] at this
  · unfold Words.Sorted
    rw [List.pairwise_map, List.pairwise_iff_getElem]
    intro i j h1 h2 hij
    have := hs i j (Nat.zero_le _) hij (by simp at h2; omega)
    unfold ltOf at this
    rw [decide_eq_false_iff_not] at this
    rw [getElem!_pos d' i (by simpa using h1), getElem!_pos d' j (by simpa using h2)] at this
    simpa using this
  · rw [← hzs] at o1
    have ow := ownT_sortWorld o1 m d' os hp1
    have rw1 : Rows (sortWorldK (fun i => cellsT (pairAt zs i)) 2 w g 0 m d' os) B E us xs := by
      refine ⟨o3.1, fun k x hk => ?_, o3.2.2⟩
      obtain ⟨u, a, b, c⟩ := o3.2.1 k x hk
      exact ⟨u, a, Own.kept b fun q hq => heap m os d' q (Own.lt b hq).2 (hoth u x b q hq), c⟩
    have rw2 := (rw1.perm hnd hlt).tight
    refine ⟨by simp, d'.toList.map fun i => us.getD i nilV, ?_, inB_lt ow, rw2⟩
    have ez : (d'.toList.map fun i => us.getD i nilV).zip (d'.toList.map fun i => cs.getD i 0) = d'.toList.map (pairAt zs) := by
      rw [List.zip_map']
      refine List.map_congr_left fun i hi => ?_
      obtain ⟨u, x, c, hu, hx, hc, hp, hou⟩ := get i (hlt i hi)
      rw [hp]
      simp [List.getD, hu, hc]
    rw [ez]
    exact ow
end Go.Proofs.Ytdjdagcgodpgdaa
/- The cycle index, as the program makes it. -/
set_option linter.unusedVariables false
namespace Go.Proofs.Ytdjdagcgodpgdaa
open Go.RowKit

theorem OwnTerms.count {w : World} {B E : Nat} {g n cap : Nat} {xs : List (List Int)} {cs : List Int} (h : OwnTerms w B E (.slice (some ⟨g, 0, none⟩) n cap) xs cs) {k : Nat} {c : Int} (hk : cs[k]? = some c) (d : Int) :
    OwnTerms (w.setCell ⟨g, k * 2 + 1, none⟩ (.int .i64 d)) B E (.slice (some ⟨g, 0, none⟩) n cap) xs (cs.set k d) := by
  obtain ⟨h0, us, h1, h2, h3⟩ := h
  have hkl := (List.getElem?_eq_some_iff.1 hk).1
  obtain ⟨u, hu⟩ : ∃ u, us[k]? = some u := ⟨_, List.getElem?_eq_getElem (show k < us.length by have := h3.1; omega)⟩
  have hz : (us.zip cs)[k]? = some (u, c) := by rw [List.getElem?_zip_eq_some]; exact ⟨hu, hk⟩
  refine ⟨by rw [List.length_set]; exact h0, us, ?_, h2, h3.outerT h1 (grown_set w g _ _)⟩
  have := h1.setCount hz d
  have e : (us.zip cs).set k (u, d) = us.zip (cs.set k d) := by
    apply List.ext_getElem?
    intro i
    rw [List.getElem?_set]
    by_cases e : k = i
    · subst e
      rw [if_pos rfl, if_pos (by rw [List.length_zip, h0, h3.1]; omega)]
      symm
      rw [List.getElem?_zip_eq_some]
      exact ⟨hu, by rw [List.getElem?_set, if_pos rfl, if_pos hkl]⟩
    · rw [if_neg e]
      have e2 : (cs.set k d)[i]? = cs[i]? := by rw [List.getElem?_set, if_neg e]
      rw [List.zip_eq_zipWith, List.zip_eq_zipWith, List.getElem?_zipWith, List.getElem?_zipWith, e2]
  rwa [e] at this
theorem box_new (w : World) (v : Value) (T : TypeId) : BoxAt (w.alloc (.cells #[v] T)) w.heap.size T v := by
  unfold BoxAt
  show (Array.push w.heap _)[w.heap.size]? = _
  rw [Array.getElem?_push_size]
/-- One more term, of a new row. -/
theorem OwnTerms.push {w w' : World} {B E : Nat} {v v' u : Value} {us : List Value} {xs : List (List Int)} {cs : List Int} {t : List Int} {c : Int} (h0 : cs.length = xs.length) (h1 : OwnT w B v (us.zip cs)) (h3 : Rows w B E us xs) (hu : OwnInts w B u t) (hf : ∀ b, u.ownBlock = some b → E ≤ b)
    (o1 : OwnT w' B v' (us.zip cs ++ [(u, c)])) (hg : w.grownBy w' v.ownBlock) : OwnTerms w' B w'.heap.size v' (xs ++ [t]) (cs ++ [c]) := by
  have hl : cs.length = us.length := by have := h3.1; omega
  have r1 := (h3.push hu hf).outerT h1 hg
  have ez : us.zip cs ++ [(u, c)] = (us ++ [u]).zip (cs ++ [c]) := by rw [List.zip_append hl.symm]; rfl
  rw [ez] at o1
  exact ⟨by simp [h0], us ++ [u], o1, inB_lt o1, r1.mono (Nat.le_refl _) hg.size⟩
theorem term_lit (w : World) (v : Value) (c : Int) : ∀ j u, ([(v, c)].flatMap cellsT)[j]? = some u → (w.alloc (.cells #[v, .int .i64 c] 64)).cell? (Addr.add ⟨w.heap.size, 0, none⟩ j) = some u := by
  intro j u hj
  rw [addr_add, Nat.zero_add]
  have hh : (w.alloc (.cells #[v, .int .i64 c] 64)).heap[w.heap.size]? = some (.cells #[v, .int .i64 c] 64 (0, 0)) := by
    show (Array.push w.heap _)[w.heap.size]? = _
    rw [Array.getElem?_push_size]
  match j, hj with
  | 0, hj => simp [cellsT] at hj; subst hj; simp only [World.cell?]; rw [hh]; rfl
  | 1, hj => simp [cellsT] at hj; subst hj; simp only [World.cell?]; rw [hh]; rfl
  | j + 2, hj => simp [cellsT] at hj
set_option maxHeartbeats 3200000 in
theorem CycleIndex_i {vg : Value} {g xs : List (List Int)} {cs : List Int} {w : World} {Q : Ending → World → Prop} (hg : RowsAt w vg g) (hok : Perms.grpB g = true) (hcn : ∀ p ∈ g, Perms.cycN p) (hS : Perms.Sorts g xs cs) (hx : 0 < xs.length)
    (hQ : ∀ v w', OwnTerms w' w.heap.size w'.heap.size v xs cs → Below w.heap.size w w' → Q (.returned v) w') :
    Calls Try.prog 46 #[vg] w Q := by
  have H := Lib.hid hQ; clear hQ
  have hg0 := Lib.hid hg
  obtain ⟨ag, cg, rfl, lg, lcg, ccg⟩ := hg.form
  clear hg
  obtain ⟨hl1, hl2, _, _⟩ := Perms.grpB_parts hok
  have hok' := Lib.hid hok
  have hG := Lib.hid (Perms.grpB_grp hok)
  have hcn' := Lib.hid hcn
  have hS' := Lib.hid hS
  have hbz := below_alloc w (.cells #[] 64)
  have o0 : OwnTerms (w.alloc (.cells #[] 64)) w.heap.size (w.alloc (.cells #[] 64)).heap.size (.slice (some ⟨w.heap.size, 0, none⟩) 0 0) [] [] := ⟨rfl, [], ownT_empty w, inB_lt (ownT_empty w), Rows.nil _ _ _⟩
  clear hok hcn hS
  go_enter Try.func46, Try.ntmps46
  go_wp2_with fail
  refine GroupOk_i (hg0.out.below hbz) ?_
  intro w1 b1
  rw [hok'.out]
  have b01 := hbz.trans (b1.mono hbz.size)
  have o1 := (o0.below b1).mono (Nat.le_refl _) b1.size
  go_wp2_with fail
  go_loopg [3, 15] g.length (fun gg u3 u15 wr => ∃ (j : Nat), u15 = .int .i64 j ∧ OwnTerms wr w.heap.size wr.heap.size u3 (Perms.ciTo g j).1 (Perms.ciTo g j).2 ∧ Below w.heap.size w wr ∧ j + gg ≤ g.length ∧ g.length ≤ j + gg)
  case atStart => exact ⟨0, rfl, o1, b01, by omega, by omega⟩
  case round =>
    obtain ⟨j, rfl, oj, bj, hj1, hj2⟩ := hrel
    obtain ⟨hlen, hlj, hcb⟩ := Perms.ciTo_len g j
    by_cases hj : j < g.length
    · have hjI : (j : Int) < g.length := by omega
      obtain ⟨b7, f7, u, p, e7, hp, hcp, hup⟩ := (hg0.out.below bj).cell hj
      cases e7
      have hpm := List.mem_of_getElem? hp.out
      have hpb := Lib.hid (hG.out.perm p hpm)
      have hpc := Lib.hid (hcn'.out p hpm)
      have hpl := Perms.permB_len hpb.out
      obtain ⟨t, ht⟩ : ∃ t, t = Perms.cyt p := ⟨_, rfl⟩
      obtain ⟨X, hX⟩ : ∃ X, X = (Perms.ciTo g j).1 := ⟨_, rfl⟩
      obtain ⟨C, hC⟩ : ∃ C, C = (Perms.ciTo g j).2 := ⟨_, rfl⟩
      have hs1 : Hid ((Perms.ciTo g (j + 1)).1 = Perms.addX X t) := Lib.hid (by
        have e : g.getD j [] = p := by simp [List.getD, hp.out]
        rw [hX, ht, Perms.ciTo, e])
      have hs2 : Hid ((Perms.ciTo g (j + 1)).2 = Perms.addC X C t) := Lib.hid (by
        have e : g.getD j [] = p := by simp [List.getD, hp.out]
        rw [hX, hC, ht, Perms.ciTo, e])
      have htl : t.length ≤ 10 := by rw [ht, Perms.cyt_len]; omega
      rw [← hX] at oj hlen hlj
      rw [← hC] at oj hlen hcb
      have ht' := Lib.hid ht
      obtain ⟨ap, cp, rfl, _, _, _⟩ := hup.form
      have hup' := Lib.hid hup
      obtain ⟨a3, c3, rfl, _, _, _⟩ := oj.form
      clear hup hpm ht hX hC
      go_wp2_with fail
      refine CycleType_i hup'.out hpb.out hpc.out ?_
      intro v2 w2 o2 b2
      rw [← ht'.out] at o2
      obtain ⟨a2, k2, rfl, _, _, _⟩ := Own.form o2
      rw [ints_len] at o2 ⊢
      go_wp2_with fail
      have hbx := box_new w2 (.slice a2 t.length k2) 38
      have ba := below_alloc w2 (.cells #[.slice a2 t.length k2] 38)
      have b2a := b2.trans (ba.mono b2.size)
      have oja := Lib.hid (oj.below b2a)
      have hta := Lib.hid (OwnInts.at (OwnInts.below o2 ba))
      refine findT_c oja.out hbx hta.out ?_
      intro w3 b3
      have b23 := b2a.trans (b3.mono b2a.size)
      have oj3 := oj.below b23
      have bj3 := bj.trans (b23.mono bj.size)
      have o23 := OwnInts.below o2 (ba.trans (b3.mono ba.size))
      have hbx3 := (hbx.below b3).cell
      have hbf3 := (hbx.below b3).frozen
      clear hbx
      by_cases hm : t ∈ X
      · obtain ⟨i, hi⟩ : ∃ i, i = X.idxOf t := ⟨_, rfl⟩
        have hil : i < X.length := by rw [hi]; exact List.idxOf_lt_length_iff.2 hm
        have hix : Perms.idx X t = (i : Int) := by unfold Perms.idx; rw [if_pos hm, hi]
        obtain ⟨g0, uu, x, c, e0, hx0, hc0, hc1, hc2, _, hfr⟩ := oj3.cell hil
        cases e0
        have hcbd := hcb c (List.mem_of_getElem? hc0.out)
        have hiI : (i : Int) < X.length := by omega
        have hcnt := oj3.count hc0.out (c + 1)
        have hA1 : Hid (Perms.addX X t = X) := Lib.hid (by unfold Perms.addX; rw [if_pos hm])
        have hA2 : Hid (Perms.addC X C t = C.set i (c + 1)) := Lib.hid (by
          unfold Perms.addC
          rw [if_pos hm, ← hi]
          have : C.getD i 0 = c := by simp [List.getD, hc0.out]
          rw [this])
        have hgs := grown_set w3 g0 (i * 2 + 1) (.int .i64 (c + 1))
        have hg0B : w.heap.size ≤ g0 := by
          obtain ⟨_, us, h1, _, _⟩ := oj3
          exact (h1.lt rfl).1
        have bjs := bj3.grown hgs bj3.size (fun b hb => by cases hb; exact hg0B)
        have hfr1 := hfr (i * 2 + 1)
        have hcnt' := Lib.hid (hcnt.mono (Nat.le_refl _) (show wr.heap.size ≤ (w3.setCell ⟨g0, i * 2 + 1, none⟩ (.int .i64 (c + 1))).heap.size from Nat.le_trans b23.size hgs.size))
        rw [hix]
        clear hcnt hi hix hfr hm hlen hcb
        go_wp2_with fail
        go_roundg (gk - 1)
        case measure => omega
        case rel => exact ⟨j + 1, by go_num, by rw [hs1.out, hs2.out, hA1.out, hA2.out]; exact hcnt'.out, bjs, by omega, by omega⟩
      · have hix : Perms.idx X t = -1 := by unfold Perms.idx; rw [if_neg hm]
        have hA1 : Hid (Perms.addX X t = X ++ [t]) := Lib.hid (by unfold Perms.addX; rw [if_neg hm])
        have hA2 : Hid (Perms.addC X C t = C ++ [1]) := Lib.hid (by unfold Perms.addC; rw [if_neg hm])
        rw [hix]
        obtain ⟨h0, us, o3, i3, r3⟩ := oj3
        have bal := below_alloc w3 (.cells #[.slice a2 t.length k2, .int .i64 1] 64)
        have bj4 := bj3.trans (bal.mono bj3.size)
        have o4 := o3.below bal
        have r4 := r3.below bal
        have hu4 := OwnInts.mono (OwnInts.below o23 bal) bj.size
        have hzl : (us.zip C).length ≤ 1000 := by rw [List.length_zip]; omega
        clear hix hm hcb
        go_wp2_with (at_builtin; go_loud (refine appT (ts := [(.slice a2 t.length k2, 1)]) rfl (.tmp 26) (.tmp 29) rfl rfl o4 rfl rfl (term_lit w3 _ 1) (fun t ht => by rw [List.mem_singleton] at ht; subst ht; rfl) (by simp; omega) bj4.size ?_); intro v5 w5 o5 g5)
        have hp5 := Lib.hid (OwnTerms.push h0 o4 r4 hu4 (fun b hb => (Own.lt o2 hb).1) o5 g5)
        have bj5 := bj4.grown g5 bj4.size (fun b hb => (o4.lt hb).1)
        go_roundg (gk - 1)
        case measure => omega
        case rel => exact ⟨j + 1, by go_num, by rw [hs1.out, hs2.out, hA1.out, hA2.out]; exact hp5.out, bj5, by omega, by omega⟩
    · obtain rfl : j = g.length := by omega
      have hXl : (Perms.ciTo g g.length).1.length = xs.length := by
        have := hS'.out.perm.length_eq
        rw [List.length_zip, List.length_zip, hS'.out.len, hlen] at this
        omega
      obtain ⟨a3, c3, rfl, _, _, _⟩ := oj.form
      have oj' := Lib.hid oj
      rw [hXl]
      have oj2 : Hid (OwnTerms wr w.heap.size wr.heap.size (.slice a3 xs.length c3) (Perms.ciTo g g.length).1 (Perms.ciTo g g.length).2) := Lib.hid (by rw [← hXl]; exact oj)
      have hXp : 0 < (Perms.ciTo g g.length).1.length := by omega
      have hXb : (Perms.ciTo g g.length).1.length ≤ 1048576 := by omega
      clear oj hXl
      go_wp2_with fail
      refine sortTerms_c oj2.out bj.size hXp hXb ?_
      intro w6 ys ds hl hp hs o6 b6
      obtain ⟨rfl, rfl⟩ := hS'.out.uniq hl hp hs
      have h3 := Lib.hid (H.out _ w6 o6 (bj.trans b6))
      go_wp2_with fail
      exact h3.out
end Go.Proofs.Ytdjdagcgodpgdaa
/- The cycle index, as the reference makes it. -/
set_option linter.unusedVariables false
namespace Go.Proofs.Ytdjdagcgodpgdaa
open Go.RowKit

def Perms.ltT (xs : List (List Int)) (t : List Int) : Nat := (xs.takeWhile fun y => decide (Words.cmpL y t < 0)).length
theorem Perms.ltT_at {xs : List (List Int)} {t : List Int} {i : Nat} (hi : i ≤ xs.length) (h1 : ∀ (k : Nat) y, k < i → xs[k]? = some y → Words.cmpL y t < 0) (h2 : ∀ y, xs[i]? = some y → ¬ Words.cmpL y t < 0) : Perms.ltT xs t = i := by
  unfold Perms.ltT
  have e : xs = xs.take i ++ xs.drop i := (List.take_append_drop i xs).symm
  have hall : ∀ y ∈ xs.take i, decide (Words.cmpL y t < 0) = true := fun y hy => by
    obtain ⟨k, hk, e⟩ := List.mem_iff_getElem.1 hy
    rw [List.length_take] at hk
    rw [List.getElem_take] at e
    exact decide_eq_true (h1 k y (by omega) (by rw [List.getElem?_eq_getElem (by omega), e]))
  rw [e, List.takeWhile_append_of_pos hall]
  have hd : (xs.drop i).takeWhile (fun y => decide (Words.cmpL y t < 0)) = [] := by
    cases hx : xs.drop i with
    | nil => rfl
    | cons y l =>
      have hy : xs[i]? = some y := by
        have := congrArg (fun l => l[0]?) hx
        simpa [List.getElem?_drop] using this
      rw [List.takeWhile_cons, if_neg (by rw [decide_eq_true_eq]; exact h2 y hy)]
  rw [hd, List.append_nil, List.length_take]
  omega
def Perms.spX (xs : List (List Int)) (t : List Int) : List (List Int) := if xs[Perms.ltT xs t]? = some t then xs else (xs.take (Perms.ltT xs t) ++ [t]) ++ xs.drop (Perms.ltT xs t)
def Perms.spC (xs : List (List Int)) (cs : List Int) (t : List Int) : List Int := if xs[Perms.ltT xs t]? = some t then cs.set (Perms.ltT xs t) (cs.getD (Perms.ltT xs t) 0 + 1) else (cs.take (Perms.ltT xs t) ++ [1]) ++ cs.drop (Perms.ltT xs t)
def Perms.spTo (g : List (List Int)) : Nat → List (List Int) × List Int
  | 0 => ([], [])
  | j + 1 => (Perms.spX (Perms.spTo g j).1 (Perms.cyt (g.getD j [])), Perms.spC (Perms.spTo g j).1 (Perms.spTo g j).2 (Perms.cyt (g.getD j [])))
theorem Perms.ltT_le (xs : List (List Int)) (t : List Int) : Perms.ltT xs t ≤ xs.length := by
  unfold Perms.ltT
  exact (List.takeWhile_sublist _).length_le
theorem Perms.spTo_len (g : List (List Int)) {n : Nat} (hg : ∀ p ∈ g, p.length = n) : ∀ j, j ≤ g.length → (Perms.spTo g j).2.length = (Perms.spTo g j).1.length ∧ (Perms.spTo g j).1.length ≤ j ∧ (∀ c ∈ (Perms.spTo g j).2, 0 ≤ c ∧ c ≤ j) ∧ ∀ x ∈ (Perms.spTo g j).1, x.length = n
  | 0, _ => ⟨rfl, Nat.le_refl _, (fun c h => by cases h), (fun x h => by cases h)⟩
  | j + 1, hj => by
    obtain ⟨h1, h2, h3, h4⟩ := Perms.spTo_len g hg j (by omega)
    have hle := Perms.ltT_le (Perms.spTo g j).1 (Perms.cyt (g.getD j []))
    simp only [Perms.spTo, Perms.spX, Perms.spC]
    split
    · rename_i hm
      have hlt := (List.getElem?_eq_some_iff.1 hm).1
      refine ⟨by rw [List.length_set, h1], by omega, fun c hc => ?_, h4⟩
      rcases List.mem_or_eq_of_mem_set hc with h | h
      · have := h3 c h; omega
      · rw [Perms.getD_get (by omega)] at h
        have := h3 _ (List.getElem_mem (show Perms.ltT (Perms.spTo g j).1 (Perms.cyt (g.getD j [])) < (Perms.spTo g j).2.length by omega))
        omega
    · have e : g.getD j [] = g[j] := by simp [List.getD, List.getElem?_eq_getElem (show j < g.length by omega)]
      refine ⟨by simp only [List.length_append, List.length_take, List.length_drop, List.length_cons, List.length_nil]; omega, by simp only [List.length_append, List.length_take, List.length_drop, List.length_cons, List.length_nil]; omega, fun c hc => ?_, fun x hx => ?_⟩
      · rcases List.mem_append.1 hc with h | h
        · rcases List.mem_append.1 h with h | h
          · have := h3 c (List.mem_of_mem_take h); omega
          · rw [List.mem_singleton] at h; omega
        · have := h3 c (List.mem_of_mem_drop h); omega
      · rcases List.mem_append.1 hx with h | h
        · rcases List.mem_append.1 h with h | h
          · exact h4 x (List.mem_of_mem_take h)
          · rw [List.mem_singleton] at h
            rw [h, Perms.cyt_len, e]
            exact hg _ (List.getElem_mem _)
        · exact h4 x (List.mem_of_mem_drop h)
end Go.Proofs.Ytdjdagcgodpgdaa
/- Sorting a slice of integers of the call's own: out of the library's contract. -/
set_option linter.unusedVariables false
namespace Go.Proofs.Ytdjdagcgodpgdaa
open Go.RowKit

theorem grownBy_sortWorld {α : Type} [Inhabited α] (enc : α → Value) (w : World) (blk off m : Nat) (dk : Array α) (os : Array Obj) : w.grownBy (sortWorld enc w blk off m dk os) (some blk) :=
  ⟨rfl, rfl, rfl, by unfold sortWorld; simp, fun k hk hne => heap_sortWorld enc w blk off m dk os hk (fun e => hne (by rw [e]))⟩
def Perms.srt (xs : List Int) : List Int := xs.mergeSort fun x y => decide (x ≤ y)
theorem Perms.srt_len (xs : List Int) : (Perms.srt xs).length = xs.length := List.length_mergeSort xs
theorem Perms.srt_two (a b : Int) : Perms.srt [a, b] = if a ≤ b then [a, b] else [b, a] := by
  by_cases h : a ≤ b <;> simp [Perms.srt, List.mergeSort, List.MergeSort.Internal.splitInTwo, List.merge, h]
theorem sortI_c {v : Value} {xs : List Int} {w : World} {B : Nat} {Q : Ending → World → Prop} (ho : OwnInts w B v xs) (hB : B ≤ w.heap.size) (hn : 0 < xs.length) (hbig : xs.length ≤ 1048576)
    (hQ : ∀ w', OwnInts w' B v (Perms.srt xs) → Below B w w' → w.grownBy w' v.ownBlock → Q (.returned (.tuple #[])) w') :
    Calls Try.prog 48 #[v] w Q := by
  obtain ⟨aa, ca, rfl, la, lca, cca⟩ := Own.form ho
  obtain ⟨g, rfl, hgB, hgl⟩ := Own.head ho (by rw [ints_len]; exact hn)
  have hH : Go.Sort.Holds (Value.int .i64) w g 0 xs.toArray := by
    intro j hj
    have hj' : j < xs.length := by simpa using hj
    refine ⟨?_, Own.frozen ho _⟩
    rw [Nat.zero_add, Own.cell ho (k := j) (x := .int .i64 xs[j]) (by rw [ints_get, List.getElem?_eq_getElem hj']; rfl)]
    simp [hj']
  have hc := Any.slices_Sort_int Try.sortI g 0 ca xs w hH hgl (by omega)
  rw [ints_len] at ho hQ ⊢
  refine hc.mono ?_
  rintro e w' ⟨rfl, n, os, rfl⟩
  have ow := own_sortWorld (Value.int .i64) ho n (Perms.srt xs).toArray os (by simp [Perms.srt])
  refine hQ _ ?_ (below_sortWorld (Value.int .i64) hB hgB 0 n (Perms.srt xs).toArray os) (grownBy_sortWorld (Value.int .i64) w g 0 n (Perms.srt xs).toArray os)
  have e : (Perms.srt xs).toArray.toList.map (Value.int .i64) = ints (Perms.srt xs) := rfl
  rw [e] at ow
  exact ow
end Go.Proofs.Ytdjdagcgodpgdaa
/- What a permutation of four points does to pairs of them, as the program finds it. -/
set_option linter.unusedVariables false
namespace Go.Proofs.Ytdjdagcgodpgdaa
open Go.RowKit

def Perms.mvTo (p : List Int) (L : List (List Int)) (j : Nat) : List Int := (L.take j).map fun x => Perms.idx L (Perms.srt (Perms.img p x))
def Perms.mvAct (p : List Int) : List Int := Perms.mvTo p (Perms.subs 2 0) (Perms.subs 2 0).length
theorem Perms.mvTo_step {p x : List Int} {L : List (List Int)} {j : Nat} (hx : L[j]? = some x) : Perms.mvTo p L (j + 1) = Perms.mvTo p L j ++ [Perms.idx L (Perms.srt (Perms.img p x))] := by
  unfold Perms.mvTo
  rw [List.take_add_one, hx, List.map_append]
  rfl
theorem Perms.mvTo_len (p : List Int) (L : List (List Int)) (j : Nat) : (Perms.mvTo p L j).length ≤ L.length := by
  unfold Perms.mvTo
  rw [List.length_map, List.length_take]
  omega
theorem PairsOf_c {w : World} {Q : Ending → World → Prop}
    (hQ : ∀ v w', OwnRows w' w.heap.size w'.heap.size v (Perms.subs 2 0) → Below w.heap.size w w' → Q (.returned v) w') :
    Calls Try.prog 58 #[.int .i64 4] w Q := by
  have H := Lib.hid hQ; clear hQ
  go_enter Try.func58, Try.ntmps58
  go_wp2_with fail
  refine subsetsOf_c ?_
  intro v w1 o1 b1
  have h3 := Lib.hid (H.out v w1 o1 b1)
  go_wp2_with fail
  exact h3.out
set_option maxHeartbeats 3200000 in
theorem moved_c {vL vp : Value} {L : List (List Int)} {p : List Int} {w : World} {Q : Ending → World → Prop} (hL : RowsAt w vL L) (hp : IntsAt w vp p) (hpl : p.length = 4) (hLl : L.length ≤ 64) (hasc : Perms.Asc L)
    (hrng : ∀ x ∈ L, x.length = 2 ∧ ∀ c ∈ x, 0 ≤ c ∧ c < ((4 : Nat) : Int))
    (hQ : ∀ v w', OwnInts w' w.heap.size v (Perms.mvTo p L L.length) → Below w.heap.size w w' → Q (.returned v) w') :
    Calls Try.prog 57 #[vL, vp] w Q := by
  have H := Lib.hid hQ; clear hQ
  have hL0 := Lib.hid hL
  have hp0 := Lib.hid hp
  have hasc' := Lib.hid hasc
  have hrng' := Lib.hid hrng
  obtain ⟨aL, cL, rfl, lL, lcL, ccL⟩ := hL.form
  obtain ⟨ap, cp, rfl, lp, lcp, ccp⟩ := hp.form
  have hpl' := Lib.hid hpl
  clear hL hp hasc hrng hpl
  go_enter Try.func57, Try.ntmps57
  go_wp2_with fail
  have o0 := own_empty w
  have b0 := below_alloc w (.cells #[] 3)
  have o0' : OwnInts (w.alloc (.cells #[] 3)) w.heap.size (.slice (some ⟨w.heap.size, 0, none⟩) 0 0) (Perms.mvTo p L 0) := o0
  go_loopg [5, 14] L.length (fun gg u5 u14 wr => ∃ (j : Nat), u14 = .int .i64 j ∧ OwnInts wr w.heap.size u5 (Perms.mvTo p L j) ∧ Below w.heap.size w wr ∧ j + gg ≤ L.length ∧ L.length ≤ j + gg)
  case atStart => exact ⟨0, rfl, o0', b0, by omega, by omega⟩
  case round =>
    obtain ⟨j, rfl, oj, bj, hj1, hj2⟩ := hrel
    obtain ⟨gk1, hgk1⟩ : ∃ g, g = gk := ⟨_, rfl⟩
    obtain ⟨a5, c5, rfl, _, _, _⟩ := Own.form oj
    have hml := Perms.mvTo_len p L j
    by_cases hj : j < L.length
    · have hjI : (j : Int) < L.length := by omega
      obtain ⟨b7, f7, u, x, e7, hx, hcx, hux⟩ := (hL0.out.below bj).cell hj
      cases e7
      obtain ⟨ax, cx, rfl, _, _, _⟩ := hux.form
      have hst := Lib.hid (Perms.mvTo_step (p := p) hx.out)
      have hxl := (hrng'.out x (List.mem_of_getElem? hx.out)).1
      have hxr := Lib.hid (hrng'.out x (List.mem_of_getElem? hx.out)).2
      rw [hxl] at hux hcx
      have hxl' := Lib.hid hxl
      clear hxl
      go_wp2_with fail
      have o1 := own_empty wr
      have b1 := below_alloc wr (.cells #[] 3)
      obtain ⟨V, hV⟩ : ∃ V, V = wr := ⟨_, rfl⟩
      have BJ : Below w.heap.size w V := by rw [hV]; exact bj
      have OJ : Own V w.heap.size 3 (.slice a5 (ints (Perms.mvTo p L j)).length c5) (ints (Perms.mvTo p L j)) := by rw [hV]; exact oj
      have UX : Hid (IntsAt V (.slice ax 2 cx) x) := Lib.hid (by rw [hV]; exact hux)
      have b1' : Below V.heap.size V (wr.alloc (.cells #[] 3)) := by rw [hV]; exact b1
      have o1' : OwnInts (wr.alloc (.cells #[] 3)) V.heap.size (.slice (some ⟨wr.heap.size, 0, none⟩) 0 0) ((Perms.img p x).take 0) := by rw [hV]; exact o1
      clear hV hux hcx
      go_loopg [8, 21] 2 (fun gg u8 u21 w2 => ∃ (i : Nat), u21 = .int .i64 i ∧ OwnInts w2 V.heap.size u8 ((Perms.img p x).take i) ∧ Below V.heap.size V w2 ∧ i + gg = 2)
      case atStart => exact ⟨0, rfl, o1', b1', rfl⟩
      case round =>
        obtain ⟨i, rfl, oi, bi, hi⟩ := hrel
        obtain ⟨a8, c8, rfl, _, _, _⟩ := Own.form oi
        have bwi := BJ.trans (bi.mono BJ.size)
        by_cases hi2 : i < 2
        · have hiI : (i : Int) < 2 := by omega
          obtain ⟨bx, ox, q, rfl, hq, hcq⟩ := (UX.out.below bi).cell (k := i) (by rw [hxl'.out]; exact hi2)
          obtain ⟨hq0, hq1⟩ := hxr.out q (List.mem_of_getElem? hq.out)
          obtain ⟨m, rfl⟩ : ∃ m : Nat, q = m := ⟨q.toNat, by omega⟩
          obtain ⟨bp, op, y, rfl, hy, hcy⟩ := (hp0.out.below bwi).cell (k := m) (by rw [hpl'.out]; omega)
          have hmI : (m : Int) < p.length := by rw [hpl'.out]; omega
          have hil : ((Perms.img p x).take i).length ≤ 2 := by rw [List.length_take]; omega
          have hst2 : Hid ((Perms.img p x).take (i + 1) = (Perms.img p x).take i ++ [y]) := Lib.hid (by
            unfold Perms.img
            rw [List.take_add_one, List.getElem?_map, hq.out]
            simp [List.getD, hy.out])
          go_wp2_with (at_builtin; refine app_int rfl (.tmp 25) (.tmp 30) rfl rfl (OwnInts.below oi (below_alloc wr _)) rfl (cell_new _ _ _) (by omega) (by have := bi.size; simp; omega) ?_; intro v3 w3 o3 g3)
          rw [← hst2.out] at o3
          have bi3 := (bi.alloc bi.size (.cells #[.int .i64 y] 3)).grown g3 (by have := bi.size; simp; omega) (fun b hb => (Own.lt oi hb).1)
          go_roundg (gk - 1)
          case measure => omega
          case rel => exact ⟨i + 1, by go_num, o3, bi3, by omega⟩
        · obtain rfl : i = 2 := by omega
          have hil2 : (Perms.img p x).length = 2 := by unfold Perms.img; rw [List.length_map]; exact hxl'.out
          have e2 : (Perms.img p x).take 2 = Perms.img p x := List.take_of_length_le (by omega)
          rw [e2] at oi ⊢
          obtain ⟨Y, hY⟩ : ∃ Y, Y = Perms.img p x := ⟨_, rfl⟩
          rw [← hY] at oi hil2 hst ⊢
          have hil2' := Lib.hid hil2
          have bis := bi.size
          clear e2 hY hil2
          obtain ⟨z, hz⟩ : ∃ z, z = Perms.idx L (Perms.srt Y) := ⟨_, rfl⟩
          rw [← hz] at hst
          have hz' := Lib.hid hz
          clear hz
          have hn0 : 0 < Y.length := by rw [hil2'.out]; omega
          have hn1 : Y.length ≤ 1048576 := by rw [hil2'.out]; omega
          have hLm : L.length ≤ 1048576 := by omega
          go_wp2_with fail
          refine sortI_c oi bis hn0 hn1 ?_
          intro w3 o3 b3 _
          have bi3 := bi.trans b3
          have bw3 := BJ.trans (bi3.mono BJ.size)
          have o3' := Lib.hid (OwnInts.at o3)
          have hL3 := Lib.hid (hL0.out.below bw3)
          clear oi bi bwi hn0 hn1 b3 o3
          go_wp2_with (first
            | (refine find_i hL3.out o3'.out hasc'.out hLm ?_; intro w4 d4; rw [← hz'.out]; have bi4 := bi3.trans (d4.below _))
            | (at_builtin; refine app_int rfl (.tmp 35) (.tmp 39) rfl rfl (OwnInts.below (Own.below OJ bi4) (below_alloc w4 _)) rfl (cell_new _ _ _) (by omega) (by have := BJ.size; have := bi4.size; simp; omega) ?_; intro v5 w5 o5 g5))
          rw [← hst.out] at o5
          have ba4 := below_alloc w4 (.cells #[.int .i64 z] 3)
          have bw4 := BJ.trans (bi4.mono BJ.size)
          have bw5 := (bw4.trans (ba4.mono bw4.size)).grown g5 (by have := bw4.size; simp; omega) (fun b hb => (Own.lt OJ hb).1)
          go_roundg (gk1 - 1)
          case measure => omega
          case rel => exact ⟨j + 1, by go_num, o5, bw5, by omega, by omega⟩
    · have hje : j = L.length := by omega
      have h2 : OwnInts wr w.heap.size (.slice a5 (ints (Perms.mvTo p L j)).length c5) (Perms.mvTo p L L.length) := by rw [← hje]; exact oj
      have h3 := Lib.hid (H.out _ wr h2 bj)
      clear h2
      go_wp2_with fail
      exact h3.out
theorem Perms.subs_asc : Perms.Asc (Perms.subs 2 0) := by
  have h : (Perms.subs 2 0).Pairwise fun a b => Words.cmpL a b < 0 := by decide
  intro i j a b hij ha hb
  obtain ⟨h1, rfl⟩ := List.getElem?_eq_some_iff.1 ha
  obtain ⟨h2, rfl⟩ := List.getElem?_eq_some_iff.1 hb
  exact (List.pairwise_iff_getElem.1 h) i j h1 h2 hij
theorem Perms.subs_rng2 : ∀ x ∈ Perms.subs 2 0, x.length = 2 ∧ ∀ c ∈ x, 0 ≤ c ∧ c < ((4 : Nat) : Int) := by decide
theorem PairAction_i {vp : Value} {p : List Int} {w : World} {Q : Ending → World → Prop} (hp : IntsAt w vp p) (hpl : p.length = 4) (hok : Perms.permB p = true)
    (hQ : ∀ v w', OwnInts w' w.heap.size v (Perms.mvAct p) → Below w.heap.size w w' → Q (.returned (.tuple #[v, .bool true])) w') :
    Calls Try.prog 30 #[vp] w Q := by
  have H := Lib.hid hQ; clear hQ
  have hp0 := Lib.hid hp
  obtain ⟨ap, cp, rfl, lp, lcp, ccp⟩ := hp.form
  have hpl' := Lib.hid hpl
  have hok' := Lib.hid hok
  rw [hpl] at hp0 lp lcp ⊢
  clear hp hpl hok
  go_enter Try.func30, Try.ntmps30
  go_wp2_with fail
  refine PermOk_i hp0.out ?_
  intro w1 b1
  rw [hok'.out]
  have hp1 := Lib.hid (hp0.out.below b1)
  go_wp2_with fail
  refine PairsOf_c ?_
  intro v2 w2 o2 b2
  have hp2 := Lib.hid (hp1.out.below b2)
  have o2' := Lib.hid o2.at
  have bw2 := b1.trans (b2.mono b1.size)
  have h6 : (Perms.subs 2 0).length ≤ 64 := by decide
  obtain ⟨a2, c2, rfl, _, _, _⟩ := o2.form
  clear o2
  go_wp2_with fail
  refine moved_c o2'.out hp2.out hpl'.out h6 Perms.subs_asc Perms.subs_rng2 ?_
  intro v3 w3 o3 b3
  have h3 := Lib.hid (H.out v3 w3 (OwnInts.mono o3 bw2.size) (bw2.trans (b3.mono bw2.size)))
  obtain ⟨a3, c3, rfl, _, _, _⟩ := Own.form o3
  go_wp2_with fail
  exact h3.out
end Go.Proofs.Ytdjdagcgodpgdaa
