/-
  The groups of solid bodies, as the reference makes them.
-/
import Derived.Test.YtdjdagcgodpgdaaGreatCorS
import Derived.Test.YtdjdagcgodpgdaaGreatGofS
set_option linter.unusedVariables false
namespace Go.Proofs.YtdjdagcgodpgdaaGreat
open Go.RowKit

def Perms.tetra : List (List Int) := [[1, 2, 0, 3], [1, 0, 3, 2], [1, 0, 2, 3]]
def Perms.sgen (k : Int) : List (List Int) := if k = 1 then Perms.tetra else if k = 2 then Perms.tetra.map Perms.pairAct else if k = 3 then [[0, 1, 4, 5, 3, 2], [2, 3, 1, 0, 4, 5], [1, 0, 2, 3, 4, 5]] else [Perms.corL Perms.corA 8, Perms.corL Perms.corB 8, Perms.corL Perms.corM 8]
def Perms.sgens (k : Int) (m : Bool) : List (List Int) := if m = true then Perms.sgen k else (Perms.sgen k).take 2
def Perms.solO (k : Int) (m : Bool) : Option (List (List Int)) := if 1 ≤ k ∧ k ≤ 4 then Perms.gofO (Nums.sdeg k) (Perms.sgens k m) else none
def Perms.solW (k : Int) (m : Bool) : List (List Int) := ((Perms.solO k m).map Perms.isort).getD []
def Perms.solB (k : Int) (m : Bool) : Bool := (Perms.solO k m).isSome
theorem lit_ints (w : World) (xs : List Int) (hn : xs.length ≤ 1000) : OwnInts (w.alloc (.cells (ints xs).toArray 3)) w.heap.size (.slice (some ⟨w.heap.size, 0, none⟩) xs.length xs.length) xs := by
  unfold OwnInts Own
  have h := World.ownsRow_lit (size := 1) w (e := 3) (ints xs).toArray xs.length (Nat.le_refl _) (by unfold maxLen; omega) (by simp [ints_len])
  have e : (ints xs).length = xs.length := ints_len xs
  rw [e]
  simpa using h
theorem lit_outer (w : World) (us : List Value) (hn : us.length ≤ 1000) : RowAt (w.alloc (.cells us.toArray 36)) (.slice (some ⟨w.heap.size, 0, none⟩) us.length us.length) us := by
  have h := World.ownsRow_lit (size := 1) w (e := 36) us.toArray us.length (Nat.le_refl _) (by unfold maxLen; omega) (by simp)
  have h2 : Own (w.alloc (.cells us.toArray 36)) w.heap.size 36 (.slice (some ⟨w.heap.size, 0, none⟩) us.length us.length) us := by
    unfold Own
    simpa using h
  exact Own.row h2
/-- A literal of three lists. -/
theorem lit_three (w : World) (x y z : List Int) (hx : x.length ≤ 1000) (hy : y.length ≤ 1000) (hz : z.length ≤ 1000) :
    RowsAt ((((w.alloc (.cells (ints x).toArray 3)).alloc (.cells (ints y).toArray 3)).alloc (.cells (ints z).toArray 3)).alloc (.cells #[.slice (some ⟨w.heap.size, 0, none⟩) x.length x.length, .slice (some ⟨w.heap.size + 1, 0, none⟩) y.length y.length, .slice (some ⟨w.heap.size + 1 + 1, 0, none⟩) z.length z.length] 36))
      (.slice (some ⟨w.heap.size + 1 + 1 + 1, 0, none⟩) 3 3) [x, y, z] := by
  have h1 := lit_ints w x hx
  have h2 := lit_ints (w.alloc (.cells (ints x).toArray 3)) y hy
  have h3 := lit_ints ((w.alloc (.cells (ints x).toArray 3)).alloc (.cells (ints y).toArray 3)) z hz
  have h4 := lit_outer (((w.alloc (.cells (ints x).toArray 3)).alloc (.cells (ints y).toArray 3)).alloc (.cells (ints z).toArray 3)) [.slice (some ⟨w.heap.size, 0, none⟩) x.length x.length, .slice (some ⟨w.heap.size + 1, 0, none⟩) y.length y.length, .slice (some ⟨w.heap.size + 1 + 1, 0, none⟩) z.length z.length] (by simp)
  rw [World.size_alloc] at h2
  rw [World.size_alloc, World.size_alloc] at h3
  rw [World.size_alloc, World.size_alloc, World.size_alloc] at h4
  refine ⟨_, h4, rfl, fun k xs hk => ?_⟩
  match k, hk with
  | 0, hk => cases hk; exact ⟨_, rfl, OwnInts.at (((OwnInts.below h1 (below_alloc _ _)).below (below_alloc _ _)).below (below_alloc _ _))⟩
  | 1, hk => cases hk; exact ⟨_, rfl, OwnInts.at ((OwnInts.below h2 (below_alloc _ _)).below (below_alloc _ _))⟩
  | 2, hk => cases hk; exact ⟨_, rfl, OwnInts.at (OwnInts.below h3 (below_alloc _ _))⟩
  | k + 3, hk => simp at hk
theorem below_three (w : World) (a b c d : Obj) : Below w.heap.size w ((((w.alloc a).alloc b).alloc c).alloc d) :=
  ((((below_alloc w a).alloc (below_alloc w a).size b).alloc (by simp; omega) c)).alloc (by simp; omega) d
set_option maxHeartbeats 1600000 in
theorem gens_one {w : World} {Q : Ending → World → Prop}
    (hQ : ∀ v w', RowsAt w' v (Perms.sgen 1) → Below w.heap.size w w' → Q (.returned v) w') :
    Calls Tryz.prog 26 #[.int .i64 1] w Q := by
  have H := Lib.hid hQ; clear hQ
  have h3 := Lib.hid (H.out _ _ (lit_three w [1, 2, 0, 3] [1, 0, 3, 2] [1, 0, 2, 3] (by simp) (by simp) (by simp)) (below_three w _ _ _ _))
  go_enter Tryz.func26, Tryz.ntmps26
  go_wp2_with fail
  exact h3.out
set_option maxHeartbeats 1600000 in
theorem gens_three {w : World} {Q : Ending → World → Prop}
    (hQ : ∀ v w', RowsAt w' v (Perms.sgen 3) → Below w.heap.size w w' → Q (.returned v) w') :
    Calls Tryz.prog 26 #[.int .i64 3] w Q := by
  have H := Lib.hid hQ; clear hQ
  have b4 := below_three w (.cells (ints [1, 2, 0, 3]).toArray 3) (.cells (ints [1, 0, 3, 2]).toArray 3) (.cells (ints [1, 0, 2, 3]).toArray 3) (.cells #[.slice (some ⟨w.heap.size, 0, none⟩) 4 4, .slice (some ⟨w.heap.size + 1, 0, none⟩) 4 4, .slice (some ⟨w.heap.size + 1 + 1, 0, none⟩) 4 4] 36)
  obtain ⟨W, hW⟩ : ∃ W, W = ((((w.alloc (.cells (ints [1, 2, 0, 3]).toArray 3)).alloc (.cells (ints [1, 0, 3, 2]).toArray 3)).alloc (.cells (ints [1, 0, 2, 3]).toArray 3)).alloc (.cells #[.slice (some ⟨w.heap.size, 0, none⟩) 4 4, .slice (some ⟨w.heap.size + 1, 0, none⟩) 4 4, .slice (some ⟨w.heap.size + 1 + 1, 0, none⟩) 4 4] 36)) := ⟨_, rfl⟩
  have hs : W.heap.size = w.heap.size + 1 + 1 + 1 + 1 := by rw [hW, World.size_alloc, World.size_alloc, World.size_alloc, World.size_alloc]
  rw [← hW] at b4
  have h := lit_three W [0, 1, 4, 5, 3, 2] [2, 3, 1, 0, 4, 5] [1, 0, 2, 3, 4, 5] (by simp) (by simp) (by simp)
  have h3 := H.out _ _ h (b4.trans (Below.mono (below_three W _ _ _ _) b4.size))
  rw [hs, hW] at h3
  have h4 := Lib.hid h3
  clear h h3 b4 hs hW W
  go_enter Tryz.func26, Tryz.ntmps26
  go_wp2_with fail
  exact h4.out
set_option maxHeartbeats 3200000 in
theorem gens_two {w : World} {Q : Ending → World → Prop}
    (hQ : ∀ v w', RowsAt w' v (Perms.sgen 2) → Below w.heap.size w w' → Q (.returned v) w') :
    Calls Tryz.prog 26 #[.int .i64 2] w Q := by
  have H := Lib.hid hQ; clear hQ
  have b4 := below_three w (.cells #[.int .i64 1, .int .i64 2, .int .i64 0, .int .i64 3] 3) (.cells #[.int .i64 1, .int .i64 0, .int .i64 3, .int .i64 2] 3) (.cells #[.int .i64 1, .int .i64 0, .int .i64 2, .int .i64 3] 3) (.cells #[.slice (some ⟨w.heap.size, 0, none⟩) 4 4, .slice (some ⟨w.heap.size + 1, 0, none⟩) 4 4, .slice (some ⟨w.heap.size + 1 + 1, 0, none⟩) 4 4] 36)
  have hF0 := lit_three w [1, 2, 0, 3] [1, 0, 3, 2] [1, 0, 2, 3] (by simp) (by simp) (by simp)
  go_enter Tryz.func26, Tryz.ntmps26
  go_wp2_with fail
  obtain ⟨W, hW⟩ : ∃ W, W = ((((w.alloc (.cells #[.int .i64 1, .int .i64 2, .int .i64 0, .int .i64 3] 3)).alloc (.cells #[.int .i64 1, .int .i64 0, .int .i64 3, .int .i64 2] 3)).alloc (.cells #[.int .i64 1, .int .i64 0, .int .i64 2, .int .i64 3] 3)).alloc (.cells #[.slice (some ⟨w.heap.size, 0, none⟩) 4 4, .slice (some ⟨w.heap.size + 1, 0, none⟩) 4 4, .slice (some ⟨w.heap.size + 1 + 1, 0, none⟩) 4 4] 36)) := ⟨_, rfl⟩
  have hs : W.heap.size = w.heap.size + 1 + 1 + 1 + 1 := by rw [hW, World.size_alloc, World.size_alloc, World.size_alloc, World.size_alloc]
  change RowsAt ((((w.alloc (.cells #[.int .i64 1, .int .i64 2, .int .i64 0, .int .i64 3] 3)).alloc (.cells #[.int .i64 1, .int .i64 0, .int .i64 3, .int .i64 2] 3)).alloc (.cells #[.int .i64 1, .int .i64 0, .int .i64 2, .int .i64 3] 3)).alloc (.cells #[.slice (some ⟨w.heap.size, 0, none⟩) 4 4, .slice (some ⟨w.heap.size + 1, 0, none⟩) 4 4, .slice (some ⟨w.heap.size + 1 + 1, 0, none⟩) 4 4] 36)) (.slice (some ⟨w.heap.size + 1 + 1 + 1, 0, none⟩) 3 3) Perms.tetra at hF0
  rw [← hW] at hF0 b4
  have hF := Lib.hid hF0
  have o0 := own_outer_empty W
  have ba0 := below_alloc W (.cells #[] 36)
  rw [hs] at o0
  have v0 : Vals (W.alloc (.cells #[] 36)) W.heap.size [] ((Perms.tetra.take 0).map Perms.pairAct) := ⟨rfl, fun k xs h => by simp at h⟩
  have v0' := Lib.hid v0
  have hten : Hid (∀ x ∈ Perms.tetra, Perms.inR 4 x ∧ Perms.permB x = true) := Lib.hid (by
    intro x hx
    simp only [Perms.tetra, List.mem_cons, List.not_mem_nil, or_false] at hx
    rcases hx with rfl | rfl | rfl
    · exact ⟨⟨rfl, by decide⟩, by decide⟩
    · exact ⟨⟨rfl, by decide⟩, by decide⟩
    · exact ⟨⟨rfl, by decide⟩, by decide⟩)
  obtain ⟨L, hL⟩ : ∃ L, L = Perms.tetra := ⟨_, rfl⟩
  have hLl : L.length ≤ 3 ∧ 3 ≤ L.length := by rw [hL]; decide
  rw [← hL] at hF hten v0'
  have hfin : Hid (Perms.sgen 2 = L.map Perms.pairAct) := Lib.hid (by rw [hL]; rfl)
  rw [← hW]
  clear hF0 hL v0 hW
  have hso : W.heap.size ≤ w.heap.size + 1 + 1 + 1 + 1 := by omega
  have o0' : Own (W.alloc (.cells #[] 36)) W.heap.size 36 (.slice (some ⟨w.heap.size + 1 + 1 + 1 + 1, 0, none⟩) 0 0) [] := o0.mono hso
  clear o0 hs hso
  go_loopg [4, 22] 3 (fun gg u4 u22 wr => ∃ (j : Nat) (us : List Value), u22 = .int .i64 j ∧ Own wr W.heap.size 36 u4 us ∧ Hid (Vals wr W.heap.size us ((L.take j).map Perms.pairAct)) ∧ Below W.heap.size W wr ∧ j + gg = 3)
  case atStart => exact ⟨0, [], rfl, o0', v0', ba0, rfl⟩
  case round =>
    obtain ⟨j, us, rfl, oj, vj, bj, hm⟩ := hrel
    obtain ⟨a4, c4, rfl, _, _, _⟩ := Own.form oj
    have hul : us.length ≤ 3 := by rw [vj.out.1, List.length_map, List.length_take]; omega
    by_cases hj : j < 3
    · have hjI : (j : Int) < 3 := by omega
      obtain ⟨b7, f7, u, x, e7, hx, hcx, hux⟩ := (hF.out.below bj).cell (k := j) (by omega)
      cases e7
      rw [Nat.zero_add] at hcx
      obtain ⟨ax, cx, rfl, _, _, _⟩ := hux.form
      have hux' := Lib.hid hux
      obtain ⟨hxR, hxO⟩ := hten.out x (List.mem_of_getElem? hx.out)
      have hxR' := Lib.hid hxR
      have hst : Hid ((L.take (j + 1)).map Perms.pairAct = (L.take j).map Perms.pairAct ++ [Perms.pairAct x]) := Lib.hid (by rw [List.take_add_one, hx.out, List.map_append]; rfl)
      clear hux hxR
      go_wp2_with fail
      refine PairAction_s hux'.out hxR'.out hxO ?_
      intro v3 w3 o3 b3
      obtain ⟨y, hy⟩ : ∃ y, y = Perms.pairAct x := ⟨_, rfl⟩
      rw [← hy] at o3 hst
      clear hy
      obtain ⟨a3, c3, rfl, _, _, _⟩ := Own.form o3
      have bj3 := bj.trans (b3.mono bj.size)
      have oj3 := Own.below (Own.below oj b3) (below_alloc w3 (.cells #[.slice a3 (ints y).length c3] 36))
      have hr3 := row_one w3 (.slice a3 (ints y).length c3) 36
      have ba3 := below_alloc w3 (.cells #[.slice a3 (ints y).length c3] 36)
      have bj4 := bj3.trans (ba3.mono bj3.size)
      have vj4 := Lib.hid (((vj.out.below b3).below ba3).push (OwnInts.mono (OwnInts.below o3 ba3) bj.size))
      have hone : Hid (∀ y' ∈ [Value.slice a3 (ints y).length c3], y'.oneCell' = true) := Lib.hid (fun y' hy' => by rw [List.mem_singleton] at hy'; rw [hy']; rfl)
      go_wp2_with (at_builtin; refine app_outer rfl (.tmp 31) (.tmp 33) rfl rfl oj3 rfl hr3 hone.out (by show us.length + 1 ≤ 1099511627776; omega) bj4.size ?_; intro v5 w5 o5 g5)
      have vj5 : Hid (Vals w5 W.heap.size (us ++ [.slice a3 (ints y).length c3]) ((L.take (j + 1)).map Perms.pairAct)) := Lib.hid (by rw [hst.out]; exact vj4.out.outer oj3 g5)
      have bj5 := bj4.grown g5 bj4.size (fun b hb => (Own.lt oj3 hb).1)
      go_roundg (gk - 1)
      case measure => omega
      case rel => exact ⟨j + 1, _, by go_num, o5, vj5, bj5, by omega⟩
    · obtain rfl : j = 3 := by omega
      have hR : RowsAt wr (.slice a4 us.length c4) (Perms.sgen 2) := by
        have h := vj.out.at oj
        rw [List.take_of_length_le (by omega), ← hfin.out] at h
        exact h
      have h3 := Lib.hid (H.out _ wr hR (b4.trans (bj.mono b4.size)))
      clear hR
      go_wp2_with fail
      exact h3.out
set_option maxHeartbeats 1600000 in
theorem gens_four {w : World} {Q : Ending → World → Prop}
    (hQ : ∀ v w', RowsAt w' v (Perms.sgen 4) → Below w.heap.size w w' → Q (.returned v) w') :
    Calls Tryz.prog 26 #[.int .i64 4] w Q := by
  have H := Lib.hid hQ; clear hQ
  have b4 := Lib.hid (below_three w (.cells (ints [1, 2, 0, 3]).toArray 3) (.cells (ints [1, 0, 3, 2]).toArray 3) (.cells (ints [1, 0, 2, 3]).toArray 3) (.cells #[.slice (some ⟨w.heap.size, 0, none⟩) 4 4, .slice (some ⟨w.heap.size + 1, 0, none⟩) 4 4, .slice (some ⟨w.heap.size + 1 + 1, 0, none⟩) 4 4] 36))
  go_enter Tryz.func26, Tryz.ntmps26
  go_wp2_with fail
  refine l10Corners_c ?_
  intro v5 w5 o5 b5
  have h3 := Lib.hid (H.out v5 w5 o5.at (b4.out.trans (b5.mono b4.out.size)))
  obtain ⟨a5, c5, rfl, _, _, _⟩ := o5.form
  go_wp2_with fail
  exact h3.out
theorem gens_c {k : Int} (hk : 1 ≤ k ∧ k ≤ 4) {w : World} {Q : Ending → World → Prop}
    (hQ : ∀ v w', RowsAt w' v (Perms.sgen k) → Below w.heap.size w w' → Q (.returned v) w') :
    Calls Tryz.prog 26 #[.int .i64 k] w Q := by
  obtain rfl | rfl | rfl | rfl : k = 1 ∨ k = 2 ∨ k = 3 ∨ k = 4 := by omega
  · exact gens_one hQ
  · exact gens_two hQ
  · exact gens_three hQ
  · exact gens_four hQ
theorem Perms.sgen_len (k : Int) : (Perms.sgen k).length = 3 := by
  unfold Perms.sgen
  split
  · rfl
  · split
    · rfl
    · split <;> rfl
set_option maxHeartbeats 1600000 in
theorem SolidGroup_s {k : Int} {m : Bool} {w : World} {Q : Ending → World → Prop}
    (hQ : ∀ v w', OwnRows w' w.heap.size w'.heap.size v (Perms.solW k m) → Below w.heap.size w w' → Q (.returned (.tuple #[v, .bool (Perms.solB k m)])) w') :
    Calls Tryz.prog 15 #[.int .i64 k, .bool m] w Q := by
  have H := Lib.hid hQ; clear hQ
  by_cases hk : 1 ≤ k ∧ k ≤ 4
  rotate_left
  · have h2 := H.out (.slice none 0 0) w (by unfold Perms.solW Perms.solO; rw [if_neg hk]; exact OwnRows.nil _ _ _) (Below.refl _ _)
    unfold Perms.solB Perms.solO at h2
    rw [if_neg hk] at h2
    have h3 := Lib.hid h2
    have hd : Hid (Nums.sdeg k = 0) := Lib.hid (by unfold Nums.sdeg; rw [if_neg (by omega), if_neg (by omega), if_neg (by omega), if_neg (by omega)])
    clear hk h2
    go_enter Tryz.func15, Tryz.ntmps15
    go_wp2_with fail
    refine SolidDegree_s ?_
    rw [hd.out]
    go_wp2_with fail
    exact h3.out
  have hso : Perms.solO k m = Perms.gofO (Nums.sdeg k) (Perms.sgens k m) := by unfold Perms.solO; rw [if_pos hk]
  have hW : Hid (Perms.solW k m = Perms.gofW (Nums.sdeg k) (Perms.sgens k m)) := Lib.hid (by unfold Perms.solW Perms.gofW; rw [hso])
  have hB : Hid (Perms.solB k m = Perms.gofB (Nums.sdeg k) (Perms.sgens k m)) := Lib.hid (by unfold Perms.solB Perms.gofB; rw [hso])
  have hd : 4 ≤ Nums.sdeg k ∧ Nums.sdeg k ≤ 8 := by
    obtain rfl | rfl | rfl | rfl : k = 1 ∨ k = 2 ∨ k = 3 ∨ k = 4 := by omega
    all_goals decide
  obtain ⟨d, hdd⟩ : ∃ d, d = Nums.sdeg k := ⟨_, rfl⟩
  rw [← hdd] at hd
  have hdd' := Lib.hid hdd
  obtain ⟨hd4, hd8⟩ := hd
  have hd0 : (d == 0) = false := by rw [beq_eq_false_iff_ne]; omega
  have hk' := Lib.hid hk
  clear hso hdd hk
  go_enter Tryz.func15, Tryz.ntmps15
  go_wp2_with fail
  refine SolidDegree_s ?_
  rw [← hdd'.out]
  go_wp2_with fail
  refine gens_c hk'.out ?_
  intro v1 w1 r1 b1
  obtain ⟨L, hL⟩ : ∃ L, L = Perms.sgen k := ⟨_, rfl⟩
  have hL3 : L.length ≤ 3 ∧ 3 ≤ L.length := by rw [hL, Perms.sgen_len]; omega
  rw [← hL] at r1
  have hL' := Lib.hid hL
  clear hL
  have r1' := Lib.hid r1
  obtain ⟨a1, c1, rfl, _, _, _⟩ := r1.form
  cases m with
  | true =>
    have hg : Hid (Perms.sgens k true = L) := Lib.hid (by unfold Perms.sgens; rw [if_pos rfl, hL'.out])
    clear r1
    go_wp2_with fail
    refine SolidDegree_s ?_
    rw [← hdd'.out]
    go_wp2_with fail
    refine GroupOf_s r1'.out ?_
    intro v3 w3 o3 b3
    rw [← hg.out, hdd'.out, ← hW.out] at o3
    have h2 := H.out v3 w3 (OwnRows.mono o3 b1.size (Nat.le_refl _)) (b1.trans (b3.mono b1.size))
    rw [hB.out, ← hdd'.out, hg.out] at h2
    have h3 := Lib.hid h2
    obtain ⟨a3, c3, rfl, _, _, _⟩ := o3.form
    clear h2
    go_wp2_with fail
    exact h3.out
  | false =>
    have hg : Hid (Perms.sgens k false = L.take 2) := Lib.hid (by unfold Perms.sgens; rw [if_neg (by decide), hL'.out])
    obtain ⟨vs, hv1, hv2, hv3⟩ := r1
    have r2 : RowsAt w1 (.slice a1 2 c1) (L.take 2) := by
      have hu := RowAt.upto hv1 (k := 2) (by omega)
      refine ⟨vs.take 2, hu, by simp; omega, fun q xs hq => ?_⟩
      rw [List.getElem?_take] at hq
      split at hq
      · rename_i h
        obtain ⟨u, h1, h2⟩ := hv3 q xs hq
        exact ⟨u, by rw [List.getElem?_take, if_pos h]; exact h1, h2⟩
      · cases hq
    have hlt : Hid ((L.take 2).length = 2) := Lib.hid (by rw [List.length_take]; omega)
    have r2' := Lib.hid r2
    have hc2 : 2 ≤ c1 := by omega
    clear hv1 hv2 hv3 r2
    go_wp2_with fail
    refine SolidDegree_s ?_
    rw [← hdd'.out]
    go_wp2_with fail
    refine GroupOf_s r2'.out ?_
    intro v3 w3 o3 b3
    rw [← hg.out, hdd'.out, ← hW.out] at o3
    have h2 := H.out v3 w3 (OwnRows.mono o3 b1.size (Nat.le_refl _)) (b1.trans (b3.mono b1.size))
    rw [hB.out, ← hdd'.out, hg.out] at h2
    have h3 := Lib.hid h2
    obtain ⟨a3, c3, rfl, _, _, _⟩ := o3.form
    clear h2
    go_wp2_with fail
    exact h3.out
end Go.Proofs.YtdjdagcgodpgdaaGreat
