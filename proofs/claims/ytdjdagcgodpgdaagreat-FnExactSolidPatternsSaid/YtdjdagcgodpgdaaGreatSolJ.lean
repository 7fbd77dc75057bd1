/-
  Faces, corners and moves of the cube.
-/
import Derived.Test.YtdjdagcgodpgdaaGreatArr
set_option linter.unusedVariables false
namespace Go.Proofs.YtdjdagcgodpgdaaGreat
open Go.RowKit

set_option maxHeartbeats 1600000 in
theorem faces_c {w : World} {Q : Ending → World → Prop} (hQ : ∀ v w', Own3 w' w.heap.size v Perms.face → Below w.heap.size w w' → Q (.returned v) w') :
    Calls Tryz.prog 33 #[] w Q := by
  have H := Lib.hid (hQ _ _ (own3_lit w Perms.face (by decide)) (below_alloc w _)); clear hQ
  go_enter Tryz.func33, Tryz.ntmps33
  go_wp2_with fail
  exact H.out
theorem Perms.corn_step (i : Nat) : Perms.cornTo (i + 1) = Perms.cornTo i ++ [(2 * ((i % 2 : Nat) : Int) - 1, 2 * ((i / 2 % 2 : Nat) : Int) - 1, 2 * ((i / 4 % 2 : Nat) : Int) - 1)] := by
  unfold Perms.cornTo
  rw [List.range_succ, List.map_append]
  rfl
theorem Perms.corn_len (i : Nat) : (Perms.cornTo i).length = i := by simp [Perms.cornTo]
set_option maxHeartbeats 1600000 in
theorem corners_c {w : World} {Q : Ending → World → Prop} (hQ : ∀ v w', Own3 w' w.heap.size v (Perms.cornTo 8) → Below w.heap.size w w' → Q (.returned v) w') :
    Calls Tryz.prog 34 #[] w Q := by
  have H := Lib.hid hQ; clear hQ
  go_enter Tryz.func34, Tryz.ntmps34
  go_wp2_with fail
  have o0 : Own3 (w.alloc (.cells #[] 72)) w.heap.size (.slice (some ⟨w.heap.size, 0, none⟩) 0 0) (Perms.cornTo 0) := own3_lit w (Perms.cornTo 0) (by decide)
  have b0 := below_alloc w (.cells #[] 72)
  go_loopg [1, 4] 8 (fun gg u1 u4 wr => ∃ i : Nat, u4 = .int .i64 i ∧ Own3 wr w.heap.size u1 (Perms.cornTo i) ∧ Below w.heap.size w wr ∧ i + gg = 8)
  case atStart => exact ⟨0, rfl, o0, b0, rfl⟩
  case round =>
    obtain ⟨i, rfl, oi, bi, hi⟩ := hrel
    obtain ⟨a1, c1, rfl, _, _⟩ := oi.form
    have hcl := Perms.corn_len i
    by_cases hi8 : i < 8
    · have hiI : (i : Int) < 8 := by omega
      have hst := Lib.hid (Perms.corn_step i)
      have e0 : bits .and .i64 (i : Int) 1 = ((i % 2 : Nat) : Int) := by rw [and1]; omega
      have e1 : bits .and .i64 ((i : Int) / 2) 1 = ((i / 2 % 2 : Nat) : Int) := by rw [and1]; omega
      have e2 : bits .and .i64 ((i : Int) / 4) 1 = ((i / 4 % 2 : Nat) : Int) := by rw [and1]; omega
      have hcl' := Lib.hid hcl
      clear hcl
      go_wp2_with (at_builtin; go_loud (refine app3 (t := (_, _, _)) rfl (.tmp 7) (.tmp 23) rfl rfl (oi.below (below_alloc wr _)) rfl (Arr3.new wr _ _ _) (by rw [hcl'.out]; omega) (by have := bi.size; simp; omega) ?_); intro v3 w3 o3 g3)
      have e3 : Perms.cornTo (i + 1) = Perms.cornTo i ++ [(2 * ((i : Int) % 2) - 1, 2 * ((i : Int) / 2 % 2) - 1, 2 * ((i : Int) / 4 % 2) - 1)] := by
        rw [hst.out]
        simp
      rw [← e3] at o3
      have b3 := (bi.trans ((below_alloc wr _).mono bi.size)).grown g3 (by have := bi.size; simp; omega) (fun b hb => (oi.lt hb).1)
      clear e3 hst
      go_roundg (gk - 1)
      case measure => omega
      case rel => exact ⟨i + 1, by go_num, o3, b3, by omega⟩
    · obtain rfl : i = 8 := by omega
      have h3 := Lib.hid (H.out _ _ oi bi)
      go_wp2_with fail
      exact h3.out
theorem move2_c {a b c : Int} {w : World} {Q : Ending → World → Prop}
    (hQ : ∀ w', Below w.heap.size w w' → Q (.returned (agg3 (b, c, a))) w') :
    Calls Tryz.prog 66 #[agg3 (a, b, c)] w Q := by
  have H := Lib.hid hQ; clear hQ
  unfold agg3 at H ⊢
  go_enter Tryz.func66, Tryz.ntmps66
  go_wp2_with fail
  have b0 := below_alloc w (.cells #[.int .i64 a, .int .i64 b, .int .i64 c] 72)
  have bb := b0.alloc b0.size (.cells #[.int .i64 b, .int .i64 c, .int .i64 a] 72)
  refine bodyPost_ret (v := .agg #[.int .i64 b, .int .i64 c, .int .i64 a]) (by simp [results, Tryz.results66, go_sem]) rfl ?_
  exact H.out _ bb
theorem move3_c {a b c : Int} {w : World} {Q : Ending → World → Prop} (hc : -100 ≤ c ∧ c ≤ 100)
    (hQ : ∀ w', Below w.heap.size w w' → Q (.returned (agg3 (a, b, -c))) w') :
    Calls Tryz.prog 67 #[agg3 (a, b, c)] w Q := by
  have H := Lib.hid hQ; clear hQ
  unfold agg3 at H ⊢
  go_enter Tryz.func67, Tryz.ntmps67
  go_wp2_with fail
  have b0 := below_alloc w (.cells #[.int .i64 a, .int .i64 b, .int .i64 c] 72)
  have bb := b0.alloc b0.size (.cells #[.int .i64 a, .int .i64 b, .int .i64 (-c)] 72)
  refine bodyPost_ret (v := .agg #[.int .i64 a, .int .i64 b, .int .i64 (-c)]) (by simp [results, Tryz.results67, go_sem]) rfl ?_
  exact H.out _ bb
def funcN (N : Nat) : Value := .func (.func N) #[] #[]
def mvNs : List Nat := [65, 66, 67]
theorem cellOf {w : World} {b k : Nat} {cs : Array Value} {T : TypeId} {fr : Nat × Nat} {u : Value} (h : w.heap[b]? = some (.cells cs T fr)) (hu : cs[k]? = some u) : w.cell? ⟨b, k, none⟩ = some u := by
  simp [World.cell?, h, hu]
def mvCells : Array Value := #[funcN 65, funcN 66, funcN 67]
theorem cubeMoves_c {w : World} {Q : Ending → World → Prop} (hQ : ∀ b w', w'.heap[b]? = some (.cells mvCells 55 (0, 0)) → Below w.heap.size w w' → Q (.returned (.slice (some ⟨b, 0, none⟩) 3 3)) w') :
    Calls Tryz.prog 35 #[] w Q := by
  have hn : (w.alloc (.cells mvCells 55)).heap[w.heap.size]? = some (.cells mvCells 55 (0, 0)) := by
    show (Array.push w.heap _)[w.heap.size]? = _
    rw [Array.getElem?_push_size]
  have H := Lib.hid (hQ w.heap.size _ hn (below_alloc w _)); clear hQ hn
  go_enter Tryz.func35, Tryz.ntmps35
  go_wp2_with fail
  exact H.out
theorem moves_at {j : Nat} (hj : j < 3) : ∃ N, mvCells[j]? = some (funcN N) ∧ (∀ args w, (callFunc N args).run Tryz.prog w = .ok (.enter N args) w) ∧ ∃ mv, (Perms.imvs true)[j]? = some mv ∧ ∀ F : List V3, (∀ t ∈ F, -100 ≤ t.2.1 ∧ t.2.1 ≤ 100 ∧ -100 ≤ t.2.2 ∧ t.2.2 ≤ 100) → Moves N mv F := by
  obtain rfl | rfl | rfl : j = 0 ∨ j = 1 ∨ j = 2 := by omega
  · exact ⟨_, rfl, fun args w => enters_of Tryz.func65 (by kernel_rfl) rfl args w, _, rfl, fun F hF x hx w Q h => move1_c ⟨(hF x hx).1, (hF x hx).2.1⟩ h⟩
  · exact ⟨_, rfl, fun args w => enters_of Tryz.func66 (by kernel_rfl) rfl args w, _, rfl, fun F hF x hx w Q h => move2_c h⟩
  · exact ⟨_, rfl, fun args w => enters_of Tryz.func67 (by kernel_rfl) rfl args w, _, rfl, fun F hF x hx w Q h => move3_c (hF x hx).2.2 h⟩
end Go.Proofs.YtdjdagcgodpgdaaGreat
