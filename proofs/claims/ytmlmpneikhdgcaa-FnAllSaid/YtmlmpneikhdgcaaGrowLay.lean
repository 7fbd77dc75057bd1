/-
  'slices.Grow' of integers: the library's contract laid at this program; 'slices.Concat'.
-/
import Derived.Shelf.Spec.SlicesGrow
import Derived.Test.YtmlmpneikhdgcaaMemT
set_option linter.unusedVariables false
namespace Go.Proofs.Ytmlmpneikhdgcaa
open Go.Shelf

def Try.growI_ren : Go.Shelf.Ren := ⟨fun | 4 => 103 | n => n, fun | 22 => 22 | 25 => 3 | 3 => 3 | 4 => 4 | 9 => 9 | 20 => 20 | 0 => 0 | n => n, fun | n => n⟩
theorem Try.growI : Lays8.n4 Try.prog Try.growI_ren := {
  mixed := by kernel_rfl
  f4 := ⟨Try.f103.name, by decide, Try.func103.trans (congrArg some (by kernel_rfl))⟩
  t0 := Try.underlying0
  a0 := Try.isAgg0
  z0 := Try.sizeOf0
  v0 := Try.zeroValue0
  t3 := Try.underlying3
  a3 := Try.isAgg3
  z3 := Try.sizeOf3
  v3 := Try.zeroValue3
  t4 := Try.underlying4
  a4 := Try.isAgg4
  z4 := Try.sizeOf4
  v4 := Try.zeroValue4
  t9 := Try.underlying9
  a9 := Try.isAgg9
  z9 := Try.sizeOf9
  v9 := Try.zeroValue9
  t20 := Try.underlying20
  a20 := Try.isAgg20
  z20 := Try.sizeOf20
  v20 := Try.zeroValue20
  t22 := Try.underlying22
  a22 := Try.isAgg22
  z22 := Try.sizeOf22
  v22 := Try.zeroValue22 }
open Go.RowKit
theorem growI_c {n : Nat} {w : World} {Q : Ending → World → Prop} (hn : 0 < n) (hb : n ≤ 1048576)
    (hQ : ∀ v w', OwnInts w' w.heap.size v [] → Below w.heap.size w w' → Q (.returned v) w') :
    Calls Try.prog 103 #[.slice none 0 0, .int .i64 n] w Q := by
  obtain ⟨i0, hi, hz0, hz1, hz2⟩ := info_parts Try.infoInt
  have h := Any8.slices_Grow_grow Try.growI i0 (.int .i64 0) hi hz0 (by omega) none 0 0 n [] w (Nat.le_refl _) (by omega) (by rw [hz2]; omega) (by omega) (by simp) (fun _ => rfl) (fun a h => by cases h)
  refine h.mono ?_
  rintro e w' ⟨rfl, rfl⟩
  refine hQ _ _ ?_ ?_
  · have hg := grownCap_ge w (0 + n) 0 3
    have hm := grownCap_le_maxLen w (0 + n) 0 3 (by unfold maxLen; omega)
    exact World.ownsRow_made (size := 1) (base := w.heap.size) w.drew _ _ (Nat.le_refl _) hm (by
      have e1 : (Value.int .i64 0).cells.size = 1 := rfl
      have e2 : Try.growI_ren.t 25 = 3 := rfl
      rw [e2]
      simp only [Builtin.zeroCells, Array.size_append, Array.size_map, Array.size_range, e1, List.size_toArray, List.length_nil, Nat.mul_one]
      omega)
  · exact ((Drawn.one w 1).below _).trans (below_alloc w.drew _)
theorem flat_step {l : List (List Int)} {j : Nat} {x : List Int} (h : l[j]? = some x) : (l.take (j + 1)).flatten = (l.take j).flatten ++ x := by
  rw [List.take_add_one, h, List.flatten_append]
  simp
theorem flat_part (l : List (List Int)) (j : Nat) : (l.take j).flatten.length ≤ l.flatten.length := by
  have h : l.flatten = (l.take j).flatten ++ (l.drop j).flatten := by rw [← List.flatten_append, List.take_append_drop]
  rw [h, List.length_append]
  omega
set_option maxHeartbeats 800000 in
theorem concat_c {va : Value} {xss : List (List Int)} {w : World} {Q : Ending → World → Prop} (ha : RowsAt w va xss) (hp : 0 < xss.flatten.length) (hb : xss.flatten.length ≤ 1048576)
    (hQ : ∀ v w', OwnInts w' w.heap.size v xss.flatten → Below w.heap.size w w' → Q (.returned v) w') :
    Calls Try.prog 76 #[va] w Q := by
  have H := Lib.hid hQ; clear hQ
  have ha0 := Lib.hid ha
  obtain ⟨aa, ca, rfl, la, lca, cca⟩ := ha.form
  go_enter Try.func76, Try.ntmps76
  go_wp2_with fail
  go_loopg [3, 11] xss.length (fun g u3 u11 wr => Hid (wr = w) ∧ ∃ j : Nat, u11 = .int .i64 j ∧ u3 = .int .i64 ((xss.take j).flatten.length : Nat) ∧ j + g ≤ xss.length ∧ xss.length ≤ j + g)
  case atStart => exact ⟨Lib.hid rfl, 0, rfl, by simp, by omega, by omega⟩
  case round =>
    obtain ⟨hw, j, rfl, rfl, hk1, hk2⟩ := hrel
    obtain rfl := hw.out
    clear hw
    have hfp := flat_part xss j
    by_cases hj : j < xss.length
    · obtain ⟨b, off, u, x, rfl, hx, hcw, hi⟩ := ha.cell hj
      obtain ⟨au, cu, rfl, _, _, _⟩ := hi.form
      have i1 : (j : Int) < xss.length := by omega
      have hfp1 := flat_part xss (j + 1)
      have hst := flat_step hx.out
      have hst2 : (xss.take (j + 1)).flatten.length = (xss.take j).flatten.length + x.length := by rw [hst, List.length_append]
      clear hst
      have hst3 : ((xss.take j).flatten.length : Int) + x.length = ((xss.take (j + 1)).flatten.length : Nat) := by omega
      obtain ⟨s1, hs1⟩ : ∃ s1, s1 = (xss.take (j + 1)).flatten.length := ⟨_, rfl⟩
      obtain ⟨s0, hs0⟩ : ∃ s0, s0 = (xss.take j).flatten.length := ⟨_, rfl⟩
      rw [← hs1] at hst3 hfp1
      rw [← hs0] at hst3 hfp ⊢
      clear hst2
      have hs1' := Lib.hid hs1
      clear hs1 hs0
      go_wp2_with fail
      go_roundg (gk - 1)
      case measure => omega
      case rel => exact ⟨Lib.hid rfl, j + 1, by go_num, by rw [← hs1'.out], by omega, by omega⟩
    · have hall : (xss.take j).flatten.length = xss.flatten.length := by rw [List.take_of_length_le (by omega)]
      rw [hall]
      obtain ⟨s0, hs0⟩ : ∃ s0, s0 = xss.flatten.length := ⟨_, rfl⟩
      have hbig := Lib.hid hb
      rw [← hs0] at hp hb hfp ⊢
      clear hs0 hall
      go_wp2_with fail
      refine growI_c hp hb ?_
      intro v1 w1 o1 b1
      obtain ⟨a1, c1, rfl, _, _, _⟩ := Own.form o1
      go_wp2_with fail
      go_loopg [6, 27] xss.length (fun g u6 u27 w2 => ∃ j : Nat, u27 = .int .i64 j ∧ OwnInts w2 wr.heap.size u6 (xss.take j).flatten ∧ Below wr.heap.size wr w2 ∧ j + g ≤ xss.length ∧ xss.length ≤ j + g)
      case atStart => exact ⟨0, rfl, by simpa using o1, b1, by omega, by omega⟩
      case round =>
        obtain ⟨i, rfl, oi, bi, hi1, hi2⟩ := hrel
        obtain ⟨a6, c6, rfl, _, _, _⟩ := Own.form oi
        by_cases hi : i < xss.length
        · obtain ⟨b, off, u, x, e9, hx, hcw, hix⟩ := (ha0.out.below bi).cell hi
          obtain ⟨au, cu, rfl, _, _, _⟩ := hix.form
          subst e9
          have i1 : (i : Int) < xss.length := by omega
          have hfp1 := flat_part xss (i + 1)
          have hst := Lib.hid (flat_step hx.out)
          have hlen : (xss.take i).flatten.length + x.length ≤ 1048576 := by
            have := congrArg List.length hst.out
            rw [List.length_append] at this
            have := hbig.out
            omega
          have hix' := Lib.hid hix
          clear hix
          go_wp2_with (at_builtin; refine app_ints rfl (.tmp 31) (.tmp 32) rfl rfl oi rfl hix'.out (by omega) bi.size ?_; intro v10 w10 o10 g10)
          rw [← hst.out] at o10
          go_roundg (gk - 1)
          case measure => omega
          case rel => exact ⟨i + 1, by go_num, o10, bi.grown g10 bi.size (fun b hb => (Own.lt oi hb).1), by omega, by omega⟩
        · rw [List.take_of_length_le (by omega)] at oi ⊢
          have h3 := Lib.hid (H.out _ _ oi bi)
          go_wp2_with fail
          exact h3.out
end Go.Proofs.Ytmlmpneikhdgcaa
