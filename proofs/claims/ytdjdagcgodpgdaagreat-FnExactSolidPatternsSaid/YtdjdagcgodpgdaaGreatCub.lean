/-
  The cube's moves: what a turn does to the faces and to the corners, as the program finds it.
-/
import Derived.Test.YtdjdagcgodpgdaaGreatMovI
import Derived.ChangeKeysEq
set_option linter.unusedVariables false
namespace Go.Proofs.YtdjdagcgodpgdaaGreat
open Go.RowKit

abbrev V3 := Int × Int × Int
def agg3 (t : V3) : Value := .agg #[.int .i64 t.1, .int .i64 t.2.1, .int .i64 t.2.2]
def At3 (w : World) (g : Nat) (F : List V3) : Prop := ∀ (k : Nat) (a b c : Int), F[k]? = some (a, b, c) → w.cell? ⟨g, k * 3, none⟩ = some (.int .i64 a) ∧ w.cell? ⟨g, k * 3 + 1, none⟩ = some (.int .i64 b) ∧ w.cell? ⟨g, k * 3 + 2, none⟩ = some (.int .i64 c)
theorem At3.below {w w' : World} {g : Nat} {F : List V3} (h : At3 w g F) (hb : Below w.heap.size w w') : At3 w' g F := fun k a b c hk =>
  ⟨below_cells hb _ _ (h k a b c hk).1, below_cells hb _ _ (h k a b c hk).2.1, below_cells hb _ _ (h k a b c hk).2.2⟩
theorem At3.cell {w : World} {g : Nat} {F : List V3} (h : At3 w g F) {k : Nat} (hk : k < F.length) : ∃ a b c : Int, Hid (F[k]? = some (a, b, c)) ∧ w.cell? ⟨g, k * 3, none⟩ = some (.int .i64 a) ∧ w.cell? ⟨g, k * 3 + 1, none⟩ = some (.int .i64 b) ∧ w.cell? ⟨g, k * 3 + 2, none⟩ = some (.int .i64 c) :=
  ⟨_, _, _, Lib.hid (List.getElem?_eq_getElem hk), h k _ _ _ (List.getElem?_eq_getElem hk)⟩
def hits (F : List V3) (y : V3) (t : Nat) : List Int := ((List.range t).filter fun (q : Nat) => decide (F[q]? = some y)).map fun (q : Nat) => (q : Int)
def permTo (F : List V3) (mv : V3 → V3) (j : Nat) : List Int := (F.take j).flatMap fun x => hits F (mv x) F.length
theorem hits_step {F : List V3} {y z : V3} {t : Nat} (hz : F[t]? = some z) : hits F y (t + 1) = if z = y then hits F y t ++ [(t : Int)] else hits F y t := by
  unfold hits
  rw [List.range_succ, List.filter_append]
  by_cases h : z = y
  · simp [h, hz]
  · simp [h, hz]
theorem hits_len (F : List V3) (y : V3) (t : Nat) : (hits F y t).length ≤ t := by
  unfold hits
  rw [List.length_map]
  have := List.length_filter_le (fun (q : Nat) => decide (F[q]? = some y)) (List.range t)
  rw [List.length_range] at this
  exact this
theorem permTo_step {F : List V3} {mv : V3 → V3} {j : Nat} {x : V3} (hx : F[j]? = some x) : permTo F mv (j + 1) = permTo F mv j ++ hits F (mv x) F.length := by
  unfold permTo
  rw [List.take_add_one, hx, List.flatMap_append]
  simp
theorem permTo_len (F : List V3) (mv : V3 → V3) : ∀ j : Nat, j ≤ F.length → (permTo F mv j).length ≤ F.length * j
  | 0, _ => by simp [permTo]
  | j + 1, h => by
    have ih := permTo_len F mv j (by omega)
    rw [permTo_step (List.getElem?_eq_getElem (show j < F.length by omega)), List.length_append]
    have := hits_len F (mv (F[j]'(by omega))) F.length
    rw [Nat.mul_add]
    omega
theorem run_equalIn_ints {P : Program} (w : World) (d : Nat) {t : TypeId} (x y : Int) (h : P.underlying t = some (.int .i64)) : (Op.equalIn (d + 1) t (.int .i64 x) (.int .i64 y)).run P w = .ok (decide (x = y)) w := by
  simp [Op.equalIn, run_underlying h]
  rfl
theorem eq3 (a b c a' b' c' : Int) (w : World) : (Op.equal 72 (.agg #[.int .i64 a, .int .i64 b, .int .i64 c]) (.agg #[.int .i64 a', .int .i64 b', .int .i64 c'])).run Tryz.prog w = .ok (decide (a = a' ∧ b = b' ∧ c = c')) w := by
  obtain ⟨i0, hi, hz0, hz1, hz2⟩ := info_parts Tryz.infoInt
  show (Op.equalIn (9999 + 1) 72 _ _).run _ _ = _
  rw [Go.run_equalIn_array w 9999 (e := 3) (n := 3) _ _ Tryz.underlying72 hi]
  have hc : Tryz.prog.cellsOf 3 = 1 := by simp [Program.cellsOf, hi, hz1]
  rw [hc]
  have hp : ∀ (xs : Array Value) (k : Nat) (y : Value) (w : World), xs[k]? = some y → (part 3 xs k).run Tryz.prog w = .ok y w := by
    intro xs k y w hk
    exact run_part_plain w (by simp [Program.plainKey, Tryz.underlying3]) hk
  have he : ∀ (x y : Int) (w : World), (Op.equalIn 9999 3 (.int .i64 x) (.int .i64 y)).run Tryz.prog w = .ok (decide (x = y)) w := by
    intro x y w
    exact run_equalIn_ints w 9998 x y Tryz.underlying3
  have hp0 : ∀ (x y z : Value) (w : World), (part 3 #[x, y, z] (0 * 1)).run Tryz.prog w = .ok x w := fun x y z w => hp _ _ _ _ rfl
  have hp1 : ∀ (x y z : Value) (w : World), (part 3 #[x, y, z] (1 * 1)).run Tryz.prog w = .ok y w := fun x y z w => hp _ _ _ _ rfl
  have hp2 : ∀ (x y z : Value) (w : World), (part 3 #[x, y, z] (2 * 1)).run Tryz.prog w = .ok z w := fun x y z w => hp _ _ _ _ rfl
  show (Op.eqItems 9999 3 1 _ _ [0, 1, 2]).run _ _ = _
  simp only [Op.eqItems, Sem.run_bind, hp0, Result.andThen_ok, he]
  by_cases h0 : a = a'
  · simp only [h0, decide_true, Bool.not_true, Bool.false_eq_true, if_false, Sem.run_bind, hp1, Result.andThen_ok, he]
    by_cases h1 : b = b'
    · simp only [h1, decide_true, Bool.not_true, Bool.false_eq_true, if_false, Sem.run_bind, hp2, Result.andThen_ok, he]
      by_cases h2 : c = c'
      · simp [h2]
      · simp [h2]
    · simp [h1]
  · simp [h0]
theorem binop3 (a b c a' b' c' : Int) (w : World) : (binOp .eql 72 (.agg #[.int .i64 a, .int .i64 b, .int .i64 c]) (.agg #[.int .i64 a', .int .i64 b', .int .i64 c'])).run Tryz.prog w = .ok (.bool (decide (a = a' ∧ b = b' ∧ c = c'))) w := by
  simp only [binOp, Sem.run_bind, eq3, Result.andThen_ok]
  rfl
theorem guard3 : Tryz.prog.eqGuardType Tryz.prog.depth 72 = false := by kernel_rfl
def Arr3 (w : World) (b : Nat) (x y z : Int) : Prop := w.heap[b]? = some (.cells #[.int .i64 x, .int .i64 y, .int .i64 z] 72 (0, 0))
theorem Arr3.cells {w : World} {b : Nat} {x y z : Int} (h : Arr3 w b x y z) : w.cell? ⟨b, 0, none⟩ = some (.int .i64 x) ∧ w.cell? ⟨b, 1, none⟩ = some (.int .i64 y) ∧ w.cell? ⟨b, 2, none⟩ = some (.int .i64 z) := by
  unfold Arr3 at h
  simp [World.cell?, h]
theorem Arr3.new (w : World) (x y z : Int) : Arr3 (w.alloc (.cells #[.int .i64 x, .int .i64 y, .int .i64 z] 72)) w.heap.size x y z := by
  unfold Arr3
  show (Array.push w.heap _)[w.heap.size]? = _
  rw [Array.getElem?_push_size]
theorem Arr3.lt {w : World} {b : Nat} {x y z : Int} (h : Arr3 w b x y z) : b < w.heap.size := (Array.getElem?_eq_some_iff.1 h).1
theorem Arr3.below {w w' : World} {b : Nat} {x y z : Int} (h : Arr3 w b x y z) (hb : Below w.heap.size w w') : Arr3 w' b x y z := by
  unfold Arr3
  rw [hb.block b h.lt]
  exact h
theorem Arr3.apart {w : World} {b B : Nat} {x y z : Int} (h : Arr3 w b x y z) {v : Value} {xs : List Int} (ho : OwnInts w B v xs) : v.ownBlock ≠ some b := by
  intro e
  obtain ⟨cur, hc⟩ := Own.block ho e
  unfold Arr3 at h
  rw [h] at hc
  simp only [Option.some.injEq, Obj.cells.injEq] at hc
  exact absurd hc.2.1 (by decide)
theorem Arr3.grown {w w' : World} {b : Nat} {x y z : Int} (h : Arr3 w b x y z) {row : Option Nat} (hg : w.grownBy w' row) (hr : row ≠ some b) : Arr3 w' b x y z := by
  unfold Arr3
  rw [hg.block b h.lt (fun e => hr e.symm)]
  exact h
def Moves (N : Nat) (mv : V3 → V3) (F : List V3) : Prop := ∀ x ∈ F, ∀ (w : World) (Q : Ending → World → Prop), (∀ w', Below w.heap.size w w' → Q (.returned (agg3 (mv x))) w') → Calls Tryz.prog N #[agg3 x] w Q
theorem move1_c {a b c : Int} {w : World} {Q : Ending → World → Prop} (hb : -100 ≤ b ∧ b ≤ 100)
    (hQ : ∀ w', Below w.heap.size w w' → Q (.returned (agg3 (-b, a, c))) w') :
    Calls Tryz.prog 65 #[agg3 (a, b, c)] w Q := by
  have H := Lib.hid hQ; clear hQ
  unfold agg3 at H ⊢
  go_enter Tryz.func65, Tryz.ntmps65
  go_wp2_with fail
  have b0 := below_alloc w (.cells #[.int .i64 a, .int .i64 b, .int .i64 c] 72)
  have bb := b0.alloc b0.size (.cells #[.int .i64 (-b), .int .i64 a, .int .i64 c] 72)
  refine bodyPost_ret (v := .agg #[.int .i64 (-b), .int .i64 a, .int .i64 c]) (by simp [results, Tryz.results65, go_sem]) rfl ?_
  exact H.out _ bb
set_option maxHeartbeats 3200000 in
theorem permuted_c {g cap N : Nat} {F : List V3} {mv : V3 → V3} {w : World} {Q : Ending → World → Prop} (hF : At3 w g F) (hl1 : 1 ≤ F.length) (hl : F.length ≤ 8) (hcap : F.length ≤ cap) (hcap2 : (cap : Int) ≤ 9223372036854775807)
    (eg : ∀ args w, (callFunc N args).run Tryz.prog w = .ok (.enter N args) w) (hM : Moves N mv F) (hQ : ∀ v w', OwnInts w' w.heap.size v (permTo F mv F.length) → Below w.heap.size w w' → Q (.returned v) w') :
    Calls Tryz.prog 36 #[.slice (some ⟨g, 0, none⟩) F.length cap, .func (.func N) #[] #[]] w Q := by
  have H := Lib.hid hQ; clear hQ
  have hF0 := Lib.hid hF
  have hM0 := Lib.hid hM
  clear hF hM
  go_enter Tryz.func36, Tryz.ntmps36
  go_wp2_with fail
  have o0 := own_empty w
  have b0 := below_alloc w (.cells #[] 3)
  have o0' : OwnInts (w.alloc (.cells #[] 3)) w.heap.size (.slice (some ⟨w.heap.size, 0, none⟩) 0 0) (permTo F mv 0) := o0
  go_loopg [5, 14] F.length (fun gg u5 u14 wr => ∃ (j : Nat), u14 = .int .i64 j ∧ OwnInts wr w.heap.size u5 (permTo F mv j) ∧ Below w.heap.size w wr ∧ j + gg ≤ F.length ∧ F.length ≤ j + gg)
  case atStart => exact ⟨0, rfl, o0', b0, by omega, by omega⟩
  case round =>
    obtain ⟨j, rfl, oj, bj, hj1, hj2⟩ := hrel
    obtain ⟨gk1, hgk1⟩ : ∃ g, g = gk := ⟨_, rfl⟩
    obtain ⟨a5, c5, rfl, _, _, _⟩ := Own.form oj
    have hpl := permTo_len F mv j (by omega)
    have hpl64 : (permTo F mv j).length ≤ 64 := Nat.le_trans hpl (Nat.le_trans (Nat.mul_le_mul hl (show j ≤ 8 by omega)) (Nat.le_refl _))
    by_cases hj : j < F.length
    · have hjI : (j : Int) < F.length := by omega
      obtain ⟨a, b, c, hx, hc0, hc1, hc2⟩ := (hF0.out.below bj).cell hj
      have hst := Lib.hid (permTo_step (mv := mv) hx.out)
      go_wp2_with fail
      refine hM0.out (a, b, c) (List.mem_of_getElem? hx.out) _ _ ?_
      intro w1 b1
      have ba := below_alloc wr (.cells #[.int .i64 a, .int .i64 b, .int .i64 c] 72)
      have bj1 := (bj.trans (ba.mono bj.size)).trans (b1.mono (bj.trans (ba.mono bj.size)).size)
      have oj1 := OwnInts.below (OwnInts.below oj ba) b1
      have oj1' := Lib.hid oj1
      clear oj1 oj
      obtain ⟨⟨y0, y1, y2⟩, hy⟩ : ∃ y, y = mv (a, b, c) := ⟨_, rfl⟩
      rw [← hy] at hst ⊢
      clear hy hc0 hc1 hc2
      unfold agg3
      go_wp2_with fail
      have a8 := Lib.hid (Arr3.new w1 y0 y1 y2)
      have ba1 := below_alloc w1 (.cells #[.int .i64 y0, .int .i64 y1, .int .i64 y2] 72)
      have bj2 := bj1.trans (ba1.mono bj1.size)
      have oj2 : OwnInts (w1.alloc (.cells #[.int .i64 y0, .int .i64 y1, .int .i64 y2] 72)) w.heap.size (.slice a5 (ints (permTo F mv j)).length c5) (permTo F mv j ++ hits F (y0, y1, y2) 0) := by
        have e : permTo F mv j ++ hits F (y0, y1, y2) 0 = permTo F mv j := by simp [hits]
        rw [e]
        exact OwnInts.below oj1'.out ba1
      go_loopg [5, 23] F.length (fun gg u5 u23 w2 => ∃ (t : Nat), u23 = .int .i64 t ∧ OwnInts w2 w.heap.size u5 (permTo F mv j ++ hits F (y0, y1, y2) t) ∧ Below w.heap.size w w2 ∧ Hid (Arr3 w2 w1.heap.size y0 y1 y2) ∧ t + gg ≤ F.length ∧ F.length ≤ t + gg)
      case atStart => exact ⟨0, rfl, oj2, bj2, a8, by omega, by omega⟩
      case round =>
        obtain ⟨t, rfl, oi, bi, ai, ht1, ht2⟩ := hrel
        obtain ⟨a5, c5, rfl, _, _, _⟩ := Own.form oi
        have hhl := hits_len F (y0, y1, y2) t
        have hJ : (permTo F mv j ++ hits F (y0, y1, y2) t).length ≤ 100 := by rw [List.length_append]; omega
        by_cases ht : t < F.length
        · have htI : (t : Int) < F.length := by omega
          obtain ⟨a', b', c', hz, hd0, hd1, hd2⟩ := (hF0.out.below bi).cell ht
          have hst2 := hits_step (y := (y0, y1, y2)) hz.out
          have bai := below_alloc wr (.cells #[.int .i64 a', .int .i64 b', .int .i64 c'] 72)
          have ai2 := ai.out.below bai
          obtain ⟨he0, he1, he2⟩ := ai2.cells
          have ai2' := Lib.hid ai2
          clear ai2
          have oi2 := Lib.hid (OwnInts.below oi bai)
          have bi2 := bi.trans (bai.mono bi.size)
          by_cases hyz : (a', b', c') = (y0, y1, y2)
          · have hq : ∀ w, (binOp .eql 72 (.agg #[.int .i64 a', .int .i64 b', .int .i64 c']) (.agg #[.int .i64 y0, .int .i64 y1, .int .i64 y2])).run Tryz.prog w = .ok (.bool true) w := fun w => by
              rw [binop3, decide_eq_true (by simpa using hyz)]
            rw [if_pos hyz] at hst2
            have hst3 : Hid (permTo F mv j ++ hits F (y0, y1, y2) (t + 1) = (permTo F mv j ++ hits F (y0, y1, y2) t) ++ [(t : Int)]) := Lib.hid (by rw [hst2, List.append_assoc])
            clear hst2 hyz
            have hcn : Hid (((wr.alloc (.cells #[.int .i64 a', .int .i64 b', .int .i64 c'] 72)).alloc (.cells #[.int .i64 (t : Int)] 3)).cell? ⟨wr.heap.size + 1, 0, none⟩ = some (.int .i64 (t : Int))) := Lib.hid (by
              have h := cell_new (wr.alloc (.cells #[.int .i64 a', .int .i64 b', .int .i64 c'] 72)) (.int .i64 (t : Int)) 3
              have e : (wr.alloc (.cells #[.int .i64 a', .int .i64 b', .int .i64 c'] 72)).heap.size = wr.heap.size + 1 := by simp
              rw [e] at h
              exact h)
            go_wp2_with (at_builtin; go_loud (refine app_int rfl (.tmp 31) (.tmp 33) rfl rfl (OwnInts.below oi2.out (below_alloc _ _)) rfl hcn.out (by omega) (by have := bi2.size; simp at this ⊢; omega) ?_); intro v5 w5 o5 g5)
            rw [← hst3.out] at o5
            have bb := below_alloc (wr.alloc (.cells #[.int .i64 a', .int .i64 b', .int .i64 c'] 72)) (.cells #[.int .i64 (t : Int)] 3)
            have bi5 := (bi2.trans (bb.mono bi2.size)).grown g5 (by have := bi2.size; simp at this ⊢; omega) (fun b hb => (Own.lt oi hb).1)
            have ai5 := Lib.hid ((ai2'.out.below bb).grown g5 (ai.out.apart oi))
            go_roundg (gk - 1)
            case measure => omega
            case rel => exact ⟨t + 1, by go_num, o5, bi5, ai5, by omega, by omega⟩
          · have hq : ∀ w, (binOp .eql 72 (.agg #[.int .i64 a', .int .i64 b', .int .i64 c']) (.agg #[.int .i64 y0, .int .i64 y1, .int .i64 y2])).run Tryz.prog w = .ok (.bool false) w := fun w => by
              rw [binop3, decide_eq_false (by simpa using hyz)]
            rw [if_neg hyz] at hst2
            have o5 : Hid (OwnInts (wr.alloc (.cells #[.int .i64 a', .int .i64 b', .int .i64 c'] 72)) w.heap.size (.slice a5 (ints (permTo F mv j ++ hits F (y0, y1, y2) t)).length c5) (permTo F mv j ++ hits F (y0, y1, y2) (t + 1))) := Lib.hid (by rw [hst2]; exact oi2.out)
            clear hst2 hyz
            go_wp2_with fail
            go_roundg (gk - 1)
            case measure => omega
            case rel => exact ⟨t + 1, by go_num, o5.out, bi2, ai2', by omega, by omega⟩
        · have hte : t = F.length := by omega
          have oj5 : Hid (OwnInts wr w.heap.size (.slice a5 (ints (permTo F mv j ++ hits F (y0, y1, y2) t)).length c5) (permTo F mv (j + 1))) := Lib.hid (by rw [hst.out, ← hte]; exact oi)
          go_wp2_with fail
          go_roundg (gk1 - 1)
          case measure => omega
          case rel => exact ⟨j + 1, by go_num, oj5.out, bi, by omega, by omega⟩
    · have hje : j = F.length := by omega
      have h2 : OwnInts wr w.heap.size (.slice a5 (ints (permTo F mv j)).length c5) (permTo F mv F.length) := by rw [← hje]; exact oj
      have h3 := Lib.hid (H.out _ wr h2 bj)
      clear h2
      go_wp2_with fail
      exact h3.out
end Go.Proofs.YtdjdagcgodpgdaaGreat
