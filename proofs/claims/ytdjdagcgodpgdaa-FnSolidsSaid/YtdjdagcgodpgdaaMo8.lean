/-
  Part 8 of 8 of what the law FnSolids rests on.
-/
import Derived.Test.YtdjdagcgodpgdaaMo7
import Derived.ChangeKeysEq
set_option maxRecDepth 20000
/- The cube's moves: what a turn does to the faces and to the corners, as the program finds it. -/
set_option linter.unusedVariables false
namespace Go.Proofs.Ytdjdagcgodpgdaa
open Go.RowKit

abbrev V3 := Int × Int × Int
def agg3 (t : V3) : Value := .agg #[.int .i64 t.1, .int .i64 t.2.1, .int .i64 t.2.2]
def At3 (w : World) (g : Nat) (F : List V3) : Prop := ∀ (k : Nat) (a b c : Int), F[k]? = some (a, b, c) → w.cell? ⟨g, k * 3, none⟩ = some (.int .i64 a) ∧ w.cell? ⟨g, k * 3 + 1, none⟩ = some (.int .i64 b) ∧ w.cell? ⟨g, k * 3 + 2, none⟩ = some (.int .i64 c)
theorem At3.below {w w' : World} {g : Nat} {F : List V3} (h : At3 w g F) (hb : Below w.heap.size w w') : At3 w' g F := fun k a b c hk =>
  ⟨below_cells hb _ _ (h k a b c hk).1, below_cells hb _ _ (h k a b c hk).2.1, below_cells hb _ _ (h k a b c hk).2.2⟩
theorem At3.cell {w : World} {g : Nat} {F : List V3} (h : At3 w g F) {k : Nat} (hk : k < F.length) : ∃ a b c : Int, Hid (F[k]? = some (a, b, c)) ∧ w.cell? ⟨g, k * 3, none⟩ = some (.int .i64 a) ∧ w.cell? ⟨g, k * 3 + 1, none⟩ = some (.int .i64 b) ∧ w.cell? ⟨g, k * 3 + 2, none⟩ = some (.int .i64 c) :=
  ⟨_, _, _, Lib.hid (List.getElem?_eq_getElem hk), h k _ _ _ (List.getElem?_eq_getElem hk)⟩
def hits (F : List V3) (y : V3) (t : Nat) : List Int := ((List.range t).filter fun (q : Nat) => decide (F[q]? = some y)).map fun (q : Nat) => (q : Int)
def permTo (F : List V3) (mv : V3 → V3) (j : Nat) : List Int := (F.take j).flatMap fun x => hits F (mv x) F.length
theorem hits_step {F : List V3} {y z : V3} {t : Nat} (hz : F[t]? = some z) : hits F y (t + 1) = if z = y then hits F y t ++ [(t : Int)] else hits F y t := by
  unfold hits
  rw [List.range_succ, List.filter_append]
  by_cases h : z = y
  · simp [h, hz]
  · simp [h, hz]
theorem hits_len (F : List V3) (y : V3) (t : Nat) : (hits F y t).length ≤ t := by
  unfold hits
  rw [List.length_map]
  have := List.length_filter_le (fun (q : Nat) => decide (F[q]? = some y)) (List.range t)
  rw [List.length_range] at this
  exact this
theorem permTo_step {F : List V3} {mv : V3 → V3} {j : Nat} {x : V3} (hx : F[j]? = some x) : permTo F mv (j + 1) = permTo F mv j ++ hits F (mv x) F.length := by
  unfold permTo
  rw [List.take_add_one, hx, List.flatMap_append]
  simp
theorem permTo_len (F : List V3) (mv : V3 → V3) : ∀ j : Nat, j ≤ F.length → (permTo F mv j).length ≤ F.length * j
  | 0, _ => by simp [permTo]
  | j + 1, h => by
    have ih := permTo_len F mv j (by omega)
    rw [permTo_step (List.getElem?_eq_getElem (show j < F.length by omega)), List.length_append]
    have := hits_len F (mv (F[j]'(by omega))) F.length
    rw [Nat.mul_add]
    omega
theorem run_equalIn_ints {P : Program} (w : World) (d : Nat) {t : TypeId} (x y : Int) (h : P.underlying t = some (.int .i64)) : (Op.equalIn (d + 1) t (.int .i64 x) (.int .i64 y)).run P w = .ok (decide (x = y)) w := by
  simp [Op.equalIn, run_underlying h]
  rfl
theorem eq3 (a b c a' b' c' : Int) (w : World) : (Op.equal 75 (.agg #[.int .i64 a, .int .i64 b, .int .i64 c]) (.agg #[.int .i64 a', .int .i64 b', .int .i64 c'])).run Try.prog w = .ok (decide (a = a' ∧ b = b' ∧ c = c')) w := by
  obtain ⟨i0, hi, hz0, hz1, hz2⟩ := info_parts Try.infoInt
  show (Op.equalIn (9999 + 1) 75 _ _).run _ _ = _
  rw [Go.run_equalIn_array w 9999 (e := 3) (n := 3) _ _ Try.underlying75 hi]
  have hc : Try.prog.cellsOf 3 = 1 := by simp [Program.cellsOf, hi, hz1]
  rw [hc]
  have hp : ∀ (xs : Array Value) (k : Nat) (y : Value) (w : World), xs[k]? = some y → (part 3 xs k).run Try.prog w = .ok y w := by
    intro xs k y w hk
    exact run_part_plain w (by simp [Program.plainKey, Try.underlying3]) hk
  have he : ∀ (x y : Int) (w : World), (Op.equalIn 9999 3 (.int .i64 x) (.int .i64 y)).run Try.prog w = .ok (decide (x = y)) w := by
    intro x y w
    exact run_equalIn_ints w 9998 x y Try.underlying3
  have hp0 : ∀ (x y z : Value) (w : World), (part 3 #[x, y, z] (0 * 1)).run Try.prog w = .ok x w := fun x y z w => hp _ _ _ _ rfl
  have hp1 : ∀ (x y z : Value) (w : World), (part 3 #[x, y, z] (1 * 1)).run Try.prog w = .ok y w := fun x y z w => hp _ _ _ _ rfl
  have hp2 : ∀ (x y z : Value) (w : World), (part 3 #[x, y, z] (2 * 1)).run Try.prog w = .ok z w := fun x y z w => hp _ _ _ _ rfl
  show (Op.eqItems 9999 3 1 _ _ [0, 1, 2]).run _ _ = _
  simp only [Op.eqItems, Sem.run_bind, hp0, Result.andThen_ok, he]
  by_cases h0 : a = a'
  · simp only [h0, decide_true, Bool.not_true, Bool.false_eq_true, if_false, Sem.run_bind, hp1, Result.andThen_ok, he]
    by_cases h1 : b = b'
    · simp only [h1, decide_true, Bool.not_true, Bool.false_eq_true, if_false, Sem.run_bind, hp2, Result.andThen_ok, he]
      by_cases h2 : c = c'
      · simp [h2]
      · simp [h2]
    · simp [h1]
  · simp [h0]
theorem binop3 (a b c a' b' c' : Int) (w : World) : (binOp .eql 75 (.agg #[.int .i64 a, .int .i64 b, .int .i64 c]) (.agg #[.int .i64 a', .int .i64 b', .int .i64 c'])).run Try.prog w = .ok (.bool (decide (a = a' ∧ b = b' ∧ c = c'))) w := by
  simp only [binOp, Sem.run_bind, eq3, Result.andThen_ok]
  rfl
theorem guard3 : Try.prog.eqGuardType Try.prog.depth 75 = false := by kernel_rfl
def Arr3 (w : World) (b : Nat) (x y z : Int) : Prop := w.heap[b]? = some (.cells #[.int .i64 x, .int .i64 y, .int .i64 z] 75 (0, 0))
theorem Arr3.cells {w : World} {b : Nat} {x y z : Int} (h : Arr3 w b x y z) : w.cell? ⟨b, 0, none⟩ = some (.int .i64 x) ∧ w.cell? ⟨b, 1, none⟩ = some (.int .i64 y) ∧ w.cell? ⟨b, 2, none⟩ = some (.int .i64 z) := by
  unfold Arr3 at h
  simp [World.cell?, h]
theorem Arr3.new (w : World) (x y z : Int) : Arr3 (w.alloc (.cells #[.int .i64 x, .int .i64 y, .int .i64 z] 75)) w.heap.size x y z := by
  unfold Arr3
  show (Array.push w.heap _)[w.heap.size]? = _
  rw [Array.getElem?_push_size]
theorem Arr3.lt {w : World} {b : Nat} {x y z : Int} (h : Arr3 w b x y z) : b < w.heap.size := (Array.getElem?_eq_some_iff.1 h).1
theorem Arr3.below {w w' : World} {b : Nat} {x y z : Int} (h : Arr3 w b x y z) (hb : Below w.heap.size w w') : Arr3 w' b x y z := by
  unfold Arr3
  rw [hb.block b h.lt]
  exact h
theorem Arr3.apart {w : World} {b B : Nat} {x y z : Int} (h : Arr3 w b x y z) {v : Value} {xs : List Int} (ho : OwnInts w B v xs) : v.ownBlock ≠ some b := by
  intro e
  obtain ⟨cur, hc⟩ := Own.block ho e
  unfold Arr3 at h
  rw [h] at hc
  simp only [Option.some.injEq, Obj.cells.injEq] at hc
  exact absurd hc.2.1 (by decide)
theorem Arr3.grown {w w' : World} {b : Nat} {x y z : Int} (h : Arr3 w b x y z) {row : Option Nat} (hg : w.grownBy w' row) (hr : row ≠ some b) : Arr3 w' b x y z := by
  unfold Arr3
  rw [hg.block b h.lt (fun e => hr e.symm)]
  exact h
def Moves (N : Nat) (mv : V3 → V3) (F : List V3) : Prop := ∀ x ∈ F, ∀ (w : World) (Q : Ending → World → Prop), (∀ w', Below w.heap.size w w' → Q (.returned (agg3 (mv x))) w') → Calls Try.prog N #[agg3 x] w Q
theorem move1_c {a b c : Int} {w : World} {Q : Ending → World → Prop} (hb : -100 ≤ b ∧ b ≤ 100)
    (hQ : ∀ w', Below w.heap.size w w' → Q (.returned (agg3 (-b, a, c))) w') :
    Calls Try.prog 59 #[agg3 (a, b, c)] w Q := by
  have H := Lib.hid hQ; clear hQ
  unfold agg3 at H ⊢
  go_enter Try.func59, Try.ntmps59
  go_wp2_with fail
  have b0 := below_alloc w (.cells #[.int .i64 a, .int .i64 b, .int .i64 c] 75)
  have bb := b0.alloc b0.size (.cells #[.int .i64 (-b), .int .i64 a, .int .i64 c] 75)
  refine bodyPost_ret (v := .agg #[.int .i64 (-b), .int .i64 a, .int .i64 c]) (by simp [results, Try.results59, go_sem]) rfl ?_
  exact H.out _ bb
set_option maxHeartbeats 3200000 in
theorem permuted_c {g cap N : Nat} {F : List V3} {mv : V3 → V3} {w : World} {Q : Ending → World → Prop} (hF : At3 w g F) (hl1 : 1 ≤ F.length) (hl : F.length ≤ 8) (hcap : F.length ≤ cap) (hcap2 : (cap : Int) ≤ 9223372036854775807)
    (eg : ∀ args w, (callFunc N args).run Try.prog w = .ok (.enter N args) w) (hM : Moves N mv F) (hQ : ∀ v w', OwnInts w' w.heap.size v (permTo F mv F.length) → Below w.heap.size w w' → Q (.returned v) w') :
    Calls Try.prog 34 #[.slice (some ⟨g, 0, none⟩) F.length cap, .func (.func N) #[] #[]] w Q := by
  have H := Lib.hid hQ; clear hQ
  have hF0 := Lib.hid hF
  have hM0 := Lib.hid hM
  clear hF hM
  go_enter Try.func34, Try.ntmps34
  go_wp2_with fail
  have o0 := own_empty w
  have b0 := below_alloc w (.cells #[] 3)
  have o0' : OwnInts (w.alloc (.cells #[] 3)) w.heap.size (.slice (some ⟨w.heap.size, 0, none⟩) 0 0) (permTo F mv 0) := o0
  go_loopg [5, 14] F.length (fun gg u5 u14 wr => ∃ (j : Nat), u14 = .int .i64 j ∧ OwnInts wr w.heap.size u5 (permTo F mv j) ∧ Below w.heap.size w wr ∧ j + gg ≤ F.length ∧ F.length ≤ j + gg)
  case atStart => exact ⟨0, rfl, o0', b0, by omega, by omega⟩
  case round =>
    obtain ⟨j, rfl, oj, bj, hj1, hj2⟩ := hrel
    obtain ⟨gk1, hgk1⟩ : ∃ g, g = gk := ⟨_, rfl⟩
    obtain ⟨a5, c5, rfl, _, _, _⟩ := Own.form oj
    have hpl := permTo_len F mv j (by omega)
    have hpl64 : (permTo F mv j).length ≤ 64 := Nat.le_trans hpl (Nat.le_trans (Nat.mul_le_mul hl (show j ≤ 8 by omega)) (Nat.le_refl _))
    by_cases hj : j < F.length
    · have hjI : (j : Int) < F.length := by omega
      obtain ⟨a, b, c, hx, hc0, hc1, hc2⟩ := (hF0.out.below bj).cell hj
      have hst := Lib.hid (permTo_step (mv := mv) hx.out)
      go_wp2_with fail
      refine hM0.out (a, b, c) (List.mem_of_getElem? hx.out) _ _ ?_
      intro w1 b1
      have ba := below_alloc wr (.cells #[.int .i64 a, .int .i64 b, .int .i64 c] 75)
      have bj1 := (bj.trans (ba.mono bj.size)).trans (b1.mono (bj.trans (ba.mono bj.size)).size)
      have oj1 := OwnInts.below (OwnInts.below oj ba) b1
      have oj1' := Lib.hid oj1
      clear oj1 oj
      obtain ⟨⟨y0, y1, y2⟩, hy⟩ : ∃ y, y = mv (a, b, c) := ⟨_, rfl⟩
      rw [← hy] at hst ⊢
      clear hy hc0 hc1 hc2
      unfold agg3
      go_wp2_with fail
      have a8 := Lib.hid (Arr3.new w1 y0 y1 y2)
      have ba1 := below_alloc w1 (.cells #[.int .i64 y0, .int .i64 y1, .int .i64 y2] 75)
      have bj2 := bj1.trans (ba1.mono bj1.size)
      have oj2 : OwnInts (w1.alloc (.cells #[.int .i64 y0, .int .i64 y1, .int .i64 y2] 75)) w.heap.size (.slice a5 (ints (permTo F mv j)).length c5) (permTo F mv j ++ hits F (y0, y1, y2) 0) := by
        have e : permTo F mv j ++ hits F (y0, y1, y2) 0 = permTo F mv j := by simp [hits]
        rw [e]
        exact OwnInts.below oj1'.out ba1
      go_loopg [5, 23] F.length (fun gg u5 u23 w2 => ∃ (t : Nat), u23 = .int .i64 t ∧ OwnInts w2 w.heap.size u5 (permTo F mv j ++ hits F (y0, y1, y2) t) ∧ Below w.heap.size w w2 ∧ Hid (Arr3 w2 w1.heap.size y0 y1 y2) ∧ t + gg ≤ F.length ∧ F.length ≤ t + gg)
      case atStart => exact ⟨0, rfl, oj2, bj2, a8, by omega, by omega⟩
      case round =>
        obtain ⟨t, rfl, oi, bi, ai, ht1, ht2⟩ := hrel
        obtain ⟨a5, c5, rfl, _, _, _⟩ := Own.form oi
        have hhl := hits_len F (y0, y1, y2) t
        have hJ : (permTo F mv j ++ hits F (y0, y1, y2) t).length ≤ 100 := by rw [List.length_append]; omega
        by_cases ht : t < F.length
        · have htI : (t : Int) < F.length := by omega
          obtain ⟨a', b', c', hz, hd0, hd1, hd2⟩ := (hF0.out.below bi).cell ht
          have hst2 := hits_step (y := (y0, y1, y2)) hz.out
          have bai := below_alloc wr (.cells #[.int .i64 a', .int .i64 b', .int .i64 c'] 75)
          have ai2 := ai.out.below bai
          obtain ⟨he0, he1, he2⟩ := ai2.cells
          have ai2' := Lib.hid ai2
          clear ai2
          have oi2 := Lib.hid (OwnInts.below oi bai)
          have bi2 := bi.trans (bai.mono bi.size)
          by_cases hyz : (a', b', c') = (y0, y1, y2)
          · have hq : ∀ w, (binOp .eql 75 (.agg #[.int .i64 a', .int .i64 b', .int .i64 c']) (.agg #[.int .i64 y0, .int .i64 y1, .int .i64 y2])).run Try.prog w = .ok (.bool true) w := fun w => by
              rw [binop3, decide_eq_true (by simpa using hyz)]
            rw [if_pos hyz] at hst2
            have hst3 : Hid (permTo F mv j ++ hits F (y0, y1, y2) (t + 1) = (permTo F mv j ++ hits F (y0, y1, y2) t) ++ [(t : Int)]) := Lib.hid (by rw [hst2, List.append_assoc])
            clear hst2 hyz
            have hcn : Hid (((wr.alloc (.cells #[.int .i64 a', .int .i64 b', .int .i64 c'] 75)).alloc (.cells #[.int .i64 (t : Int)] 3)).cell? ⟨wr.heap.size + 1, 0, none⟩ = some (.int .i64 (t : Int))) := Lib.hid (by
              have h := cell_new (wr.alloc (.cells #[.int .i64 a', .int .i64 b', .int .i64 c'] 75)) (.int .i64 (t : Int)) 3
              have e : (wr.alloc (.cells #[.int .i64 a', .int .i64 b', .int .i64 c'] 75)).heap.size = wr.heap.size + 1 := by simp
              rw [e] at h
              exact h)
            go_wp2_with (at_builtin; go_loud (refine app_int rfl (.tmp 31) (.tmp 33) rfl rfl (OwnInts.below oi2.out (below_alloc _ _)) rfl hcn.out (by omega) (by have := bi2.size; simp at this ⊢; omega) ?_); intro v5 w5 o5 g5)
            rw [← hst3.out] at o5
            have bb := below_alloc (wr.alloc (.cells #[.int .i64 a', .int .i64 b', .int .i64 c'] 75)) (.cells #[.int .i64 (t : Int)] 3)
            have bi5 := (bi2.trans (bb.mono bi2.size)).grown g5 (by have := bi2.size; simp at this ⊢; omega) (fun b hb => (Own.lt oi hb).1)
            have ai5 := Lib.hid ((ai2'.out.below bb).grown g5 (ai.out.apart oi))
            go_roundg (gk - 1)
            case measure => omega
            case rel => exact ⟨t + 1, by go_num, o5, bi5, ai5, by omega, by omega⟩
          · have hq : ∀ w, (binOp .eql 75 (.agg #[.int .i64 a', .int .i64 b', .int .i64 c']) (.agg #[.int .i64 y0, .int .i64 y1, .int .i64 y2])).run Try.prog w = .ok (.bool false) w := fun w => by
              rw [binop3, decide_eq_false (by simpa using hyz)]
            rw [if_neg hyz] at hst2
            have o5 : Hid (OwnInts (wr.alloc (.cells #[.int .i64 a', .int .i64 b', .int .i64 c'] 75)) w.heap.size (.slice a5 (ints (permTo F mv j ++ hits F (y0, y1, y2) t)).length c5) (permTo F mv j ++ hits F (y0, y1, y2) (t + 1))) := Lib.hid (by rw [hst2]; exact oi2.out)
            clear hst2 hyz
            go_wp2_with fail
            go_roundg (gk - 1)
            case measure => omega
            case rel => exact ⟨t + 1, by go_num, o5.out, bi2, ai2', by omega, by omega⟩
        · have hte : t = F.length := by omega
          have oj5 : Hid (OwnInts wr w.heap.size (.slice a5 (ints (permTo F mv j ++ hits F (y0, y1, y2) t)).length c5) (permTo F mv (j + 1))) := Lib.hid (by rw [hst.out, ← hte]; exact oi)
          go_wp2_with fail
          go_roundg (gk1 - 1)
          case measure => omega
          case rel => exact ⟨j + 1, by go_num, oj5.out, bi, by omega, by omega⟩
    · have hje : j = F.length := by omega
      have h2 : OwnInts wr w.heap.size (.slice a5 (ints (permTo F mv j)).length c5) (permTo F mv F.length) := by rw [← hje]; exact oj
      have h3 := Lib.hid (H.out _ wr h2 bj)
      clear h2
      go_wp2_with fail
      exact h3.out
end Go.Proofs.Ytdjdagcgodpgdaa
/- The generators that the program uses, and that they make the reference's groups: a finite check. -/
set_option linter.unusedVariables false
namespace Go.Proofs.Ytdjdagcgodpgdaa
open Go.RowKit

def Perms.face : List V3 := [(0, 0, 1), (0, 0, -1), (0, 1, 0), (0, -1, 0), (1, 0, 0), (-1, 0, 0)]
def Perms.cornTo (i : Nat) : List V3 := (List.range i).map fun i => (2 * ((i % 2 : Nat) : Int) - 1, 2 * ((i / 2 % 2 : Nat) : Int) - 1, 2 * ((i / 4 % 2 : Nat) : Int) - 1)
def Perms.mv1 : V3 → V3 := fun t => (-t.2.1, t.1, t.2.2)
def Perms.mv2 : V3 → V3 := fun t => (t.2.1, t.2.2, t.1)
def Perms.mv3 : V3 → V3 := fun t => (t.1, t.2.1, -t.2.2)
def Perms.ibase (m : Bool) : List (List Int) := if m = true then [[1, 2, 0, 3], [0, 2, 3, 1], [1, 0, 2, 3]] else [[1, 2, 0, 3], [0, 2, 3, 1]]
def Perms.imvs (m : Bool) : List (V3 → V3) := if m = true then [Perms.mv1, Perms.mv2, Perms.mv3] else [Perms.mv1, Perms.mv2]
def Perms.ispot (k : Int) : List V3 := if k = 3 then Perms.face else Perms.cornTo 8
def Perms.igens (k : Int) (m : Bool) : List (List Int) := if k = 1 then Perms.ibase m else if k = 2 then (Perms.ibase m).map Perms.mvAct else (Perms.imvs m).map fun mv => permTo (Perms.ispot k) mv (Perms.ispot k).length
def Perms.srt2 : List Int → List Int
  | [a, b] => if a ≤ b then [a, b] else [b, a]
  | l => l
theorem Perms.srt_of_two {l : List Int} (h : l.length = 2) : Perms.srt l = Perms.srt2 l := by
  match l, h with
  | [a, b], _ => exact Perms.srt_two a b
theorem Perms.mvAct_eq (p : List Int) : Perms.mvAct p = (Perms.subs 2 0).map fun x => Perms.idx (Perms.subs 2 0) (Perms.srt2 (Perms.img p x)) := by
  unfold Perms.mvAct Perms.mvTo
  rw [List.take_of_length_le (Nat.le_refl _)]
  refine List.map_congr_left fun x hx => ?_
  rw [Perms.srt_of_two (by unfold Perms.img; rw [List.length_map]; exact (Perms.subs_rng2 x hx).1)]
theorem Perms.ibase_act (m : Bool) : (Perms.ibase m).map Perms.mvAct = (Perms.ibase m).map Perms.pairAct := by
  refine List.map_congr_left fun p hp => ?_
  rw [Perms.mvAct_eq]
  revert p hp
  cases m <;> decide +kernel
theorem Perms.same (k : Int) (m : Bool) (hk : 1 ≤ k ∧ k ≤ 4) : Perms.gofW (Nums.sdeg k) (Perms.igens k m) = Perms.solW k m ∧ Perms.gofB (Nums.sdeg k) (Perms.igens k m) = Perms.solB k m := by
  have e : (Perms.gofO (Nums.sdeg k) (Perms.igens k m)).map Perms.isort = (Perms.solO k m).map Perms.isort := by
    obtain rfl | rfl | rfl | rfl : k = 1 ∨ k = 2 ∨ k = 3 ∨ k = 4 := by omega
    · cases m <;> decide +kernel
    · unfold Perms.igens
      rw [if_neg (by decide), if_pos rfl, Perms.ibase_act]
      cases m <;> decide +kernel
    · cases m <;> decide +kernel
    · cases m <;> decide +kernel
  unfold Perms.gofW Perms.gofB Perms.solW Perms.solB
  rw [e]
  refine ⟨rfl, ?_⟩
  rw [← Option.isSome_map (f := Perms.isort), e, Option.isSome_map]
end Go.Proofs.Ytdjdagcgodpgdaa
/- Slices of arrays of three integers. -/
set_option linter.unusedVariables false
namespace Go.Proofs.Ytdjdagcgodpgdaa
open Go.RowKit

def cells3 (t : V3) : List Value := [.int .i64 t.1, .int .i64 t.2.1, .int .i64 t.2.2]
theorem flat3_get : ∀ (F : List V3) (k : Nat) (t : V3), F[k]? = some t → (F.flatMap cells3)[k * 3]? = some (.int .i64 t.1) ∧ (F.flatMap cells3)[k * 3 + 1]? = some (.int .i64 t.2.1) ∧ (F.flatMap cells3)[k * 3 + 2]? = some (.int .i64 t.2.2)
  | [], k, t, h => by simp at h
  | x :: F, 0, t, h => by
    simp at h
    subst h
    simp [cells3]
  | x :: F, k + 1, t, h => by
    rw [List.getElem?_cons_succ] at h
    have ih := flat3_get F k t h
    have e : ∀ m, (List.flatMap cells3 (x :: F))[m + 3]? = (F.flatMap cells3)[m]? := fun m => by simp [cells3]
    refine ⟨?_, ?_, ?_⟩
    · rw [show (k + 1) * 3 = k * 3 + 3 by omega, e]; exact ih.1
    · rw [show (k + 1) * 3 + 1 = k * 3 + 1 + 3 by omega, e]; exact ih.2.1
    · rw [show (k + 1) * 3 + 2 = k * 3 + 2 + 3 by omega, e]; exact ih.2.2
theorem flat3_len (F : List V3) : (F.flatMap cells3).length = F.length * 3 := by
  induction F with
  | nil => rfl
  | cons x F ih => rw [List.flatMap_cons, List.length_append, ih, List.length_cons]; simp [cells3]; omega
def Own3 (w : World) (B : Nat) (v : Value) (F : List V3) : Prop := w.ownsRow B 75 3 v F.length (F.flatMap cells3)
theorem Own3.form {w : World} {B : Nat} {v : Value} {F : List V3} (h : Own3 w B v F) : ∃ ao cap, v = .slice ao F.length cap ∧ F.length ≤ cap ∧ (cap : Int) ≤ 9223372036854775807 := by
  rcases h.2 with ⟨rfl, h2⟩ | ⟨g, cap, cur, rfl, h1, h2, h3, h4, h5, h6⟩
  · exact ⟨none, 0, by rw [h2], by omega, by decide⟩
  · refine ⟨_, cap, rfl, h3, ?_⟩
    unfold maxLen at h4
    omega
theorem Own3.at {w : World} {B : Nat} {v : Value} {F : List V3} (h : Own3 w B v F) (hF : 1 ≤ F.length) : ∃ g cap, v = .slice (some ⟨g, 0, none⟩) F.length cap ∧ At3 w g F ∧ F.length ≤ cap ∧ (cap : Int) ≤ 9223372036854775807 := by
  rcases h.2 with ⟨rfl, h2⟩ | ⟨g, cap, cur, rfl, h1, h2, h3, h4, h5, h6⟩
  · omega
  · refine ⟨g, cap, rfl, ?_, h3, by unfold maxLen at h4; omega⟩
    have hc : ∀ m, m < F.length * 3 → w.cell? ⟨g, m, none⟩ = (F.flatMap cells3)[m]? := fun m hm => by
      rw [← h6, List.getElem?_take, if_pos hm]
      simp [World.cell?, h2]
    intro k a b c hk
    have hk1 := (List.getElem?_eq_some_iff.1 hk).1
    have hf := flat3_get F k _ hk
    exact ⟨(hc _ (by omega)).trans hf.1, (hc _ (by omega)).trans hf.2.1, (hc _ (by omega)).trans hf.2.2⟩
theorem Own3.blk {w : World} {B : Nat} {v : Value} {F : List V3} (h : Own3 w B v F) (hF : 1 ≤ F.length) : ∃ g cap cur, v = .slice (some ⟨g, 0, none⟩) F.length cap ∧ w.heap[g]? = some (.cells cur 75 (0, 0)) ∧ (∀ w' : World, w'.heap[g]? = some (.cells cur 75 (0, 0)) → At3 w' g F) ∧ F.length ≤ cap ∧ (cap : Int) ≤ 9223372036854775807 := by
  rcases h.2 with ⟨rfl, h2⟩ | ⟨g, cap, cur, rfl, h1, h2, h3, h4, h5, h6⟩
  · omega
  · refine ⟨g, cap, cur, rfl, h2, ?_, h3, by unfold maxLen at h4; omega⟩
    intro w' h2
    have hc : ∀ m, m < F.length * 3 → w'.cell? ⟨g, m, none⟩ = (F.flatMap cells3)[m]? := fun m hm => by
      rw [← h6, List.getElem?_take, if_pos hm]
      simp [World.cell?, h2]
    intro k a b c hk
    have hk1 := (List.getElem?_eq_some_iff.1 hk).1
    have hf := flat3_get F k _ hk
    exact ⟨(hc _ (by omega)).trans hf.1, (hc _ (by omega)).trans hf.2.1, (hc _ (by omega)).trans hf.2.2⟩
theorem blk_grown {w w' : World} {v : Value} {xs : List Value} {B b : Nat} {cs : Array Value} {T : TypeId} (h : w.heap[b]? = some (.cells cs T (0, 0))) (hT : T ≠ 38) (ho : Own w B 38 v xs) (hg : w.grownBy w' v.ownBlock) : w'.heap[b]? = some (.cells cs T (0, 0)) := by
  rw [hg.block b (Array.getElem?_eq_some_iff.1 h).1 ?_]
  · exact h
  · intro e
    obtain ⟨cur, hc⟩ := Own.block ho e.symm
    rw [h] at hc
    simp only [Option.some.injEq, Obj.cells.injEq] at hc
    exact hT hc.2.1
theorem blk_below {w w' : World} {b : Nat} {o : Obj} (h : w.heap[b]? = some o) (hb : Below w.heap.size w w') : w'.heap[b]? = some o := (hb.block b (Array.getElem?_eq_some_iff.1 h).1).trans h
theorem Own3.lt {w : World} {B : Nat} {v : Value} {F : List V3} (h : Own3 w B v F) {k : Nat} (hk : v.ownBlock = some k) : B ≤ k ∧ k < w.heap.size := World.ownsRow.lt h k hk
theorem Own3.below {w w' : World} {B : Nat} {v : Value} {F : List V3} (h : Own3 w B v F) (hb : Below w.heap.size w w') : Own3 w' B v F := by
  rcases h.2 with ⟨rfl, h2⟩ | ⟨g, cap, cur, rfl, h1, h2, h3⟩
  · exact ⟨h.1, .inl ⟨rfl, h2⟩⟩
  · exact ⟨h.1, .inr ⟨g, cap, cur, rfl, h1, (hb.block g (Array.getElem?_eq_some_iff.1 h2).1).trans h2, h3⟩⟩
theorem Own3.mono {w : World} {B B' : Nat} {v : Value} {F : List V3} (h : Own3 w B v F) (hB : B' ≤ B) : Own3 w B' v F := by
  rcases h.2 with ⟨rfl, h2⟩ | ⟨g, cap, cur, rfl, h1, h2, h3⟩
  · exact ⟨h.1, .inl ⟨rfl, h2⟩⟩
  · exact ⟨h.1, .inr ⟨g, cap, cur, rfl, by omega, h2, h3⟩⟩
theorem own3_lit (w : World) (F : List V3) (hn : F.length ≤ 1000) : Own3 (w.alloc (.cells (F.flatMap cells3).toArray 75)) w.heap.size (.slice (some ⟨w.heap.size, 0, none⟩) F.length F.length) F := by
  have h := World.ownsRow_lit (size := 3) w (e := 75) (F.flatMap cells3).toArray F.length (Nat.le_refl _) (by unfold maxLen; omega) (by rw [List.size_toArray]; exact flat3_len F)
  exact h
theorem Try.infoArr : (Try.prog.info? 75).map (fun i => (i.zero, i.size, i.bytes)) = some (some (.agg #[.int .i64 0, .int .i64 0, .int .i64 0]), 3, 24) := by kernel_rfl
theorem info_parts3 {P : Program} {e : TypeId} {z : Value} {s b : Nat} (h : (P.info? e).map (fun i => (i.zero, i.size, i.bytes)) = some (some z, s, b)) : ∃ i, P.info? e = some i ∧ i.zero = some z ∧ i.size = s ∧ i.bytes = b := by
  obtain ⟨i, hi, h2⟩ := Option.map_eq_some_iff.1 h
  simp only [Prod.mk.injEq] at h2
  exact ⟨i, hi, h2.1, h2.2.1, h2.2.2⟩
theorem app3 {w : World} {ops : Array Oper} {rest : List Oper} {o : Oper} {a : Act} {Q : Exit → Act → World → Prop} (hg : o.guard = none) (s x : Operand) (hop : o.op = .call { callee := .builtin .append, args := #[s, x], argTypes := #[49, 49] })
    {B : Nat} {v : Value} {F : List V3} {t : V3} {b c : Nat} (hs : a.eval s = v) (hown : Own3 w B v F) (hx : a.eval x = .slice (some ⟨b, 0, none⟩) 1 c) (hA : Arr3 w b t.1 t.2.1 t.2.2)
    (hn : F.length + 1 ≤ 1000000) (hB : B ≤ w.heap.size)
    (hK : ∀ v' w', Own3 w' B v' (F ++ [t]) → w.grownBy w' v.ownBlock → wpList Try.prog ops Q rest (a.put o.dst v') w') :
    wpList Try.prog ops Q (o :: rest) a w := by
  obtain ⟨i0, hi, hz0, hz1, hz2⟩ := info_parts3 Try.infoArr
  refine wpList_append_own w hg s x 49 hop B 75 i0 _ 3 24 Try.underlying49 hi hz0 hz1 hz2 rfl (by decide) v F.length _ hs hown ⟨b, 0, none⟩ 1 c (cells3 t) hx rfl ?_ ?_ (by unfold maxLen; omega) (by omega) hB ?_
  · obtain ⟨h0, h1, h2⟩ := hA.cells
    intro j u hj
    rw [addr_add, Nat.zero_add]
    match j, hj with
    | 0, hj => simp [cells3] at hj; subst hj; exact h0
    | 1, hj => simp [cells3] at hj; subst hj; exact h1
    | 2, hj => simp [cells3] at hj; subst hj; exact h2
    | j + 3, hj => simp [cells3] at hj
  · intro u hu
    simp [cells3] at hu
    rcases hu with rfl | rfl | rfl <;> rfl
  · intro v' w' ho hgr _
    refine hK v' w' ?_ hgr
    unfold Own3
    rw [List.length_append, List.flatMap_append]
    simpa using ho
end Go.Proofs.Ytdjdagcgodpgdaa
/- Faces, corners and moves of the cube. -/
set_option linter.unusedVariables false
namespace Go.Proofs.Ytdjdagcgodpgdaa
open Go.RowKit

set_option maxHeartbeats 1600000 in
theorem faces_c {w : World} {Q : Ending → World → Prop} (hQ : ∀ v w', Own3 w' w.heap.size v Perms.face → Below w.heap.size w w' → Q (.returned v) w') :
    Calls Try.prog 31 #[] w Q := by
  have H := Lib.hid (hQ _ _ (own3_lit w Perms.face (by decide)) (below_alloc w _)); clear hQ
  go_enter Try.func31, Try.ntmps31
  go_wp2_with fail
  exact H.out
theorem Perms.corn_step (i : Nat) : Perms.cornTo (i + 1) = Perms.cornTo i ++ [(2 * ((i % 2 : Nat) : Int) - 1, 2 * ((i / 2 % 2 : Nat) : Int) - 1, 2 * ((i / 4 % 2 : Nat) : Int) - 1)] := by
  unfold Perms.cornTo
  rw [List.range_succ, List.map_append]
  rfl
theorem Perms.corn_len (i : Nat) : (Perms.cornTo i).length = i := by simp [Perms.cornTo]
set_option maxHeartbeats 1600000 in
theorem corners_c {w : World} {Q : Ending → World → Prop} (hQ : ∀ v w', Own3 w' w.heap.size v (Perms.cornTo 8) → Below w.heap.size w w' → Q (.returned v) w') :
    Calls Try.prog 32 #[] w Q := by
  have H := Lib.hid hQ; clear hQ
  go_enter Try.func32, Try.ntmps32
  go_wp2_with fail
  have o0 : Own3 (w.alloc (.cells #[] 75)) w.heap.size (.slice (some ⟨w.heap.size, 0, none⟩) 0 0) (Perms.cornTo 0) := own3_lit w (Perms.cornTo 0) (by decide)
  have b0 := below_alloc w (.cells #[] 75)
  go_loopg [1, 4] 8 (fun gg u1 u4 wr => ∃ i : Nat, u4 = .int .i64 i ∧ Own3 wr w.heap.size u1 (Perms.cornTo i) ∧ Below w.heap.size w wr ∧ i + gg = 8)
  case atStart => exact ⟨0, rfl, o0, b0, rfl⟩
  case round =>
    obtain ⟨i, rfl, oi, bi, hi⟩ := hrel
    obtain ⟨a1, c1, rfl, _, _⟩ := oi.form
    have hcl := Perms.corn_len i
    by_cases hi8 : i < 8
    · have hiI : (i : Int) < 8 := by omega
      have hst := Lib.hid (Perms.corn_step i)
      have e0 : bits .and .i64 (i : Int) 1 = ((i % 2 : Nat) : Int) := by rw [and1]; omega
      have e1 : bits .and .i64 ((i : Int) / 2) 1 = ((i / 2 % 2 : Nat) : Int) := by rw [and1]; omega
      have e2 : bits .and .i64 ((i : Int) / 4) 1 = ((i / 4 % 2 : Nat) : Int) := by rw [and1]; omega
      have hcl' := Lib.hid hcl
      clear hcl
      go_wp2_with (at_builtin; go_loud (refine app3 (t := (_, _, _)) rfl (.tmp 7) (.tmp 23) rfl rfl (oi.below (below_alloc wr _)) rfl (Arr3.new wr _ _ _) (by rw [hcl'.out]; omega) (by have := bi.size; simp; omega) ?_); intro v3 w3 o3 g3)
      have e3 : Perms.cornTo (i + 1) = Perms.cornTo i ++ [(2 * ((i : Int) % 2) - 1, 2 * ((i : Int) / 2 % 2) - 1, 2 * ((i : Int) / 4 % 2) - 1)] := by
        rw [hst.out]
        simp
      rw [← e3] at o3
      have b3 := (bi.trans ((below_alloc wr _).mono bi.size)).grown g3 (by have := bi.size; simp; omega) (fun b hb => (oi.lt hb).1)
      clear e3 hst
      go_roundg (gk - 1)
      case measure => omega
      case rel => exact ⟨i + 1, by go_num, o3, b3, by omega⟩
    · obtain rfl : i = 8 := by omega
      have h3 := Lib.hid (H.out _ _ oi bi)
      go_wp2_with fail
      exact h3.out
theorem move2_c {a b c : Int} {w : World} {Q : Ending → World → Prop}
    (hQ : ∀ w', Below w.heap.size w w' → Q (.returned (agg3 (b, c, a))) w') :
    Calls Try.prog 60 #[agg3 (a, b, c)] w Q := by
  have H := Lib.hid hQ; clear hQ
  unfold agg3 at H ⊢
  go_enter Try.func60, Try.ntmps60
  go_wp2_with fail
  have b0 := below_alloc w (.cells #[.int .i64 a, .int .i64 b, .int .i64 c] 75)
  have bb := b0.alloc b0.size (.cells #[.int .i64 b, .int .i64 c, .int .i64 a] 75)
  refine bodyPost_ret (v := .agg #[.int .i64 b, .int .i64 c, .int .i64 a]) (by simp [results, Try.results60, go_sem]) rfl ?_
  exact H.out _ bb
theorem move3_c {a b c : Int} {w : World} {Q : Ending → World → Prop} (hc : -100 ≤ c ∧ c ≤ 100)
    (hQ : ∀ w', Below w.heap.size w w' → Q (.returned (agg3 (a, b, -c))) w') :
    Calls Try.prog 61 #[agg3 (a, b, c)] w Q := by
  have H := Lib.hid hQ; clear hQ
  unfold agg3 at H ⊢
  go_enter Try.func61, Try.ntmps61
  go_wp2_with fail
  have b0 := below_alloc w (.cells #[.int .i64 a, .int .i64 b, .int .i64 c] 75)
  have bb := b0.alloc b0.size (.cells #[.int .i64 a, .int .i64 b, .int .i64 (-c)] 75)
  refine bodyPost_ret (v := .agg #[.int .i64 a, .int .i64 b, .int .i64 (-c)]) (by simp [results, Try.results61, go_sem]) rfl ?_
  exact H.out _ bb
def funcN (N : Nat) : Value := .func (.func N) #[] #[]
def mvNs : List Nat := [59, 60, 61]
theorem cellOf {w : World} {b k : Nat} {cs : Array Value} {T : TypeId} {fr : Nat × Nat} {u : Value} (h : w.heap[b]? = some (.cells cs T fr)) (hu : cs[k]? = some u) : w.cell? ⟨b, k, none⟩ = some u := by
  simp [World.cell?, h, hu]
def mvCells : Array Value := #[funcN 59, funcN 60, funcN 61]
theorem cubeMoves_c {w : World} {Q : Ending → World → Prop} (hQ : ∀ b w', w'.heap[b]? = some (.cells mvCells 53 (0, 0)) → Below w.heap.size w w' → Q (.returned (.slice (some ⟨b, 0, none⟩) 3 3)) w') :
    Calls Try.prog 33 #[] w Q := by
  have hn : (w.alloc (.cells mvCells 53)).heap[w.heap.size]? = some (.cells mvCells 53 (0, 0)) := by
    show (Array.push w.heap _)[w.heap.size]? = _
    rw [Array.getElem?_push_size]
  have H := Lib.hid (hQ w.heap.size _ hn (below_alloc w _)); clear hQ hn
  go_enter Try.func33, Try.ntmps33
  go_wp2_with fail
  exact H.out
theorem moves_at {j : Nat} (hj : j < 3) : ∃ N, mvCells[j]? = some (funcN N) ∧ (∀ args w, (callFunc N args).run Try.prog w = .ok (.enter N args) w) ∧ ∃ mv, (Perms.imvs true)[j]? = some mv ∧ ∀ F : List V3, (∀ t ∈ F, -100 ≤ t.2.1 ∧ t.2.1 ≤ 100 ∧ -100 ≤ t.2.2 ∧ t.2.2 ≤ 100) → Moves N mv F := by
  obtain rfl | rfl | rfl : j = 0 ∨ j = 1 ∨ j = 2 := by omega
  · exact ⟨_, rfl, fun args w => enters_of Try.func59 (by kernel_rfl) rfl args w, _, rfl, fun F hF x hx w Q h => move1_c ⟨(hF x hx).1, (hF x hx).2.1⟩ h⟩
  · exact ⟨_, rfl, fun args w => enters_of Try.func60 (by kernel_rfl) rfl args w, _, rfl, fun F hF x hx w Q h => move2_c h⟩
  · exact ⟨_, rfl, fun args w => enters_of Try.func61 (by kernel_rfl) rfl args w, _, rfl, fun F hF x hx w Q h => move3_c (hF x hx).2.2 h⟩
end Go.Proofs.Ytdjdagcgodpgdaa
/- The group that some permutations make, as the program makes it. -/
set_option linter.unusedVariables false
namespace Go.Proofs.Ytdjdagcgodpgdaa
open Go.RowKit

theorem containsIf_c {f : Nat} {lb : Array Value} {P : List Int → Bool} (eg : ∀ args w, (callFunc f args).run Try.prog w = .ok (.enter f args) w) {va : Value} {xss : List (List Int)} {w : World} {Q : Ending → World → Prop} (ha : RowsAt w va xss) (hs : Says f lb w.heap.size w xss P)
    (h0 : ∀ w', Below w.heap.size w w' → (∀ xs ∈ xss, P xs = false) → Q (.returned (.bool false)) w')
    (h1 : ∀ w' xs, Below w.heap.size w w' → xs ∈ xss → P xs = true → Q (.returned (.bool true)) w') :
    Calls Try.prog 63 #[va, .func (.func f) #[] lb] w Q := by
  have H0 := Lib.hid h0; clear h0
  have H1 := Lib.hid h1; clear h1
  have HS := Lib.hid hs; clear hs
  have ha' := Lib.hid ha
  obtain ⟨aa, ca, rfl, la, lca, cca⟩ := ha.form
  clear ha
  go_enter Try.func63, Try.ntmps63
  go_wp2_with fail
  refine findIf_c eg ha'.out (Nat.le_refl _) HS.out ?_ ?_
  · intro w1 b1 hall
    have h3 := Lib.hid (H0.out w1 b1 hall)
    clear hall
    go_wp2_with fail
    exact h3.out
  · intro w1 k xs b1 hx hp hb
    have h3 := Lib.hid (H1.out w1 xs b1 (List.mem_of_getElem? hx) hp)
    have hk : (0 : Int) ≤ k := by omega
    clear hx hp hb
    go_wp2_with fail
    exact h3.out
set_option maxHeartbeats 800000 in
theorem sameSays {b : Nat} {w0 : World} {xss : List (List Int)} {u : Value} {q : List Int} (hbx : BoxAt w0 b 38 u) (hu : IntsAt w0 u q) : Says 64 #[.pointer (some ⟨b, 0, none⟩)] w0.heap.size w0 xss (fun xs => decide (xs = q)) := by
  intro wr v xs Q hB hm ha hQ
  have H := Lib.hid hQ; clear hQ
  have hcell := (hbx.below hB).cell
  have hu' := Lib.hid (hu.below hB)
  have ha' := Lib.hid ha
  obtain ⟨au, cu, rfl, _, _, _⟩ := hu.form
  obtain ⟨av, cv, rfl, _, _, _⟩ := ha.form
  clear ha hm hB hu hbx
  show Calls Try.prog 64 #[.slice av xs.length cv, .pointer (some ⟨b, 0, none⟩)] wr Q
  go_enter Try.func64, Try.ntmps64
  go_wp2_with fail
  refine Equal_c ha'.out hu'.out ?_
  intro w1 d1
  have h3 := Lib.hid (H.out w1 (d1.below _))
  go_wp2_with fail
  exact h3.out
set_option maxHeartbeats 4000000 in
theorem GroupOf_i {vg : Value} {gens : List (List Int)} {n : Int} {w : World} {Q : Ending → World → Prop} (hg : RowsAt w vg gens)
    (hQ : ∀ v w', OwnRows w' w.heap.size w'.heap.size v (Perms.gofW n gens) → Below w.heap.size w w' → Q (.returned (.tuple #[v, .bool (Perms.gofB n gens)])) w') :
    Calls Try.prog 35 #[.int .i64 n, vg] w Q := by
  have H := Lib.hid hQ; clear hQ
  have hg0 := Lib.hid hg
  have bad : ∀ w', Below w.heap.size w w' → Perms.gofO n gens = none → Q (.returned (.tuple #[.slice none 0 0, .bool false])) w' := fun w' hb hf => by
    have := H.out (.slice none 0 0) w' (by unfold Perms.gofW; rw [hf]; exact OwnRows.nil _ _ _) hb
    unfold Perms.gofB at this
    rw [hf] at this; exact this
  have good : ∀ w' v q, Below w.heap.size w w' → Perms.gofO n gens = some q → OwnRows w' w.heap.size w'.heap.size v (Perms.isort q) → Q (.returned (.tuple #[v, .bool true])) w' := fun w' v q hb hf ho => by
    have := H.out v w' (by unfold Perms.gofW; rw [hf]; exact ho) hb
    unfold Perms.gofB at this
    rw [hf] at this; exact this
  have bad' := Lib.hid bad
  have good' := Lib.hid good
  clear bad good
  obtain ⟨aa, ca, rfl, la, lca, cca⟩ := hg.form
  clear hg
  by_cases hn : 1 ≤ n ∧ n ≤ 10
  rotate_left
  · have e : Hid (Perms.gofO n gens = none) := Lib.hid (by unfold Perms.gofO Perms.gokB; rw [decide_eq_false hn]; rfl)
    by_cases h1 : n < 1
    · clear hn
      go_enter Try.func35, Try.ntmps35
      go_wp2_with fail
      exact bad'.out _ (Below.refl _ _) e.out
    · have h2 : 10 < n := by omega
      clear hn
      go_enter Try.func35, Try.ntmps35
      go_wp2_with fail
      exact bad'.out _ (Below.refl _ _) e.out
  obtain ⟨hn1, hn2⟩ := hn
  obtain ⟨n0, rfl⟩ : ∃ n0 : Nat, n = n0 := ⟨n.toNat, by omega⟩
  have hn3 : ¬ ((n0 : Int) < 1) := by omega
  have hn4 : ¬ ((10 : Int) < n0) := by omega
  go_enter Try.func35, Try.ntmps35
  go_wp2_with fail
  have hgl63 := Lib.hid la
  go_loopg [21] gens.length (fun g i wr => Below w.heap.size w wr ∧ ∃ j : Nat, i = .int .i64 j ∧ Hid ((gens.take j).all (fun p => Perms.permB p && decide ((p.length : Int) = n0)) = true) ∧ j + g ≤ gens.length ∧ gens.length ≤ j + g)
  case atStart => exact ⟨Below.refl _ _, 0, rfl, Lib.hid rfl, by omega, by omega⟩
  case round =>
    obtain ⟨hb, j, rfl, hok, hk1, hk2⟩ := hrel
    by_cases hj : j < gens.length
    · obtain ⟨b, off, u, p, rfl, hx, hcw, hi⟩ := hg0.out.cell hj
      obtain ⟨au, cu, rfl, lp, _, _⟩ := hi.form
      have i1 : (j : Int) < gens.length := by omega
      have hc := below_cells hb _ _ hcw
      have hi' := Lib.hid (hi.below hb)
      have hst : Hid ((gens.take (j + 1)).all (fun p => Perms.permB p && decide ((p.length : Int) = n0)) = (Perms.permB p && decide ((p.length : Int) = n0))) := Lib.hid (by
        rw [List.take_add_one, hx.out, List.all_append, hok.out]; simp)
      have hbadp : Hid ((Perms.permB p && decide ((p.length : Int) = n0)) = false → Perms.gofO n0 gens = none) := Lib.hid (fun h => by
        unfold Perms.gofO
        rw [if_neg]
        intro h2
        have := (Perms.gok_parts h2).2.2 p (List.mem_of_getElem? hx.out)
        rw [this.1, decide_eq_true this.2] at h
        cases h)
      clear hi
      go_wp2_with fail
      refine PermOk_i hi'.out ?_
      intro w2 b2
      have hbb : Below w.heap.size w w2 := hb.trans (b2.mono hb.size)
      cases hpb : Perms.permB p with
      | false =>
        have hf := Lib.hid (hbadp.out (by rw [hpb]; rfl))
        clear hpb
        go_wp2_with fail
        exact bad'.out _ hbb hf.out
      | true =>
        by_cases hln : (p.length : Int) = n0
        · have hs2 : Hid ((gens.take (j + 1)).all (fun p => Perms.permB p && decide ((p.length : Int) = n0)) = true) := Lib.hid (by rw [hst.out, hpb, decide_eq_true hln]; rfl)
          have hne : ((p.length : Int) != n0) = false := by rw [hln]; simp
          clear hpb hln
          go_wp2_with fail
          go_roundg (gk - 1)
          case measure => omega
          case rel => exact ⟨hbb, j + 1, by go_num, hs2, by omega, by omega⟩
        · have hf := Lib.hid (hbadp.out (by rw [hpb, decide_eq_false hln]; rfl))
          have hne : ((p.length : Int) != n0) = true := by simpa using hln
          clear hpb hln
          go_wp2_with fail
          exact bad'.out _ hbb hf.out
    · have hgok : Perms.gokB n0 gens = true := by
        have h := hok.out
        rw [List.take_of_length_le (by omega)] at h
        unfold Perms.gokB
        rw [h, decide_eq_true (by omega)]; rfl
      have hgo : Hid (Perms.gofO n0 gens = Perms.bfs gens 121 0 [Perms.iota n0]) := Lib.hid (by unfold Perms.gofO; rw [if_pos hgok, Int.toNat_natCast])
      have hgr := Lib.hid (Perms.gok_inR hgok)
      have hg1 := Lib.hid (hg0.out.below hb)
      clear hgok hok
      go_wp2_with fail
      refine IdentityPerm_i (by omega) (by omega) ?_
      intro v1 w1 o1 b1
      obtain ⟨a1, c1, rfl, _, _, _⟩ := Own.form o1
      have bw1 := hb.trans (b1.mono hb.size)
      have q1 := own_rows_one (OwnInts.mono o1 hb.size) bw1.size
      have ba1 := below_alloc w1 (.cells #[.slice a1 (ints (Perms.iota n0)).length c1] 38)
      have bwa1 := bw1.trans (ba1.mono bw1.size)
      obtain ⟨us0, g0o, _, g0r⟩ := (q1.tight).parts
      have g0r' := Lib.hid g0r
      have hgw2 := Lib.hid (hg0.out.below bwa1)
      have hinv := Lib.hid (Perms.GofInv.start (n := n0))
      clear q1 g0r
      go_wp2_with fail
      go_loopg [8, 9] 120 (fun gg u8 u9 wr => ∃ (a : Nat) (q : List (List Int)) (us : List Value), u9 = .int .i64 a ∧ Own wr w.heap.size 38 u8 us ∧ Hid (Rows wr w.heap.size wr.heap.size us q) ∧ Hid (Perms.GofInv n0 q) ∧ Hid (Perms.gofO n0 gens = Perms.bfs gens (gg + 1) a q) ∧ Below w.heap.size w wr ∧ Hid (RowsAt wr (.slice aa gens.length ca) gens) ∧ a ≤ q.length ∧ 0 < q.length ∧ a + gg = 120)
      case atStart => exact ⟨0, [Perms.iota n0], us0, rfl, g0o, g0r', hinv, hgo, bwa1, hgw2, by simp, by simp, rfl⟩
      case round =>
        obtain ⟨a, q, us, rfl, og, rg, inv, hbf, bwr, hgr3, ha1, hpos, ha2⟩ := hrel
        obtain ⟨gk1, hgk1⟩ : ∃ g, g = gk := ⟨_, rfl⟩
        obtain ⟨a8, c8, rfl, _, _, _⟩ := Own.form og
        have hql := inv.out.le
        have husl : us.length ≤ q.length ∧ q.length ≤ us.length := by have := rg.out.1; omega
        by_cases ha : a < q.length
        · have haI : (a : Int) < us.length := by omega
          obtain ⟨p, hp0⟩ : ∃ p, q[a]? = some p := ⟨_, List.getElem?_eq_getElem ha⟩
          have hp := Lib.hid hp0
          have hgk : gk = gk1 - 1 + 1 := by omega
          have hrow : Hid (Perms.gofO n0 gens = (Perms.rowTo gens p q gens.length).bind (Perms.bfs gens (gk1 - 1 + 1) (a + 1))) := Lib.hid (by
            rw [hbf.out, Perms.bfs_row hp0, ← hgk])
          clear hp0
          go_wp2_with fail
          have hst0 : Hid (Perms.rowTo gens p q 0 = some q) := Lib.hid rfl
          go_loopg [8, 46] gens.length (fun gg u8 u46 wr2 => ∃ (t : Nat) (cur : List (List Int)) (us : List Value), u46 = .int .i64 t ∧ Own wr2 w.heap.size 38 u8 us ∧ Hid (Rows wr2 w.heap.size wr2.heap.size us cur) ∧ Hid (Perms.GofInv n0 cur) ∧ Hid (Perms.rowTo gens p q t = some cur) ∧ Hid (cur[a]? = some p) ∧ Below w.heap.size w wr2 ∧ Hid (RowsAt wr2 (.slice aa gens.length ca) gens) ∧ t + gg ≤ gens.length ∧ gens.length ≤ t + gg)
          case atStart => exact ⟨0, q, us, rfl, og, rg, inv, hst0, hp, bwr, hgr3, by omega, by omega⟩
          case round =>
            obtain ⟨t, cur, us, rfl, og, rg, inv, hrt, hpa, bwr, hgr3, ht1, ht2⟩ := hrel
            obtain ⟨a8, c8, rfl, _, _, _⟩ := Own.form og
            have hql := inv.out.le
            have husl : us.length ≤ cur.length ∧ cur.length ≤ us.length := by have := rg.out.1; omega
            have hac : a < cur.length := (List.getElem?_eq_some_iff.1 hpa.out).1
            by_cases ht : t < gens.length
            · have htI : (t : Int) < gens.length := by omega
              have haI2 : (a : Int) < us.length := by omega
              obtain ⟨b7, f7, ug, s, rfl, hs, hcs, hus⟩ := hgr3.out.cell ht
              obtain ⟨ag, cg, rfl, _, _, _⟩ := hus.form
              have hus' := Lib.hid hus
              obtain ⟨up, hup, hoip, _⟩ := rg.out.2.1 a p hpa.out
              obtain ⟨ap, cp, rfl, _, _, _⟩ := Own.form hoip
              obtain ⟨g9, rfl, _, _⟩ := Own.head og (by omega)
              have hcp := Own.cell og hup
              have hip := Lib.hid (OwnInts.at hoip)
              have hpR := inv.out.rg p (List.mem_of_getElem? hpa.out)
              have hsR := hgr.out s (List.mem_of_getElem? hs.out)
              have hcR := Lib.hid (Perms.inR_comp hpR hsR)
              have hpl : p.length ≤ 1048576 := by rw [hpR.1]; omega
              have hpr : Hid (∀ x ∈ p, 0 ≤ x ∧ x < s.length) := Lib.hid (by rw [hsR.1]; exact hpR.2)
              have hstep : Hid (Perms.rowTo gens p q (t + 1) = Perms.stepG (some cur) (Perms.comp p s)) := Lib.hid (by rw [Perms.rowTo_step hs.out, hrt.out])
              clear hus hup hpR hsR
              go_wp2_with fail
              refine compose_i hip.out hus'.out hpl hpr.out ?_
              intro v3 w3 o3 b3
              obtain ⟨a3, c3, rfl, _, _, _⟩ := Own.form o3
              obtain ⟨c, hc⟩ : ∃ c, c = Perms.comp p s := ⟨_, rfl⟩
              rw [← hc] at o3 hcR hstep ⊢
              have bw3 := bwr.trans (b3.mono bwr.size)
              have ba3 := below_alloc w3 (.cells #[.slice a3 (ints c).length c3] 38)
              have hbx : BoxAt (w3.alloc (.cells #[.slice a3 (ints c).length c3] 38)) w3.heap.size 38 (.slice a3 (ints c).length c3) := heap_alloc_new _ _
              have b34 : Below wr.heap.size wr (w3.alloc (.cells #[.slice a3 (ints c).length c3] 38)) := b3.trans (ba3.mono b3.size)
              have bw4 := bwr.trans (b34.mono bwr.size)
              have og4 := Own.below og b34
              have rg4 := Lib.hid (rg.out.below b34)
              have o34 := Lib.hid (OwnInts.below o3 ba3)
              have hrat := Lib.hid ((rg4.out.vals).at og4)
              have hS := Lib.hid (sameSays (xss := cur) hbx (OwnInts.at o34.out))
              have hbx' := Lib.hid hbx
              clear hc hbx o3
              go_wp2_with fail
              refine containsIf_c (fun args w => enters_of Try.func64 (by kernel_rfl) rfl args w) hrat.out hS.out ?_ ?_
              · intro w5 b5 hall
                have hm : c ∉ cur := fun h => by have := hall c h; simp at this
                have hcell5 := (hbx'.out.below b5).cell
                have bw5 := bw4.trans (b5.mono bw4.size)
                by_cases h120 : cur.length = 120
                · have hst2 : Hid (Perms.rowTo gens p q (t + 1) = none) := Lib.hid (by rw [hstep.out]; simp [Perms.stepG, hm, h120])
                  have hno : Hid (Perms.gofO n0 gens = none) := Lib.hid (by rw [hrow.out, Perms.rowTo_none hst2.out]; rfl)
                  have hus120 : (us.length : Int) = 120 := by omega
                  clear hm h120 hall
                  go_wp2_with fail
                  exact bad'.out _ bw5 hno.out
                · have hst2 : Hid (Perms.rowTo gens p q (t + 1) = some (cur ++ [c])) := Lib.hid (by rw [hstep.out]; simp [Perms.stepG, hm, h120])
                  have inv2 := Lib.hid (inv.out.add hcR.out hm h120)
                  have hus120 : ((us.length : Int) == 120) = false := by
                    rw [beq_eq_false_iff_ne]; omega
                  have hpa2 : Hid ((cur ++ [c])[a]? = some p) := Lib.hid (by rw [List.getElem?_append_left hac]; exact hpa.out)
                  have og5 := Own.below og4 b5
                  have rg5 := Lib.hid (rg4.out.below b5)
                  have o35 := Lib.hid (OwnInts.below o34.out b5)
                  have ba5 := below_alloc w5 (.cells #[.slice a3 (ints c).length c3] 38)
                  have oq6 := Own.below og5 ba5
                  have hr6 := row_one w5 (.slice a3 (ints c).length c3) 38
                  have hone6 : Hid (∀ y ∈ [Value.slice a3 (ints c).length c3], y.oneCell' = true) := Lib.hid (fun y hy => by rw [List.mem_singleton] at hy; rw [hy]; rfl)
                  have bw6 := bw5.trans (ba5.mono bw5.size)
                  clear hm hall
                  go_wp2_with (at_builtin; refine app_outer rfl (.tmp 62) (.tmp 64) rfl rfl oq6 rfl hr6 hone6.out (by show us.length + 1 ≤ 1099511627776; omega) bw6.size ?_; intro v7 w7 o7 g7)
                  have bw7 := bw6.grown g7 bw6.size (fun b hb => (Own.lt oq6 hb).1)
                  have hrp := (((rg5.out.below ba5).push (OwnInts.mono (OwnInts.below o35.out ba5) bwr.size) (fun b hb => (Own.lt o35.out hb).1)).outer oq6 g7).tight
                  have rg7 := Lib.hid hrp
                  have hgr7 := Lib.hid (hg0.out.below bw7)
                  go_roundg (gk - 1)
                  case measure => omega
                  case rel => exact ⟨t + 1, cur ++ [c], us ++ [.slice a3 (ints c).length c3], by go_num, o7, rg7, inv2, hst2, hpa2, bw7, hgr7, by omega, by omega⟩
              · intro w5 xs b5 hxs hxp
                have hm : c ∈ cur := by have e := of_decide_eq_true hxp; rw [← e]; exact hxs
                have hst2 : Hid (Perms.rowTo gens p q (t + 1) = some cur) := Lib.hid (by rw [hstep.out]; simp [Perms.stepG, hm])
                have bw5 := bw4.trans (b5.mono bw4.size)
                have og5 := Own.below og4 b5
                have rg5 := Lib.hid ((rg4.out.below b5).tight)
                have hgr5 := Lib.hid (hg0.out.below bw5)
                clear hm hxs hxp
                go_wp2_with fail
                go_roundg (gk - 1)
                case measure => omega
                case rel => exact ⟨t + 1, cur, us, by go_num, og5, rg5, inv, hst2, hpa, bw5, hgr5, by omega, by omega⟩
            · have hte : t = gens.length := by omega
              have hbf2 : Hid (Perms.gofO n0 gens = Perms.bfs gens (gk1 - 1 + 1) (a + 1) cur) := Lib.hid (by rw [hrow.out, ← hte, hrt.out]; rfl)
              go_wp2_with fail
              go_roundg (gk1 - 1)
              case measure => omega
              case rel => exact ⟨a + 1, cur, us, by go_num, og, rg, inv, hbf2, bwr, hgr3, by omega, by omega, by omega⟩
        · obtain rfl : a = q.length := by omega
          have hfin : Hid (Perms.gofO n0 gens = some q) := Lib.hid (by rw [hbf.out, Perms.bfs_end (Nat.le_refl _)])
          have how := Lib.hid (rg.out.whole og (Own.inBlk og))
          have bws := bwr.size
          go_wp2_with fail
          refine sortRows_c how.out bws hpos (by omega) ?_
          intro w5 yss hp5 hs5 o5 b5
          obtain rfl : yss = Perms.isort q := sorted_unique (hp5.trans (Perms.isort_perm _).symm) hs5 (Perms.isort_sorted _)
          have h3 := Lib.hid (good'.out w5 _ q (bwr.trans b5) hfin.out o5)
          go_wp2_with fail
          exact h3.out
end Go.Proofs.Ytdjdagcgodpgdaa
/- The groups of solid bodies, as the program makes them (printed by mk/mksoli.py). -/
set_option linter.unusedVariables false
namespace Go.Proofs.Ytdjdagcgodpgdaa
open Go.RowKit

theorem lit_two (w : World) (x y : List Int) (hx : x.length ≤ 1000) (hy : y.length ≤ 1000) :
    OwnRows (((w.alloc (.cells (ints x).toArray 3)).alloc (.cells (ints y).toArray 3)).alloc (.cells #[.slice (some ⟨w.heap.size, 0, none⟩) x.length x.length, .slice (some ⟨w.heap.size + 1, 0, none⟩) y.length y.length] 38))
      w.heap.size (w.heap.size + 1 + 1 + 1) (.slice (some ⟨w.heap.size + 1 + 1, 0, none⟩) 2 2) [x, y] := by
  have h1 := lit_ints w x hx
  have h2 := lit_ints (w.alloc (.cells (ints x).toArray 3)) y hy
  have h4 := World.ownsRow_lit (size := 1) (base := w.heap.size) ((w.alloc (.cells (ints x).toArray 3)).alloc (.cells (ints y).toArray 3)) (e := 38) #[.slice (some ⟨w.heap.size, 0, none⟩) x.length x.length, .slice (some ⟨w.heap.size + 1, 0, none⟩) y.length y.length] 2 (by simp; omega) (by unfold maxLen; omega) (by simp)
  rw [World.size_alloc] at h2
  rw [World.size_alloc, World.size_alloc] at h4
  refine ⟨_, h4, (fun b hb => by cases hb; exact Nat.lt_succ_self _), rfl, fun k xs hk => ?_, fun i j u u' hij hu hu' => ?_⟩
  · match k, hk with
    | 0, hk => cases hk; exact ⟨_, rfl, OwnInts.below (OwnInts.below h1 (below_alloc _ _)) (below_alloc _ _), (fun b hb => by cases hb; show w.heap.size < _; omega)⟩
    | 1, hk => cases hk; exact ⟨_, rfl, OwnInts.mono (OwnInts.below h2 (below_alloc _ _)) (by omega), (fun b hb => by cases hb; show w.heap.size + 1 < _; omega)⟩
    | k + 2, hk => simp at hk
  · match i, j, hu, hu' with
    | 0, 1, hu, hu' =>
      cases hu; cases hu'
      refine .inr ?_
      show some w.heap.size ≠ some (w.heap.size + 1)
      simp
    | 0, 0, _, _ => omega
    | 1, 0, _, _ => omega
    | 1, 1, _, _ => omega
    | i + 2, j, hu, _ => simp at hu
    | i, j + 2, _, hu' => simp at hu'
theorem Perms.mapTo_get {f : List Int → List Int} {L : List (List Int)} {j : Nat} (hj : j < L.length) : ((L.take j).map f ++ L.drop j)[j]? = L[j]? := by
  rw [List.getElem?_append_right (by simp; omega), List.length_map, List.length_take, Nat.min_eq_left (by omega), Nat.sub_self, List.getElem?_drop, Nat.add_zero]
theorem Perms.mapTo_set {f : List Int → List Int} {L : List (List Int)} {j : Nat} {x : List Int} (hx : L[j]? = some x) : ((L.take j).map f ++ L.drop j).set j (f x) = (L.take (j + 1)).map f ++ L.drop (j + 1) := by
  have hj := (List.getElem?_eq_some_iff.1 hx).1
  have e : L.drop j = x :: L.drop (j + 1) := by
    rw [← (List.getElem?_eq_some_iff.1 hx).2]
    exact List.drop_eq_getElem_cons hj
  have hl : ((L.take j).map f).length = j := by rw [List.length_map, List.length_take]; omega
  rw [List.set_append_right _ _ (by omega), hl, Nat.sub_self, e, List.take_add_one, hx, List.map_append]
  simp
theorem lit_more {W : World} {B E : Nat} {v : Value} {L : List (List Int)} (x : List Int) (hx : x.length ≤ 1000) (ho : OwnRows W B E v L) (hE : E ≤ W.heap.size) (hB : B ≤ W.heap.size) :
    ∃ us, us.length = L.length ∧ Own ((W.alloc (.cells (ints x).toArray 3)).alloc (.cells #[.slice (some ⟨W.heap.size, 0, none⟩) x.length x.length] 38)) B 38 v us ∧
      RowAt ((W.alloc (.cells (ints x).toArray 3)).alloc (.cells #[.slice (some ⟨W.heap.size, 0, none⟩) x.length x.length] 38)) (.slice (some ⟨W.heap.size + 1, 0, none⟩) 1 1) [.slice (some ⟨W.heap.size, 0, none⟩) x.length x.length] ∧
      Rows ((W.alloc (.cells (ints x).toArray 3)).alloc (.cells #[.slice (some ⟨W.heap.size, 0, none⟩) x.length x.length] 38)) B (W.heap.size + 2) (us ++ [.slice (some ⟨W.heap.size, 0, none⟩) x.length x.length]) (L ++ [x]) := by
  obtain ⟨us, h1, h2, h3⟩ := ho.parts
  have hl := lit_ints W x hx
  have hr := row_one (W.alloc (.cells (ints x).toArray 3)) (.slice (some ⟨W.heap.size, 0, none⟩) x.length x.length) 38
  rw [World.size_alloc] at hr
  refine ⟨us, h3.1, Own.below (Own.below h1 (below_alloc _ _)) (below_alloc _ _), hr, ?_⟩
  have h4 := (h3.below (below_alloc W (.cells (ints x).toArray 3))).below (below_alloc _ (.cells #[.slice (some ⟨W.heap.size, 0, none⟩) x.length x.length] 38))
  have h5 := h4.push (OwnInts.mono (OwnInts.below hl (below_alloc _ (.cells #[.slice (some ⟨W.heap.size, 0, none⟩) x.length x.length] 38))) hB) (fun b hb => by cases hb; exact hE)
  rw [World.size_alloc, World.size_alloc] at h5
  exact h5
set_option maxHeartbeats 3200000 in
theorem solI_1_false {w : World} {Q : Ending → World → Prop}
    (hQ : ∀ v w', OwnRows w' w.heap.size w'.heap.size v (Perms.gofW (Nums.sdeg 1) (Perms.igens 1 false)) → Below w.heap.size w w' → Q (.returned (.tuple #[v, .bool (Perms.gofB (Nums.sdeg 1) (Perms.igens 1 false))])) w') :
    Calls Try.prog 9 #[.int .i64 1, .bool false] w Q := by
  have H := Lib.hid hQ; clear hQ
  have hd : Hid (Nums.sdeg 1 = 4) := Lib.hid (by decide)
  go_enter Try.func9, Try.ntmps9
  have o2 := lit_two (w.alloc (.cells #[] 38)) [1, 2, 0, 3] [0, 2, 3, 1] (by simp) (by simp)
  rw [World.size_alloc] at o2
  have b2 := ((below_alloc w (.cells #[] 38)).trans ((below_alloc _ (.cells (ints [1, 2, 0, 3]).toArray 3)).mono (by simp <;> omega))).trans (((below_alloc _ (.cells (ints [0, 2, 3, 1]).toArray 3)).trans ((below_alloc _ (.cells #[.slice (some ⟨w.heap.size + 1, 0, none⟩) 4 4, .slice (some ⟨w.heap.size + 1 + 1, 0, none⟩) 4 4] 38)).mono (by simp <;> omega))).mono (by simp <;> omega))
  have o2' := Lib.hid o2.at
  clear o2
  go_wp2_with fail
  refine SolidDegree_i ?_
  rw [hd.out]
  have hW : Hid (Perms.gofW (Nums.sdeg 1) (Perms.igens 1 false) = Perms.gofW 4 [[1, 2, 0, 3], [0, 2, 3, 1]]) := Lib.hid rfl
  have hB : Hid (Perms.gofB (Nums.sdeg 1) (Perms.igens 1 false) = Perms.gofB 4 [[1, 2, 0, 3], [0, 2, 3, 1]]) := Lib.hid rfl
  go_wp2_with fail
  refine GroupOf_i o2'.out ?_
  intro v3 w3 o3 b3
  rw [← hW.out] at o3
  rw [← hB.out]
  have h3 := Lib.hid (H.out v3 w3 (OwnRows.mono o3 b2.size (Nat.le_refl _)) (b2.trans (b3.mono b2.size)))
  obtain ⟨a3, c3, rfl, _, _, _⟩ := o3.form
  go_wp2_with fail
  exact h3.out
set_option maxHeartbeats 3200000 in
theorem solI_1_true {w : World} {Q : Ending → World → Prop}
    (hQ : ∀ v w', OwnRows w' w.heap.size w'.heap.size v (Perms.gofW (Nums.sdeg 1) (Perms.igens 1 true)) → Below w.heap.size w w' → Q (.returned (.tuple #[v, .bool (Perms.gofB (Nums.sdeg 1) (Perms.igens 1 true))])) w') :
    Calls Try.prog 9 #[.int .i64 1, .bool true] w Q := by
  have H := Lib.hid hQ; clear hQ
  have hd : Hid (Nums.sdeg 1 = 4) := Lib.hid (by decide)
  go_enter Try.func9, Try.ntmps9
  have o2 := lit_two (w.alloc (.cells #[] 38)) [1, 2, 0, 3] [0, 2, 3, 1] (by simp) (by simp)
  rw [World.size_alloc] at o2
  obtain ⟨us, hul, r1, r2, r3⟩ := lit_more [1, 0, 2, 3] (by simp) o2 (by simp <;> omega) (by simp <;> omega)
  have b2 : Below w.heap.size w _ := ((((((below_alloc w (.cells #[] 38)).alloc (by simp) (.cells (ints [1, 2, 0, 3]).toArray 3)).alloc (by simp <;> omega) (.cells (ints [0, 2, 3, 1]).toArray 3)).alloc (by simp <;> omega) (.cells #[.slice (some ⟨w.heap.size + 1, 0, none⟩) 4 4, .slice (some ⟨w.heap.size + 1 + 1, 0, none⟩) 4 4] 38)).alloc (by simp <;> omega) (.cells (ints [1, 0, 2, 3]).toArray 3)).alloc (by simp <;> omega) (.cells #[.slice (some ⟨w.heap.size + 1 + 1 + 1 + 1, 0, none⟩) 4 4] 38))
  simp only [World.size_alloc] at r1 r2 r3
  clear o2
  have r1' := Lib.hid r1
  have r3' := Lib.hid r3
  clear r3
  go_wp2_with (at_builtin; refine app_outer rfl (.tmp 21) (.tmp 23) rfl rfl r1 rfl r2 (fun y hy => by rw [List.mem_singleton] at hy; rw [hy]; rfl) (by show us.length + 1 ≤ 1099511627776; rw [hul]; decide) (by simp <;> omega) ?_; intro v5 w5 o5 g5; have q5 : OwnRows w5 (w.heap.size + 1) w5.heap.size v5 [[1, 2, 0, 3], [0, 2, 3, 1], [1, 0, 2, 3]] := (r3'.out.outer r1'.out g5).tight.whole o5 (Own.inBlk o5); have b5 := b2.grown g5 (by simp <;> omega) (fun b hb => by have := (Own.lt r1'.out hb).1; omega); have q5' := Lib.hid q5.at; obtain ⟨a5, c5, rfl, _, _, _⟩ := q5.form; clear q5 o5 g5)
  refine SolidDegree_i ?_
  rw [hd.out]
  have hW : Hid (Perms.gofW (Nums.sdeg 1) (Perms.igens 1 true) = Perms.gofW 4 [[1, 2, 0, 3], [0, 2, 3, 1], [1, 0, 2, 3]]) := Lib.hid rfl
  have hB : Hid (Perms.gofB (Nums.sdeg 1) (Perms.igens 1 true) = Perms.gofB 4 [[1, 2, 0, 3], [0, 2, 3, 1], [1, 0, 2, 3]]) := Lib.hid rfl
  go_wp2_with fail
  refine GroupOf_i q5'.out ?_
  intro v3 w3 o3 b3
  rw [← hW.out] at o3
  rw [← hB.out]
  have h3 := Lib.hid (H.out v3 w3 (OwnRows.mono o3 b5.size (Nat.le_refl _)) (b5.trans (b3.mono b5.size)))
  obtain ⟨a3, c3, rfl, _, _, _⟩ := o3.form
  go_wp2_with fail
  exact h3.out
set_option maxHeartbeats 3200000 in
theorem solI_2_false {w : World} {Q : Ending → World → Prop}
    (hQ : ∀ v w', OwnRows w' w.heap.size w'.heap.size v (Perms.gofW (Nums.sdeg 2) (Perms.igens 2 false)) → Below w.heap.size w w' → Q (.returned (.tuple #[v, .bool (Perms.gofB (Nums.sdeg 2) (Perms.igens 2 false))])) w') :
    Calls Try.prog 9 #[.int .i64 2, .bool false] w Q := by
  have H := Lib.hid hQ; clear hQ
  have hd : Hid (Nums.sdeg 2 = 6) := Lib.hid (by decide)
  go_enter Try.func9, Try.ntmps9
  have o2 := lit_two (w.alloc (.cells #[] 38)) [1, 2, 0, 3] [0, 2, 3, 1] (by simp) (by simp)
  rw [World.size_alloc] at o2
  have b2 := ((below_alloc w (.cells #[] 38)).trans ((below_alloc _ (.cells (ints [1, 2, 0, 3]).toArray 3)).mono (by simp <;> omega))).trans (((below_alloc _ (.cells (ints [0, 2, 3, 1]).toArray 3)).trans ((below_alloc _ (.cells #[.slice (some ⟨w.heap.size + 1, 0, none⟩) 4 4, .slice (some ⟨w.heap.size + 1 + 1, 0, none⟩) 4 4] 38)).mono (by simp <;> omega))).mono (by simp <;> omega))
  have o2' := Lib.hid o2
  clear o2
  go_wp2_with fail
  obtain ⟨L, hL⟩ : ∃ L : List (List Int), L = [[1, 2, 0, 3], [0, 2, 3, 1]] := ⟨_, rfl⟩
  have hLl : L.length = 2 := by rw [hL]; rfl
  have hgood : Hid (∀ x ∈ L, x.length = 4 ∧ Perms.permB x = true) := Lib.hid (by rw [hL]; decide)
  have hL' := Lib.hid hL
  have r0 : Hid (OwnRows _ (w.heap.size + 1) _ (.slice (some ⟨w.heap.size + 1 + 1 + 1, 0, none⟩) 2 2) ((L.take 0).map Perms.mvAct ++ L.drop 0)) := Lib.hid (by rw [hL]; exact o2'.out.mono (Nat.le_refl _) (Nat.le_refl _))
  have bS := b2
  clear hL
  go_loopg [29] 2 (fun gg u29 wr => ∃ j : Nat, u29 = .int .i64 j ∧ Hid (OwnRows wr (w.heap.size + 1) wr.heap.size (.slice (some ⟨w.heap.size + 1 + 1 + 1, 0, none⟩) 2 2) ((L.take j).map Perms.mvAct ++ L.drop j)) ∧ Below w.heap.size w wr ∧ j + gg = 2 ∧ w.heap.size + 1 ≤ wr.heap.size)
  case atStart => exact ⟨0, rfl, Lib.hid (OwnRows.mono r0.out (Nat.le_refl _) (by simp <;> omega)), bS, rfl, by simp <;> omega⟩
  case round =>
    obtain ⟨j, rfl, oj, bj, hj, hsz⟩ := hrel
    by_cases hjn : j < 2
    · have hjI : (j : Int) < 2 := by omega
      obtain ⟨u, x, hx0, hcx, hux, _⟩ := oj.out.cell (k := j) (by simp; omega)
      have hx : Hid (L[j]? = some x) := Lib.hid (by rw [← hx0.out, Perms.mapTo_get (by omega)])
      have hg := hgood.out x (List.mem_of_getElem? hx.out)
      obtain ⟨ax, cx, rfl, _, _, _⟩ := Own.form hux
      have hux' := Lib.hid (OwnInts.at hux)
      have hg1 := Lib.hid hg.1
      have hg2 := Lib.hid hg.2
      clear hx0 hg hux
      go_wp2_with fail
      refine PairAction_i hux'.out hg1.out hg2.out ?_
      intro v3 w3 o3 b3
      obtain ⟨a3, c3, rfl, _, _, _⟩ := Own.form o3
      have bj3 := bj.trans (b3.mono bj.size)
      have oj3 := oj.out.below b3
      have hf := oj3.frozen j
      obtain ⟨u2, _, _, hc3, _, _⟩ := oj3.cell (k := j) (by simp; omega)
      have hp := OwnRows.put oj3 (OwnInts.mono o3 hsz) (fun b hb => (Own.lt o3 hb).1) j
      rw [Perms.mapTo_set hx.out] at hp
      have hp' := Lib.hid hp.tight
      have bp := bj3.setCell (p := ⟨w.heap.size + 1 + 1 + 1, j, none⟩) (by simp <;> omega) (.slice a3 (ints (Perms.mvAct x)).length c3)
      have hs3 : w.heap.size + 1 ≤ (w3.setCell ⟨w.heap.size + 1 + 1 + 1, j, none⟩ (.slice a3 (ints (Perms.mvAct x)).length c3)).heap.size := by have := b3.size; simp [World.setCell]; omega
      clear hp oj3
      go_wp2_with fail
      go_roundg (gk - 1)
      case measure => omega
      case rel => exact ⟨j + 1, by go_num, hp', bp, by omega, hs3⟩
    · obtain rfl : j = 2 := by omega
      have b2 := bj
      have o2' : Hid (RowsAt wr (.slice (some ⟨w.heap.size + 1 + 1 + 1, 0, none⟩) 2 2) (L.map Perms.mvAct)) := Lib.hid (by
        have h := oj.out.at
        rw [List.take_of_length_le (by omega), List.drop_of_length_le (by omega), List.append_nil] at h
        exact h)
      go_wp2_with fail
      refine SolidDegree_i ?_
      rw [hd.out]
      have hW : Hid (Perms.gofW (Nums.sdeg 2) (Perms.igens 2 false) = Perms.gofW 6 (L.map Perms.mvAct)) := Lib.hid (by rw [hL'.out]; rfl)
      have hB : Hid (Perms.gofB (Nums.sdeg 2) (Perms.igens 2 false) = Perms.gofB 6 (L.map Perms.mvAct)) := Lib.hid (by rw [hL'.out]; rfl)
      go_wp2_with fail
      refine GroupOf_i o2'.out ?_
      intro v3 w3 o3 b3
      rw [← hW.out] at o3
      rw [← hB.out]
      have h3 := Lib.hid (H.out v3 w3 (OwnRows.mono o3 b2.size (Nat.le_refl _)) (b2.trans (b3.mono b2.size)))
      obtain ⟨a3, c3, rfl, _, _, _⟩ := o3.form
      go_wp2_with fail
      exact h3.out
set_option maxHeartbeats 3200000 in
theorem solI_2_true {w : World} {Q : Ending → World → Prop}
    (hQ : ∀ v w', OwnRows w' w.heap.size w'.heap.size v (Perms.gofW (Nums.sdeg 2) (Perms.igens 2 true)) → Below w.heap.size w w' → Q (.returned (.tuple #[v, .bool (Perms.gofB (Nums.sdeg 2) (Perms.igens 2 true))])) w') :
    Calls Try.prog 9 #[.int .i64 2, .bool true] w Q := by
  have H := Lib.hid hQ; clear hQ
  have hd : Hid (Nums.sdeg 2 = 6) := Lib.hid (by decide)
  go_enter Try.func9, Try.ntmps9
  have o2 := lit_two (w.alloc (.cells #[] 38)) [1, 2, 0, 3] [0, 2, 3, 1] (by simp) (by simp)
  rw [World.size_alloc] at o2
  obtain ⟨us, hul, r1, r2, r3⟩ := lit_more [1, 0, 2, 3] (by simp) o2 (by simp <;> omega) (by simp <;> omega)
  have b2 : Below w.heap.size w _ := ((((((below_alloc w (.cells #[] 38)).alloc (by simp) (.cells (ints [1, 2, 0, 3]).toArray 3)).alloc (by simp <;> omega) (.cells (ints [0, 2, 3, 1]).toArray 3)).alloc (by simp <;> omega) (.cells #[.slice (some ⟨w.heap.size + 1, 0, none⟩) 4 4, .slice (some ⟨w.heap.size + 1 + 1, 0, none⟩) 4 4] 38)).alloc (by simp <;> omega) (.cells (ints [1, 0, 2, 3]).toArray 3)).alloc (by simp <;> omega) (.cells #[.slice (some ⟨w.heap.size + 1 + 1 + 1 + 1, 0, none⟩) 4 4] 38))
  simp only [World.size_alloc] at r1 r2 r3
  clear o2
  have r1' := Lib.hid r1
  have r3' := Lib.hid r3
  clear r3
  go_wp2_with (at_builtin; refine app_outer rfl (.tmp 21) (.tmp 23) rfl rfl r1 rfl r2 (fun y hy => by rw [List.mem_singleton] at hy; rw [hy]; rfl) (by show us.length + 1 ≤ 1099511627776; rw [hul]; decide) (by simp <;> omega) ?_; intro v5 w5 o5 g5; have q5 : OwnRows w5 (w.heap.size + 1) w5.heap.size v5 [[1, 2, 0, 3], [0, 2, 3, 1], [1, 0, 2, 3]] := (r3'.out.outer r1'.out g5).tight.whole o5 (Own.inBlk o5); have b5 := b2.grown g5 (by simp <;> omega) (fun b hb => by have := (Own.lt r1'.out hb).1; omega); obtain ⟨a5, c5, rfl, _, _, _⟩ := q5.form; obtain ⟨g5', rfl, hg5, _, _⟩ := q5.head (by decide); have q5' := Lib.hid q5; clear q5 o5 g5)
  obtain ⟨L, hL⟩ : ∃ L : List (List Int), L = [[1, 2, 0, 3], [0, 2, 3, 1], [1, 0, 2, 3]] := ⟨_, rfl⟩
  have hLl : L.length = 3 := by rw [hL]; rfl
  have hgood : Hid (∀ x ∈ L, x.length = 4 ∧ Perms.permB x = true) := Lib.hid (by rw [hL]; decide)
  have hL' := Lib.hid hL
  have r0 : Hid (OwnRows _ (w.heap.size + 1) _ (.slice (some ⟨g5', 0, none⟩) 3 c5) ((L.take 0).map Perms.mvAct ++ L.drop 0)) := Lib.hid (by rw [hL]; exact q5'.out.mono (Nat.le_refl _) (Nat.le_refl _))
  have bS := b5
  clear hL
  go_loopg [29] 3 (fun gg u29 wr => ∃ j : Nat, u29 = .int .i64 j ∧ Hid (OwnRows wr (w.heap.size + 1) wr.heap.size (.slice (some ⟨g5', 0, none⟩) 3 c5) ((L.take j).map Perms.mvAct ++ L.drop j)) ∧ Below w.heap.size w wr ∧ j + gg = 3 ∧ w.heap.size + 1 ≤ wr.heap.size)
  case atStart => exact ⟨0, rfl, Lib.hid (OwnRows.mono r0.out (Nat.le_refl _) (Nat.le_refl _)), bS, rfl, by have := b5.size; have := (q5'.out.head (by decide)); obtain ⟨_, e, _, _, _⟩ := this; cases e; omega⟩
  case round =>
    obtain ⟨j, rfl, oj, bj, hj, hsz⟩ := hrel
    by_cases hjn : j < 3
    · have hjI : (j : Int) < 3 := by omega
      obtain ⟨u, x, hx0, hcx, hux, _⟩ := oj.out.cell (k := j) (by simp; omega)
      have hx : Hid (L[j]? = some x) := Lib.hid (by rw [← hx0.out, Perms.mapTo_get (by omega)])
      have hg := hgood.out x (List.mem_of_getElem? hx.out)
      obtain ⟨ax, cx, rfl, _, _, _⟩ := Own.form hux
      have hux' := Lib.hid (OwnInts.at hux)
      have hg1 := Lib.hid hg.1
      have hg2 := Lib.hid hg.2
      clear hx0 hg hux
      go_wp2_with fail
      refine PairAction_i hux'.out hg1.out hg2.out ?_
      intro v3 w3 o3 b3
      obtain ⟨a3, c3, rfl, _, _, _⟩ := Own.form o3
      have bj3 := bj.trans (b3.mono bj.size)
      have oj3 := oj.out.below b3
      have hf := oj3.frozen j
      obtain ⟨u2, _, _, hc3, _, _⟩ := oj3.cell (k := j) (by simp; omega)
      have hp := OwnRows.put oj3 (OwnInts.mono o3 hsz) (fun b hb => (Own.lt o3 hb).1) j
      rw [Perms.mapTo_set hx.out] at hp
      have hp' := Lib.hid hp.tight
      have bp := bj3.setCell (p := ⟨g5', j, none⟩) (by show w.heap.size ≤ g5'; omega) (.slice a3 (ints (Perms.mvAct x)).length c3)
      have hs3 : w.heap.size + 1 ≤ (w3.setCell ⟨g5', j, none⟩ (.slice a3 (ints (Perms.mvAct x)).length c3)).heap.size := by have := b3.size; simp [World.setCell]; omega
      clear hp oj3
      go_wp2_with fail
      go_roundg (gk - 1)
      case measure => omega
      case rel => exact ⟨j + 1, by go_num, hp', bp, by omega, hs3⟩
    · obtain rfl : j = 3 := by omega
      have b2 := bj
      have o2' : Hid (RowsAt wr (.slice (some ⟨g5', 0, none⟩) 3 c5) (L.map Perms.mvAct)) := Lib.hid (by
        have h := oj.out.at
        rw [List.take_of_length_le (by omega), List.drop_of_length_le (by omega), List.append_nil] at h
        exact h)
      go_wp2_with fail
      refine SolidDegree_i ?_
      rw [hd.out]
      have hW : Hid (Perms.gofW (Nums.sdeg 2) (Perms.igens 2 true) = Perms.gofW 6 (L.map Perms.mvAct)) := Lib.hid (by rw [hL'.out]; rfl)
      have hB : Hid (Perms.gofB (Nums.sdeg 2) (Perms.igens 2 true) = Perms.gofB 6 (L.map Perms.mvAct)) := Lib.hid (by rw [hL'.out]; rfl)
      go_wp2_with fail
      refine GroupOf_i o2'.out ?_
      intro v3 w3 o3 b3
      rw [← hW.out] at o3
      rw [← hB.out]
      have h3 := Lib.hid (H.out v3 w3 (OwnRows.mono o3 b2.size (Nat.le_refl _)) (b2.trans (b3.mono b2.size)))
      obtain ⟨a3, c3, rfl, _, _, _⟩ := o3.form
      go_wp2_with fail
      exact h3.out
set_option maxHeartbeats 3200000 in
theorem solI_3_false {w : World} {Q : Ending → World → Prop}
    (hQ : ∀ v w', OwnRows w' w.heap.size w'.heap.size v (Perms.gofW (Nums.sdeg 3) (Perms.igens 3 false)) → Below w.heap.size w w' → Q (.returned (.tuple #[v, .bool (Perms.gofB (Nums.sdeg 3) (Perms.igens 3 false))])) w') :
    Calls Try.prog 9 #[.int .i64 3, .bool false] w Q := by
  have H := Lib.hid hQ; clear hQ
  have hd : Hid (Nums.sdeg 3 = 6) := Lib.hid (by decide)
  go_enter Try.func9, Try.ntmps9
  have o0 := own_outer_empty w
  have b0 := below_alloc w (.cells #[] 38)
  go_wp2_with fail
  refine faces_c ?_
  intro v1 w1 q1 b1
  obtain ⟨g, cap, cur, rfl, hg1, hg2, hg3, hg4⟩ := q1.blk (by decide)
  have bw1 := b0.trans (b1.mono b0.size)
  have ow1 := Own.below o0 b1
  have hgA := Lib.hid hg1
  have hgB := Lib.hid hg2
  clear hg1 hg2
  go_wp2_with fail
  refine cubeMoves_c ?_
  intro b w2 hb b2
  have bw2 := bw1.trans (b2.mono bw1.size)
  have ow2 := Own.below ow1 b2
  have hgA2 := Lib.hid (blk_below hgA.out b2)
  have hbA := Lib.hid hb
  have R0 := Lib.hid (Rows.nil w2 w.heap.size w2.heap.size)
  obtain ⟨F, hF⟩ : ∃ F, F = Perms.face := ⟨_, rfl⟩
  have hFl : F.length = 6 := by rw [hF]; decide
  have hF' := Lib.hid hF
  have hFr : Hid (∀ t ∈ F, -100 ≤ t.2.1 ∧ t.2.1 ≤ 100 ∧ -100 ≤ t.2.2 ∧ t.2.2 ≤ 100) := Lib.hid (by rw [hF]; decide)
  have hfl' : Perms.face.length = F.length := by rw [hF]
  rw [hfl'] at hg3 ⊢
  rw [← hF] at hgB
  clear hb hgA hF hfl'
  go_wp2_with fail
  go_loopg [6, 58] 2 (fun gg u6 u58 wr => ∃ (j : Nat) (us : List Value), u58 = .int .i64 j ∧ Own wr w.heap.size 38 u6 us ∧ Hid (Rows wr w.heap.size wr.heap.size us (((Perms.imvs true).take j).map fun mv => permTo F mv F.length)) ∧ Below w.heap.size w wr ∧ Hid (wr.heap[g]? = some (.cells cur 75 (0, 0))) ∧ Hid (wr.heap[b]? = some (.cells mvCells 53 (0, 0))) ∧ j + gg = 2)
  case atStart => exact ⟨0, [], rfl, ow2, R0, bw2, hgA2, hbA, rfl⟩
  case round =>
    obtain ⟨j, us, rfl, oj, rj, bj, gj, fj, hj⟩ := hrel
    obtain ⟨a6, c6, rfl, _, _, _⟩ := Own.form oj
    have husl : us.length ≤ 3 := by rw [rj.out.1, List.length_map, List.length_take]; omega
    by_cases hjn : j < 2
    · have hjI : (j : Int) < 2 := by omega
      obtain ⟨N, hN1, hN2, mv, hmv, hM⟩ := moves_at (j := j) (by omega)
      have hcN := cellOf fj.out hN1
      unfold funcN at hcN
      have hM' := Lib.hid (hM F hFr.out)
      have hmv' := Lib.hid hmv
      have hAt := Lib.hid (hgB.out wr gj.out)
      have hl1 : 1 ≤ F.length := by omega
      have hl8 : F.length ≤ 8 := by omega
      have hcall : Hid (∀ Q : Ending → World → Prop, (∀ v w', OwnInts w' wr.heap.size v (permTo F mv F.length) → Below wr.heap.size wr w' → Q (.returned v) w') → Calls Try.prog 34 #[.slice (some ⟨g, 0, none⟩) 6 cap, .func (.func N) #[] #[]] wr Q) := Lib.hid (by
        intro Q h
        have h2 := permuted_c hAt.out hl1 hl8 hg3 hg4 hN2 hM'.out h
        rw [hFl] at h2
        exact h2)
      clear hM hmv hN1
      go_wp2_with fail
      refine hcall.out _ ?_
      intro v3 w3 o3 b3
      obtain ⟨y, hy⟩ : ∃ y, y = permTo F mv F.length := ⟨_, rfl⟩
      have hst : Hid (((Perms.imvs true).take (j + 1)).map (fun mv => permTo F mv F.length) = ((Perms.imvs true).take j).map (fun mv => permTo F mv F.length) ++ [y]) := Lib.hid (by rw [List.take_add_one, hmv'.out, List.map_append, hy]; rfl)
      rw [← hy] at o3
      clear hy
      obtain ⟨a3, c3, rfl, _, _, _⟩ := Own.form o3
      have bj3 := bj.trans (b3.mono bj.size)
      have ba := below_alloc w3 (.cells #[.slice a3 (ints y).length c3] 38)
      have oj3 := Own.below (Own.below oj b3) ba
      have hr3 := row_one w3 (.slice a3 (ints y).length c3) 38
      have hone : Hid (∀ y' ∈ [Value.slice a3 (ints y).length c3], y'.oneCell' = true) := Lib.hid (fun y' hy' => by rw [List.mem_singleton] at hy'; rw [hy']; rfl)
      have bj4 := bj3.trans (ba.mono bj3.size)
      have oy := Lib.hid (OwnInts.below o3 ba)
      have rj3 := Lib.hid ((rj.out.below b3).below ba)
      have gj3 := Lib.hid (blk_below (blk_below gj.out b3) ba)
      have fj3 := Lib.hid (blk_below (blk_below fj.out b3) ba)
      clear o3
      go_wp2_with (at_builtin; refine app_outer rfl (.tmp 62) (.tmp 66) rfl rfl oj3 rfl hr3 hone.out (by show us.length + 1 ≤ 1099511627776; omega) bj4.size ?_; intro v5 w5 o5 g5)
      have rj5 := Lib.hid ((((rj3.out).push (xs := y) (OwnInts.mono oy.out bj.size) (fun b hb => (Own.lt oy.out hb).1)).outer oj3 g5).tight)
      rw [← hst.out] at rj5
      have bj5 := bj4.grown g5 bj4.size (fun b hb => (Own.lt oj3 hb).1)
      have gj5 := Lib.hid (blk_grown gj3.out (by decide) oj3 g5)
      have fj5 := Lib.hid (blk_grown fj3.out (by decide) oj3 g5)
      go_roundg (gk - 1)
      case measure => omega
      case rel => exact ⟨j + 1, _, by go_num, o5, rj5, bj5, gj5, fj5, by omega⟩
    · obtain rfl : j = 2 := by omega
      have b2 := bj
      have o2' : Hid (RowsAt wr (.slice a6 us.length c6) ((Perms.imvs false).map fun mv => permTo F mv F.length)) := Lib.hid ((rj.out.whole oj (Own.inBlk oj)).at)
      go_wp2_with fail
      refine SolidDegree_i ?_
      rw [hd.out]
      have hW : Hid (Perms.gofW (Nums.sdeg 3) (Perms.igens 3 false) = Perms.gofW 6 ((Perms.imvs false).map fun mv => permTo F mv F.length)) := Lib.hid (by rw [hF'.out]; rfl)
      have hB : Hid (Perms.gofB (Nums.sdeg 3) (Perms.igens 3 false) = Perms.gofB 6 ((Perms.imvs false).map fun mv => permTo F mv F.length)) := Lib.hid (by rw [hF'.out]; rfl)
      go_wp2_with fail
      refine GroupOf_i o2'.out ?_
      intro v3 w3 o3 b3
      rw [← hW.out] at o3
      rw [← hB.out]
      have h3 := Lib.hid (H.out v3 w3 (OwnRows.mono o3 b2.size (Nat.le_refl _)) (b2.trans (b3.mono b2.size)))
      obtain ⟨a3, c3, rfl, _, _, _⟩ := o3.form
      go_wp2_with fail
      exact h3.out
set_option maxHeartbeats 3200000 in
theorem solI_3_true {w : World} {Q : Ending → World → Prop}
    (hQ : ∀ v w', OwnRows w' w.heap.size w'.heap.size v (Perms.gofW (Nums.sdeg 3) (Perms.igens 3 true)) → Below w.heap.size w w' → Q (.returned (.tuple #[v, .bool (Perms.gofB (Nums.sdeg 3) (Perms.igens 3 true))])) w') :
    Calls Try.prog 9 #[.int .i64 3, .bool true] w Q := by
  have H := Lib.hid hQ; clear hQ
  have hd : Hid (Nums.sdeg 3 = 6) := Lib.hid (by decide)
  go_enter Try.func9, Try.ntmps9
  have o0 := own_outer_empty w
  have b0 := below_alloc w (.cells #[] 38)
  go_wp2_with fail
  refine faces_c ?_
  intro v1 w1 q1 b1
  obtain ⟨g, cap, cur, rfl, hg1, hg2, hg3, hg4⟩ := q1.blk (by decide)
  have bw1 := b0.trans (b1.mono b0.size)
  have ow1 := Own.below o0 b1
  have hgA := Lib.hid hg1
  have hgB := Lib.hid hg2
  clear hg1 hg2
  go_wp2_with fail
  refine cubeMoves_c ?_
  intro b w2 hb b2
  have bw2 := bw1.trans (b2.mono bw1.size)
  have ow2 := Own.below ow1 b2
  have hgA2 := Lib.hid (blk_below hgA.out b2)
  have hbA := Lib.hid hb
  have R0 := Lib.hid (Rows.nil w2 w.heap.size w2.heap.size)
  obtain ⟨F, hF⟩ : ∃ F, F = Perms.face := ⟨_, rfl⟩
  have hFl : F.length = 6 := by rw [hF]; decide
  have hF' := Lib.hid hF
  have hFr : Hid (∀ t ∈ F, -100 ≤ t.2.1 ∧ t.2.1 ≤ 100 ∧ -100 ≤ t.2.2 ∧ t.2.2 ≤ 100) := Lib.hid (by rw [hF]; decide)
  have hfl' : Perms.face.length = F.length := by rw [hF]
  rw [hfl'] at hg3 ⊢
  rw [← hF] at hgB
  clear hb hgA hF hfl'
  go_wp2_with fail
  go_loopg [6, 58] 3 (fun gg u6 u58 wr => ∃ (j : Nat) (us : List Value), u58 = .int .i64 j ∧ Own wr w.heap.size 38 u6 us ∧ Hid (Rows wr w.heap.size wr.heap.size us (((Perms.imvs true).take j).map fun mv => permTo F mv F.length)) ∧ Below w.heap.size w wr ∧ Hid (wr.heap[g]? = some (.cells cur 75 (0, 0))) ∧ Hid (wr.heap[b]? = some (.cells mvCells 53 (0, 0))) ∧ j + gg = 3)
  case atStart => exact ⟨0, [], rfl, ow2, R0, bw2, hgA2, hbA, rfl⟩
  case round =>
    obtain ⟨j, us, rfl, oj, rj, bj, gj, fj, hj⟩ := hrel
    obtain ⟨a6, c6, rfl, _, _, _⟩ := Own.form oj
    have husl : us.length ≤ 3 := by rw [rj.out.1, List.length_map, List.length_take]; omega
    by_cases hjn : j < 3
    · have hjI : (j : Int) < 3 := by omega
      obtain ⟨N, hN1, hN2, mv, hmv, hM⟩ := moves_at (j := j) (by omega)
      have hcN := cellOf fj.out hN1
      unfold funcN at hcN
      have hM' := Lib.hid (hM F hFr.out)
      have hmv' := Lib.hid hmv
      have hAt := Lib.hid (hgB.out wr gj.out)
      have hl1 : 1 ≤ F.length := by omega
      have hl8 : F.length ≤ 8 := by omega
      have hcall : Hid (∀ Q : Ending → World → Prop, (∀ v w', OwnInts w' wr.heap.size v (permTo F mv F.length) → Below wr.heap.size wr w' → Q (.returned v) w') → Calls Try.prog 34 #[.slice (some ⟨g, 0, none⟩) 6 cap, .func (.func N) #[] #[]] wr Q) := Lib.hid (by
        intro Q h
        have h2 := permuted_c hAt.out hl1 hl8 hg3 hg4 hN2 hM'.out h
        rw [hFl] at h2
        exact h2)
      clear hM hmv hN1
      go_wp2_with fail
      refine hcall.out _ ?_
      intro v3 w3 o3 b3
      obtain ⟨y, hy⟩ : ∃ y, y = permTo F mv F.length := ⟨_, rfl⟩
      have hst : Hid (((Perms.imvs true).take (j + 1)).map (fun mv => permTo F mv F.length) = ((Perms.imvs true).take j).map (fun mv => permTo F mv F.length) ++ [y]) := Lib.hid (by rw [List.take_add_one, hmv'.out, List.map_append, hy]; rfl)
      rw [← hy] at o3
      clear hy
      obtain ⟨a3, c3, rfl, _, _, _⟩ := Own.form o3
      have bj3 := bj.trans (b3.mono bj.size)
      have ba := below_alloc w3 (.cells #[.slice a3 (ints y).length c3] 38)
      have oj3 := Own.below (Own.below oj b3) ba
      have hr3 := row_one w3 (.slice a3 (ints y).length c3) 38
      have hone : Hid (∀ y' ∈ [Value.slice a3 (ints y).length c3], y'.oneCell' = true) := Lib.hid (fun y' hy' => by rw [List.mem_singleton] at hy'; rw [hy']; rfl)
      have bj4 := bj3.trans (ba.mono bj3.size)
      have oy := Lib.hid (OwnInts.below o3 ba)
      have rj3 := Lib.hid ((rj.out.below b3).below ba)
      have gj3 := Lib.hid (blk_below (blk_below gj.out b3) ba)
      have fj3 := Lib.hid (blk_below (blk_below fj.out b3) ba)
      clear o3
      go_wp2_with (at_builtin; refine app_outer rfl (.tmp 62) (.tmp 66) rfl rfl oj3 rfl hr3 hone.out (by show us.length + 1 ≤ 1099511627776; omega) bj4.size ?_; intro v5 w5 o5 g5)
      have rj5 := Lib.hid ((((rj3.out).push (xs := y) (OwnInts.mono oy.out bj.size) (fun b hb => (Own.lt oy.out hb).1)).outer oj3 g5).tight)
      rw [← hst.out] at rj5
      have bj5 := bj4.grown g5 bj4.size (fun b hb => (Own.lt oj3 hb).1)
      have gj5 := Lib.hid (blk_grown gj3.out (by decide) oj3 g5)
      have fj5 := Lib.hid (blk_grown fj3.out (by decide) oj3 g5)
      go_roundg (gk - 1)
      case measure => omega
      case rel => exact ⟨j + 1, _, by go_num, o5, rj5, bj5, gj5, fj5, by omega⟩
    · obtain rfl : j = 3 := by omega
      have b2 := bj
      have o2' : Hid (RowsAt wr (.slice a6 us.length c6) ((Perms.imvs true).map fun mv => permTo F mv F.length)) := Lib.hid ((rj.out.whole oj (Own.inBlk oj)).at)
      go_wp2_with fail
      refine SolidDegree_i ?_
      rw [hd.out]
      have hW : Hid (Perms.gofW (Nums.sdeg 3) (Perms.igens 3 true) = Perms.gofW 6 ((Perms.imvs true).map fun mv => permTo F mv F.length)) := Lib.hid (by rw [hF'.out]; rfl)
      have hB : Hid (Perms.gofB (Nums.sdeg 3) (Perms.igens 3 true) = Perms.gofB 6 ((Perms.imvs true).map fun mv => permTo F mv F.length)) := Lib.hid (by rw [hF'.out]; rfl)
      go_wp2_with fail
      refine GroupOf_i o2'.out ?_
      intro v3 w3 o3 b3
      rw [← hW.out] at o3
      rw [← hB.out]
      have h3 := Lib.hid (H.out v3 w3 (OwnRows.mono o3 b2.size (Nat.le_refl _)) (b2.trans (b3.mono b2.size)))
      obtain ⟨a3, c3, rfl, _, _, _⟩ := o3.form
      go_wp2_with fail
      exact h3.out
set_option maxHeartbeats 3200000 in
theorem solI_4_false {w : World} {Q : Ending → World → Prop}
    (hQ : ∀ v w', OwnRows w' w.heap.size w'.heap.size v (Perms.gofW (Nums.sdeg 4) (Perms.igens 4 false)) → Below w.heap.size w w' → Q (.returned (.tuple #[v, .bool (Perms.gofB (Nums.sdeg 4) (Perms.igens 4 false))])) w') :
    Calls Try.prog 9 #[.int .i64 4, .bool false] w Q := by
  have H := Lib.hid hQ; clear hQ
  have hd : Hid (Nums.sdeg 4 = 8) := Lib.hid (by decide)
  go_enter Try.func9, Try.ntmps9
  have o0 := own_outer_empty w
  have b0 := below_alloc w (.cells #[] 38)
  go_wp2_with fail
  refine faces_c ?_
  intro v1 w1 q1 b1
  obtain ⟨g0, cap0, cur0, rfl, _, _, _, _⟩ := q1.blk (by decide)
  clear q1
  go_wp2_with fail
  refine corners_c ?_
  intro v1' w1' q1' b1'
  obtain ⟨g, cap, cur, rfl, hg1, hg2, hg3, hg4⟩ := q1'.blk (by decide)
  have bw1 := (b0.trans (b1.mono b0.size)).trans (b1'.mono (b0.trans (b1.mono b0.size)).size)
  have ow1 := Own.below (Own.below o0 b1) b1'
  have hgA := Lib.hid hg1
  have hgB := Lib.hid hg2
  clear hg1 hg2
  go_wp2_with fail
  refine cubeMoves_c ?_
  intro b w2 hb b2
  have bw2 := bw1.trans (b2.mono bw1.size)
  have ow2 := Own.below ow1 b2
  have hgA2 := Lib.hid (blk_below hgA.out b2)
  have hbA := Lib.hid hb
  have R0 := Lib.hid (Rows.nil w2 w.heap.size w2.heap.size)
  obtain ⟨F, hF⟩ : ∃ F, F = (Perms.cornTo 8) := ⟨_, rfl⟩
  have hFl : F.length = 8 := by rw [hF]; decide
  have hF' := Lib.hid hF
  have hFr : Hid (∀ t ∈ F, -100 ≤ t.2.1 ∧ t.2.1 ≤ 100 ∧ -100 ≤ t.2.2 ∧ t.2.2 ≤ 100) := Lib.hid (by rw [hF]; decide)
  have hfl' : (Perms.cornTo 8).length = F.length := by rw [hF]
  rw [hfl'] at hg3 ⊢
  rw [← hF] at hgB
  clear hb hgA hF hfl'
  go_wp2_with fail
  go_loopg [6, 58] 2 (fun gg u6 u58 wr => ∃ (j : Nat) (us : List Value), u58 = .int .i64 j ∧ Own wr w.heap.size 38 u6 us ∧ Hid (Rows wr w.heap.size wr.heap.size us (((Perms.imvs true).take j).map fun mv => permTo F mv F.length)) ∧ Below w.heap.size w wr ∧ Hid (wr.heap[g]? = some (.cells cur 75 (0, 0))) ∧ Hid (wr.heap[b]? = some (.cells mvCells 53 (0, 0))) ∧ j + gg = 2)
  case atStart => exact ⟨0, [], rfl, ow2, R0, bw2, hgA2, hbA, rfl⟩
  case round =>
    obtain ⟨j, us, rfl, oj, rj, bj, gj, fj, hj⟩ := hrel
    obtain ⟨a6, c6, rfl, _, _, _⟩ := Own.form oj
    have husl : us.length ≤ 3 := by rw [rj.out.1, List.length_map, List.length_take]; omega
    by_cases hjn : j < 2
    · have hjI : (j : Int) < 2 := by omega
      obtain ⟨N, hN1, hN2, mv, hmv, hM⟩ := moves_at (j := j) (by omega)
      have hcN := cellOf fj.out hN1
      unfold funcN at hcN
      have hM' := Lib.hid (hM F hFr.out)
      have hmv' := Lib.hid hmv
      have hAt := Lib.hid (hgB.out wr gj.out)
      have hl1 : 1 ≤ F.length := by omega
      have hl8 : F.length ≤ 8 := by omega
      have hcall : Hid (∀ Q : Ending → World → Prop, (∀ v w', OwnInts w' wr.heap.size v (permTo F mv F.length) → Below wr.heap.size wr w' → Q (.returned v) w') → Calls Try.prog 34 #[.slice (some ⟨g, 0, none⟩) 8 cap, .func (.func N) #[] #[]] wr Q) := Lib.hid (by
        intro Q h
        have h2 := permuted_c hAt.out hl1 hl8 hg3 hg4 hN2 hM'.out h
        rw [hFl] at h2
        exact h2)
      clear hM hmv hN1
      go_wp2_with fail
      refine hcall.out _ ?_
      intro v3 w3 o3 b3
      obtain ⟨y, hy⟩ : ∃ y, y = permTo F mv F.length := ⟨_, rfl⟩
      have hst : Hid (((Perms.imvs true).take (j + 1)).map (fun mv => permTo F mv F.length) = ((Perms.imvs true).take j).map (fun mv => permTo F mv F.length) ++ [y]) := Lib.hid (by rw [List.take_add_one, hmv'.out, List.map_append, hy]; rfl)
      rw [← hy] at o3
      clear hy
      obtain ⟨a3, c3, rfl, _, _, _⟩ := Own.form o3
      have bj3 := bj.trans (b3.mono bj.size)
      have ba := below_alloc w3 (.cells #[.slice a3 (ints y).length c3] 38)
      have oj3 := Own.below (Own.below oj b3) ba
      have hr3 := row_one w3 (.slice a3 (ints y).length c3) 38
      have hone : Hid (∀ y' ∈ [Value.slice a3 (ints y).length c3], y'.oneCell' = true) := Lib.hid (fun y' hy' => by rw [List.mem_singleton] at hy'; rw [hy']; rfl)
      have bj4 := bj3.trans (ba.mono bj3.size)
      have oy := Lib.hid (OwnInts.below o3 ba)
      have rj3 := Lib.hid ((rj.out.below b3).below ba)
      have gj3 := Lib.hid (blk_below (blk_below gj.out b3) ba)
      have fj3 := Lib.hid (blk_below (blk_below fj.out b3) ba)
      clear o3
      go_wp2_with (at_builtin; refine app_outer rfl (.tmp 62) (.tmp 66) rfl rfl oj3 rfl hr3 hone.out (by show us.length + 1 ≤ 1099511627776; omega) bj4.size ?_; intro v5 w5 o5 g5)
      have rj5 := Lib.hid ((((rj3.out).push (xs := y) (OwnInts.mono oy.out bj.size) (fun b hb => (Own.lt oy.out hb).1)).outer oj3 g5).tight)
      rw [← hst.out] at rj5
      have bj5 := bj4.grown g5 bj4.size (fun b hb => (Own.lt oj3 hb).1)
      have gj5 := Lib.hid (blk_grown gj3.out (by decide) oj3 g5)
      have fj5 := Lib.hid (blk_grown fj3.out (by decide) oj3 g5)
      go_roundg (gk - 1)
      case measure => omega
      case rel => exact ⟨j + 1, _, by go_num, o5, rj5, bj5, gj5, fj5, by omega⟩
    · obtain rfl : j = 2 := by omega
      have b2 := bj
      have o2' : Hid (RowsAt wr (.slice a6 us.length c6) ((Perms.imvs false).map fun mv => permTo F mv F.length)) := Lib.hid ((rj.out.whole oj (Own.inBlk oj)).at)
      go_wp2_with fail
      refine SolidDegree_i ?_
      rw [hd.out]
      have hW : Hid (Perms.gofW (Nums.sdeg 4) (Perms.igens 4 false) = Perms.gofW 8 ((Perms.imvs false).map fun mv => permTo F mv F.length)) := Lib.hid (by rw [hF'.out]; rfl)
      have hB : Hid (Perms.gofB (Nums.sdeg 4) (Perms.igens 4 false) = Perms.gofB 8 ((Perms.imvs false).map fun mv => permTo F mv F.length)) := Lib.hid (by rw [hF'.out]; rfl)
      go_wp2_with fail
      refine GroupOf_i o2'.out ?_
      intro v3 w3 o3 b3
      rw [← hW.out] at o3
      rw [← hB.out]
      have h3 := Lib.hid (H.out v3 w3 (OwnRows.mono o3 b2.size (Nat.le_refl _)) (b2.trans (b3.mono b2.size)))
      obtain ⟨a3, c3, rfl, _, _, _⟩ := o3.form
      go_wp2_with fail
      exact h3.out
set_option maxHeartbeats 3200000 in
theorem solI_4_true {w : World} {Q : Ending → World → Prop}
    (hQ : ∀ v w', OwnRows w' w.heap.size w'.heap.size v (Perms.gofW (Nums.sdeg 4) (Perms.igens 4 true)) → Below w.heap.size w w' → Q (.returned (.tuple #[v, .bool (Perms.gofB (Nums.sdeg 4) (Perms.igens 4 true))])) w') :
    Calls Try.prog 9 #[.int .i64 4, .bool true] w Q := by
  have H := Lib.hid hQ; clear hQ
  have hd : Hid (Nums.sdeg 4 = 8) := Lib.hid (by decide)
  go_enter Try.func9, Try.ntmps9
  have o0 := own_outer_empty w
  have b0 := below_alloc w (.cells #[] 38)
  go_wp2_with fail
  refine faces_c ?_
  intro v1 w1 q1 b1
  obtain ⟨g0, cap0, cur0, rfl, _, _, _, _⟩ := q1.blk (by decide)
  clear q1
  go_wp2_with fail
  refine corners_c ?_
  intro v1' w1' q1' b1'
  obtain ⟨g, cap, cur, rfl, hg1, hg2, hg3, hg4⟩ := q1'.blk (by decide)
  have bw1 := (b0.trans (b1.mono b0.size)).trans (b1'.mono (b0.trans (b1.mono b0.size)).size)
  have ow1 := Own.below (Own.below o0 b1) b1'
  have hgA := Lib.hid hg1
  have hgB := Lib.hid hg2
  clear hg1 hg2
  go_wp2_with fail
  refine cubeMoves_c ?_
  intro b w2 hb b2
  have bw2 := bw1.trans (b2.mono bw1.size)
  have ow2 := Own.below ow1 b2
  have hgA2 := Lib.hid (blk_below hgA.out b2)
  have hbA := Lib.hid hb
  have R0 := Lib.hid (Rows.nil w2 w.heap.size w2.heap.size)
  obtain ⟨F, hF⟩ : ∃ F, F = (Perms.cornTo 8) := ⟨_, rfl⟩
  have hFl : F.length = 8 := by rw [hF]; decide
  have hF' := Lib.hid hF
  have hFr : Hid (∀ t ∈ F, -100 ≤ t.2.1 ∧ t.2.1 ≤ 100 ∧ -100 ≤ t.2.2 ∧ t.2.2 ≤ 100) := Lib.hid (by rw [hF]; decide)
  have hfl' : (Perms.cornTo 8).length = F.length := by rw [hF]
  rw [hfl'] at hg3 ⊢
  rw [← hF] at hgB
  clear hb hgA hF hfl'
  go_wp2_with fail
  go_loopg [6, 58] 3 (fun gg u6 u58 wr => ∃ (j : Nat) (us : List Value), u58 = .int .i64 j ∧ Own wr w.heap.size 38 u6 us ∧ Hid (Rows wr w.heap.size wr.heap.size us (((Perms.imvs true).take j).map fun mv => permTo F mv F.length)) ∧ Below w.heap.size w wr ∧ Hid (wr.heap[g]? = some (.cells cur 75 (0, 0))) ∧ Hid (wr.heap[b]? = some (.cells mvCells 53 (0, 0))) ∧ j + gg = 3)
  case atStart => exact ⟨0, [], rfl, ow2, R0, bw2, hgA2, hbA, rfl⟩
  case round =>
    obtain ⟨j, us, rfl, oj, rj, bj, gj, fj, hj⟩ := hrel
    obtain ⟨a6, c6, rfl, _, _, _⟩ := Own.form oj
    have husl : us.length ≤ 3 := by rw [rj.out.1, List.length_map, List.length_take]; omega
    by_cases hjn : j < 3
    · have hjI : (j : Int) < 3 := by omega
      obtain ⟨N, hN1, hN2, mv, hmv, hM⟩ := moves_at (j := j) (by omega)
      have hcN := cellOf fj.out hN1
      unfold funcN at hcN
      have hM' := Lib.hid (hM F hFr.out)
      have hmv' := Lib.hid hmv
      have hAt := Lib.hid (hgB.out wr gj.out)
      have hl1 : 1 ≤ F.length := by omega
      have hl8 : F.length ≤ 8 := by omega
      have hcall : Hid (∀ Q : Ending → World → Prop, (∀ v w', OwnInts w' wr.heap.size v (permTo F mv F.length) → Below wr.heap.size wr w' → Q (.returned v) w') → Calls Try.prog 34 #[.slice (some ⟨g, 0, none⟩) 8 cap, .func (.func N) #[] #[]] wr Q) := Lib.hid (by
        intro Q h
        have h2 := permuted_c hAt.out hl1 hl8 hg3 hg4 hN2 hM'.out h
        rw [hFl] at h2
        exact h2)
      clear hM hmv hN1
      go_wp2_with fail
      refine hcall.out _ ?_
      intro v3 w3 o3 b3
      obtain ⟨y, hy⟩ : ∃ y, y = permTo F mv F.length := ⟨_, rfl⟩
      have hst : Hid (((Perms.imvs true).take (j + 1)).map (fun mv => permTo F mv F.length) = ((Perms.imvs true).take j).map (fun mv => permTo F mv F.length) ++ [y]) := Lib.hid (by rw [List.take_add_one, hmv'.out, List.map_append, hy]; rfl)
      rw [← hy] at o3
      clear hy
      obtain ⟨a3, c3, rfl, _, _, _⟩ := Own.form o3
      have bj3 := bj.trans (b3.mono bj.size)
      have ba := below_alloc w3 (.cells #[.slice a3 (ints y).length c3] 38)
      have oj3 := Own.below (Own.below oj b3) ba
      have hr3 := row_one w3 (.slice a3 (ints y).length c3) 38
      have hone : Hid (∀ y' ∈ [Value.slice a3 (ints y).length c3], y'.oneCell' = true) := Lib.hid (fun y' hy' => by rw [List.mem_singleton] at hy'; rw [hy']; rfl)
      have bj4 := bj3.trans (ba.mono bj3.size)
      have oy := Lib.hid (OwnInts.below o3 ba)
      have rj3 := Lib.hid ((rj.out.below b3).below ba)
      have gj3 := Lib.hid (blk_below (blk_below gj.out b3) ba)
      have fj3 := Lib.hid (blk_below (blk_below fj.out b3) ba)
      clear o3
      go_wp2_with (at_builtin; refine app_outer rfl (.tmp 62) (.tmp 66) rfl rfl oj3 rfl hr3 hone.out (by show us.length + 1 ≤ 1099511627776; omega) bj4.size ?_; intro v5 w5 o5 g5)
      have rj5 := Lib.hid ((((rj3.out).push (xs := y) (OwnInts.mono oy.out bj.size) (fun b hb => (Own.lt oy.out hb).1)).outer oj3 g5).tight)
      rw [← hst.out] at rj5
      have bj5 := bj4.grown g5 bj4.size (fun b hb => (Own.lt oj3 hb).1)
      have gj5 := Lib.hid (blk_grown gj3.out (by decide) oj3 g5)
      have fj5 := Lib.hid (blk_grown fj3.out (by decide) oj3 g5)
      go_roundg (gk - 1)
      case measure => omega
      case rel => exact ⟨j + 1, _, by go_num, o5, rj5, bj5, gj5, fj5, by omega⟩
    · obtain rfl : j = 3 := by omega
      have b2 := bj
      have o2' : Hid (RowsAt wr (.slice a6 us.length c6) ((Perms.imvs true).map fun mv => permTo F mv F.length)) := Lib.hid ((rj.out.whole oj (Own.inBlk oj)).at)
      go_wp2_with fail
      refine SolidDegree_i ?_
      rw [hd.out]
      have hW : Hid (Perms.gofW (Nums.sdeg 4) (Perms.igens 4 true) = Perms.gofW 8 ((Perms.imvs true).map fun mv => permTo F mv F.length)) := Lib.hid (by rw [hF'.out]; rfl)
      have hB : Hid (Perms.gofB (Nums.sdeg 4) (Perms.igens 4 true) = Perms.gofB 8 ((Perms.imvs true).map fun mv => permTo F mv F.length)) := Lib.hid (by rw [hF'.out]; rfl)
      go_wp2_with fail
      refine GroupOf_i o2'.out ?_
      intro v3 w3 o3 b3
      rw [← hW.out] at o3
      rw [← hB.out]
      have h3 := Lib.hid (H.out v3 w3 (OwnRows.mono o3 b2.size (Nat.le_refl _)) (b2.trans (b3.mono b2.size)))
      obtain ⟨a3, c3, rfl, _, _, _⟩ := o3.form
      go_wp2_with fail
      exact h3.out
theorem SolidGroup_i {k : Int} {m : Bool} {w : World} {Q : Ending → World → Prop}
    (hQ : ∀ v w', OwnRows w' w.heap.size w'.heap.size v (Perms.solW k m) → Below w.heap.size w w' → Q (.returned (.tuple #[v, .bool (Perms.solB k m)])) w') :
    Calls Try.prog 9 #[.int .i64 k, .bool m] w Q := by
  by_cases hk : 1 ≤ k ∧ k ≤ 4
  · obtain ⟨e1, e2⟩ := Perms.same k m hk
    rw [← e1, ← e2] at hQ
    clear e1 e2
    obtain rfl | rfl | rfl | rfl : k = 1 ∨ k = 2 ∨ k = 3 ∨ k = 4 := by omega
    · cases m
      · exact solI_1_false hQ
      · exact solI_1_true hQ
    · cases m
      · exact solI_2_false hQ
      · exact solI_2_true hQ
    · cases m
      · exact solI_3_false hQ
      · exact solI_3_true hQ
    · cases m
      · exact solI_4_false hQ
      · exact solI_4_true hQ
  · have b0 := below_alloc w (.cells #[] 38)
    have h2 := hQ (.slice none 0 0) _ (by unfold Perms.solW Perms.solO; rw [if_neg hk]; exact OwnRows.nil _ _ _) b0
    unfold Perms.solB Perms.solO at h2
    rw [if_neg hk] at h2
    have h3 := Lib.hid h2
    have hk1 : (k == 1) = false := by rw [beq_eq_false_iff_ne]; omega
    have hk2 : (k == 2) = false := by rw [beq_eq_false_iff_ne]; omega
    have hk3 : (k == 3) = false := by rw [beq_eq_false_iff_ne]; omega
    have hk4 : (k == 4) = false := by rw [beq_eq_false_iff_ne]; omega
    clear hk h2 hQ
    go_enter Try.func9, Try.ntmps9
    go_wp2_with fail
    exact h3.out
end Go.Proofs.Ytdjdagcgodpgdaa
/- The patterns of colors on a solid: both sides. -/
set_option linter.unusedVariables false
namespace Go.Proofs.Ytdjdagcgodpgdaa
open Go.RowKit

theorem Perms.sol_none {k : Int} {m : Bool} (h : Perms.solB k m = false) : Perms.solW k m = [] := by
  unfold Perms.solW
  unfold Perms.solB at h
  cases e : Perms.solO k m with
  | none => rfl
  | some x => rw [e] at h; cases h
theorem SolidPatterns_i {k c : Int} {w : World} {Q : Ending → World → Prop}
    (hQ : ∀ v w', OwnRows w' w.heap.size w'.heap.size v (Perms.patsW (Perms.solW k false) c) → Below w.heap.size w w' → Q (.returned (.tuple #[v, .bool (Perms.smallB (Perms.solW k false) c)])) w') :
    Calls Try.prog 23 #[.int .i64 k, .int .i64 c] w Q := by
  have H := Lib.hid hQ; clear hQ
  go_enter Try.func23, Try.ntmps23
  go_wp2_with fail
  refine SolidGroup_i ?_
  intro v1 w1 o1 b1
  have o1' := Lib.hid o1.at
  obtain ⟨a1, c1, rfl, _, _, _⟩ := o1.form
  clear o1
  cases hb : Perms.solB k false with
  | false =>
    have e1 : Perms.patsW (Perms.solW k false) c = [] := by rw [Perms.sol_none hb]; rfl
    have e2 : Perms.smallB (Perms.solW k false) c = false := by rw [Perms.sol_none hb]; rfl
    have h2 := H.out (.slice none 0 0) w1 (by rw [e1]; exact OwnRows.nil _ _ _) b1
    rw [e2] at h2
    have h3 := Lib.hid h2
    clear hb h2 e1 e2
    go_wp2_with fail
    exact h3.out
  | true =>
    clear hb
    go_wp2_with fail
    refine PatternsOf_i o1'.out ?_
    intro v2 w2 o2 b2
    have h3 := Lib.hid (H.out v2 w2 (OwnRows.mono o2 b1.size (Nat.le_refl _)) (b1.trans (b2.mono b1.size)))
    obtain ⟨a2, c2, rfl, _, _, _⟩ := o2.form
    go_wp2_with fail
    exact h3.out
end Go.Proofs.Ytdjdagcgodpgdaa
/- How many colorings of a solid there are, and the laws on them. -/
set_option linter.unusedVariables false
namespace Go.Proofs.Ytdjdagcgodpgdaa
open Go.RowKit

def Perms.csol (k : Int) (m : Bool) (c : Int) : Int := Perms.colO (Perms.solW k m) c
theorem Perms.col_nil (c : Int) : Perms.colO [] c = -1 := by
  unfold Perms.colO
  have h : Perms.grpB [] = false := by decide
  rw [h, if_neg (by simp)]
theorem Perms.csol_bad {k : Int} {m : Bool} (h : Perms.solB k m = false) (c : Int) : Perms.csol k m c = -1 := by
  unfold Perms.csol Perms.solW
  unfold Perms.solB at h
  cases e : Perms.solO k m with
  | none => exact Perms.col_nil c
  | some x => rw [e] at h; cases h
theorem Perms.sol_grp {k : Int} (hk : 1 ≤ k ∧ k ≤ 4) (m : Bool) : Perms.grpB (Perms.solW k m) = true := by
  obtain rfl | rfl | rfl | rfl : k = 1 ∨ k = 2 ∨ k = 3 ∨ k = 4 := by omega
  all_goals (cases m <;> decide +kernel)
theorem Perms.csol_neg (k : Int) (m : Bool) (c : Int) : Perms.csol k m c < 0 ↔ ¬ ((1 ≤ k ∧ k ≤ 4) ∧ 0 ≤ c ∧ c ≤ 4) := by
  by_cases hk : 1 ≤ k ∧ k ≤ 4
  · have hg := Perms.sol_grp hk m
    by_cases hc : 0 ≤ c ∧ c ≤ 4
    · have e : Perms.csol k m c = Perms.sumTo (Perms.solW k m) c (Perms.solW k m).length / (Perms.solW k m).length := by unfold Perms.csol Perms.colO; rw [if_pos ⟨hg, hc⟩]
      have := Int.ediv_nonneg (Perms.sum_bd (Perms.solW k m) hc.1 hc.2 (Perms.solW k m).length).1 (show (0 : Int) ≤ (Perms.solW k m).length by omega)
      rw [e]
      constructor
      · intro h; omega
      · intro h; exact absurd ⟨hk, hc⟩ h
    · have e : Perms.csol k m c = -1 := by unfold Perms.csol Perms.colO; rw [if_neg (fun h => hc h.2)]
      rw [e]
      exact ⟨fun _ h => hc h.2, fun _ => by decide⟩
  · have e : Perms.csol k m c = -1 := Perms.csol_bad (by unfold Perms.solB Perms.solO; rw [if_neg hk]; rfl) c
    rw [e]
    exact ⟨fun _ h => hk h.1, fun _ => by decide⟩
theorem Perms.csol_bd (k : Int) (m : Bool) (c : Int) : -1 ≤ Perms.csol k m c ∧ Perms.csol k m c ≤ 125829120 := by
  unfold Perms.csol Perms.colO
  by_cases h : Perms.grpB (Perms.solW k m) = true ∧ 0 ≤ c ∧ c ≤ 4
  · rw [if_pos h]
    obtain ⟨hl1, hl2, _, _⟩ := Perms.grpB_parts h.1
    have hb := Perms.sum_bd (Perms.solW k m) h.2.1 h.2.2 (Perms.solW k m).length
    have h1 := Int.ediv_nonneg hb.1 (show (0 : Int) ≤ (Perms.solW k m).length by omega)
    have h2 := Int.ediv_le_self ((Perms.solW k m).length : Int) hb.1
    omega
  · rw [if_neg h]; omega
theorem CountSolid_s {k c : Int} {m : Bool} {w : World} {Q : Ending → World → Prop}
    (hQ : ∀ w', Below w.heap.size w w' → Q (.returned (.int .i64 (Perms.csol k m c))) w') :
    Calls Try.prog 13 #[.int .i64 k, .bool m, .int .i64 c] w Q := by
  have H := Lib.hid hQ; clear hQ
  go_enter Try.func13, Try.ntmps13
  go_wp2_with fail
  refine SolidGroup_s ?_
  intro v1 w1 o1 b1
  have o1' := Lib.hid o1.at
  obtain ⟨a1, c1, rfl, _, _, _⟩ := o1.form
  clear o1
  go_wp2_with fail
  refine CountColorings_s o1'.out ?_
  intro w2 b2
  have h3 := Lib.hid (H.out w2 (b1.trans (b2.mono b1.size)))
  unfold Perms.csol at h3
  go_wp2_with fail
  exact h3.out
theorem CountSolid_i {k c : Int} {m : Bool} {w : World} {Q : Ending → World → Prop}
    (hQ : ∀ w', Below w.heap.size w w' → Q (.returned (.int .i64 (Perms.csol k m c))) w') :
    Calls Try.prog 14 #[.int .i64 k, .bool m, .int .i64 c] w Q := by
  have H := Lib.hid hQ; clear hQ
  go_enter Try.func14, Try.ntmps14
  go_wp2_with fail
  refine SolidGroup_i ?_
  intro v1 w1 o1 b1
  have o1' := Lib.hid o1.at
  obtain ⟨a1, c1, rfl, _, _, _⟩ := o1.form
  clear o1
  cases hb : Perms.solB k m with
  | false =>
    have h2 := H.out w1 b1
    rw [Perms.csol_bad hb c] at h2
    have h3 := Lib.hid h2
    clear hb h2
    go_wp2_with fail
    exact h3.out
  | true =>
    clear hb
    go_wp2_with fail
    refine CountColorings_i o1'.out ?_
    intro w2 b2
    have h3 := Lib.hid (H.out w2 (b1.trans (b2.mono b1.size)))
    unfold Perms.csol at h3
    go_wp2_with fail
    exact h3.out
def Perms.hnd (k c : Int) : Int := if (1 ≤ k ∧ k ≤ 4) ∧ 0 ≤ c ∧ c ≤ 4 then Perms.csol k false c - Perms.csol k true c else -1
theorem HandedSolids_s {k c : Int} {w : World} {Q : Ending → World → Prop}
    (hQ : ∀ w', Below w.heap.size w w' → Q (.returned (.int .i64 (Perms.hnd k c))) w') :
    Calls Try.prog 15 #[.int .i64 k, .int .i64 c] w Q := by
  have H := Lib.hid hQ; clear hQ
  have hn := Perms.csol_neg k false c
  have d1 := Perms.csol_bd k false c
  have d2 := Perms.csol_bd k true c
  have hh : Perms.hnd k c = if (1 ≤ k ∧ k ≤ 4) ∧ 0 ≤ c ∧ c ≤ 4 then Perms.csol k false c - Perms.csol k true c else -1 := rfl
  obtain ⟨A, hA⟩ : ∃ A, A = Perms.csol k false c := ⟨_, rfl⟩
  obtain ⟨B, hB⟩ : ∃ B, B = Perms.csol k true c := ⟨_, rfl⟩
  rw [← hA] at hn hh d1
  rw [← hB] at hh d2
  have hA' := Lib.hid hA
  have hB' := Lib.hid hB
  by_cases hc : (1 ≤ k ∧ k ≤ 4) ∧ 0 ≤ c ∧ c ≤ 4
  · rw [if_pos hc] at hh
    have hA0 : 0 ≤ A := by have := (not_congr hn).2 (fun h => h hc); omega
    rw [hh] at H
    clear hA hB hh hn hc
    go_enter Try.func15, Try.ntmps15
    go_wp2_with fail
    refine CountSolid_s ?_
    intro w1 b1
    rw [← hA'.out]
    go_wp2_with fail
    refine CountSolid_s ?_
    intro w2 b2
    rw [← hB'.out]
    have h3 := Lib.hid (H.out w2 (b1.trans (b2.mono b1.size)))
    go_wp2_with fail
    exact h3.out
  · rw [if_neg hc] at hh
    have hA0 : A < 0 := hn.2 hc
    rw [hh] at H
    clear hA hB hh hn hc
    go_enter Try.func15, Try.ntmps15
    go_wp2_with fail
    refine CountSolid_s ?_
    intro w1 b1
    rw [← hA'.out]
    have h3 := Lib.hid (H.out w1 b1)
    go_wp2_with fail
    exact h3.out
theorem HandedSolids_i {k c : Int} {w : World} {Q : Ending → World → Prop}
    (hQ : ∀ w', Below w.heap.size w w' → Q (.returned (.int .i64 (Perms.hnd k c))) w') :
    Calls Try.prog 16 #[.int .i64 k, .int .i64 c] w Q := by
  have H := Lib.hid hQ; clear hQ
  have hn := Perms.csol_neg k true c
  have d1 := Perms.csol_bd k false c
  have d2 := Perms.csol_bd k true c
  have hh : Perms.hnd k c = if (1 ≤ k ∧ k ≤ 4) ∧ 0 ≤ c ∧ c ≤ 4 then Perms.csol k false c - Perms.csol k true c else -1 := rfl
  obtain ⟨A, hA⟩ : ∃ A, A = Perms.csol k false c := ⟨_, rfl⟩
  obtain ⟨B, hB⟩ : ∃ B, B = Perms.csol k true c := ⟨_, rfl⟩
  rw [← hA] at hh d1
  rw [← hB] at hn hh d2
  have hA' := Lib.hid hA
  have hB' := Lib.hid hB
  by_cases hc : (1 ≤ k ∧ k ≤ 4) ∧ 0 ≤ c ∧ c ≤ 4
  · rw [if_pos hc] at hh
    have hA0 : 0 ≤ B := by have := (not_congr hn).2 (fun h => h hc); omega
    rw [hh] at H
    clear hA hB hh hn hc
    go_enter Try.func16, Try.ntmps16
    go_wp2_with fail
    refine CountSolid_i ?_
    intro w1 b1
    rw [← hB'.out]
    go_wp2_with fail
    refine CountSolid_i ?_
    intro w2 b2
    rw [← hA'.out]
    go_wp2_with fail
    refine CountSolid_i ?_
    intro w3 b3
    rw [← hB'.out]
    have b12 := b1.trans (b2.mono b1.size)
    have h3 := Lib.hid (H.out w3 (b12.trans (b3.mono b12.size)))
    go_wp2_with fail
    exact h3.out
  · rw [if_neg hc] at hh
    have hA0 : B < 0 := hn.2 hc
    rw [hh] at H
    clear hA hB hh hn hc
    go_enter Try.func16, Try.ntmps16
    go_wp2_with fail
    refine CountSolid_i ?_
    intro w1 b1
    rw [← hB'.out]
    have h3 := Lib.hid (H.out w1 b1)
    go_wp2_with fail
    exact h3.out
end Go.Proofs.Ytdjdagcgodpgdaa
/- The classes of the motions of a solid body: the cycle index of its group. -/
set_option linter.unusedVariables false
namespace Go.Proofs.Ytdjdagcgodpgdaa
open Go.RowKit

/-- The types of a group's elements and their numbers, ascending. -/
def Perms.cixX (g : List (List Int)) : List (List Int) := (Perms.spTo g g.length).1
def Perms.cixC (g : List (List Int)) : List Int := (Perms.spTo g g.length).2
structure Perms.Cixs (g : List (List Int)) : Prop where
  grp : Perms.grpB g = true
  cyc : ∀ p ∈ g, Perms.cycN p
  sort : Perms.Sorts g (Perms.cixX g) (Perms.cixC g)
  pos : 0 < (Perms.cixX g).length
  small : (Perms.cixX g).length ≤ 200 ∧ ∀ x ∈ Perms.cixX g, x.length ≤ 200
theorem Perms.sorts_of {g : List (List Int)} (h1 : (Perms.cixC g).length = (Perms.cixX g).length) (h2 : ((Perms.cixX g).zip (Perms.cixC g)).isPerm ((Perms.ciTo g g.length).1.zip (Perms.ciTo g g.length).2) = true) (h3 : (Perms.cixX g).Pairwise fun a b => Words.cmpL a b < 0) : Perms.Sorts g (Perms.cixX g) (Perms.cixC g) := ⟨h1, List.isPerm_iff.1 h2, h3⟩
theorem Perms.cixs {k : Int} (hk : 1 ≤ k ∧ k ≤ 4) : Perms.Cixs (Perms.solW k false) := by
  rcases (show k = 1 ∨ k = 2 ∨ k = 3 ∨ k = 4 by omega) with rfl | rfl | rfl | rfl
  · exact ⟨by decide +kernel, by unfold Perms.cycN; decide +kernel, Perms.sorts_of (by decide +kernel) (by decide +kernel) (by decide +kernel), by decide +kernel, by decide +kernel⟩
  · exact ⟨by decide +kernel, by unfold Perms.cycN; decide +kernel, Perms.sorts_of (by decide +kernel) (by decide +kernel) (by decide +kernel), by decide +kernel, by decide +kernel⟩
  · exact ⟨by decide +kernel, by unfold Perms.cycN; decide +kernel, Perms.sorts_of (by decide +kernel) (by decide +kernel) (by decide +kernel), by decide +kernel, by decide +kernel⟩
  · exact ⟨by decide +kernel, by unfold Perms.cycN; decide +kernel, Perms.sorts_of (by decide +kernel) (by decide +kernel) (by decide +kernel), by decide +kernel, by decide +kernel⟩
theorem Perms.sol_nil {k : Int} (hk : ¬ (1 ≤ k ∧ k ≤ 4)) : Perms.solW k false = [] ∧ Perms.solB k false = false := by
  unfold Perms.solW Perms.solB Perms.solO
  rw [if_neg hk]
  exact ⟨rfl, rfl⟩
theorem Perms.solB_yes {k : Int} (hk : 1 ≤ k ∧ k ≤ 4) : Perms.solB k false = true := by
  rcases (show k = 1 ∨ k = 2 ∨ k = 3 ∨ k = 4 by omega) with rfl | rfl | rfl | rfl <;> decide +kernel
def Perms.sclX (k : Int) : List (List Int) := Perms.cixX (Perms.solW k false)
def Perms.sclC (k : Int) : List Int := Perms.cixC (Perms.solW k false)
theorem Perms.scl_nil {k : Int} (hk : ¬ (1 ≤ k ∧ k ≤ 4)) : Perms.sclX k = [] ∧ Perms.sclC k = [] := by
  unfold Perms.sclX Perms.sclC
  rw [(Perms.sol_nil hk).1]
  exact ⟨rfl, rfl⟩
theorem Perms.scl_small (k : Int) : (Perms.sclX k).length ≤ 200 ∧ ∀ x ∈ Perms.sclX k, x.length ≤ 200 := by
  by_cases hk : 1 ≤ k ∧ k ≤ 4
  · exact (Perms.cixs hk).small
  · rw [(Perms.scl_nil hk).1]
    exact ⟨by simp, by simp⟩
theorem SolidClasses_i {k : Int} {w : World} {Q : Ending → World → Prop}
    (hQ : ∀ v w', OwnTerms w' w.heap.size w'.heap.size v (Perms.sclX k) (Perms.sclC k) → Below w.heap.size w w' → Q (.returned v) w') :
    Calls Try.prog 20 #[.int .i64 k] w Q := by
  have H := Lib.hid hQ; clear hQ
  by_cases hk : 1 ≤ k ∧ k ≤ 4
  · have hC := Perms.cixs hk
    have hb := Perms.solB_yes hk
    clear hk
    go_enter Try.func20, Try.ntmps20
    go_wp2_with fail
    refine SolidGroup_i ?_
    intro v1 w1 o1 b1
    have o1' := Lib.hid o1.at
    obtain ⟨a1, c1, rfl, _, _, _⟩ := o1.form
    clear o1
    go_wp2_with fail
    refine CycleIndex_i o1'.out hC.grp hC.cyc hC.sort hC.pos ?_
    intro v2 w2 o2 b2
    have h3 := Lib.hid (H.out v2 w2 (o2.mono b1.size (Nat.le_refl _)) (b1.trans (b2.mono b1.size)))
    obtain ⟨a2, c2, rfl, _, _, _⟩ := o2.form
    go_wp2_with fail
    exact h3.out
  · have hn := Lib.hid (Perms.scl_nil hk)
    have hs := Lib.hid (Perms.sol_nil hk).1
    have hb := (Perms.sol_nil hk).2
    clear hk
    go_enter Try.func20, Try.ntmps20
    go_wp2_with fail
    refine SolidGroup_i ?_
    intro v1 w1 o1 b1
    have h3 := Lib.hid (H.out (.slice none 0 0) w1 (by rw [hn.out.1, hn.out.2]; exact OwnTerms.nil _ _ _) b1)
    obtain ⟨a1, c1, rfl, _, _, _⟩ := o1.form
    clear o1
    go_wp2_with fail
    exact h3.out
end Go.Proofs.Ytdjdagcgodpgdaa
/- What FnSolids needs: HasPerm, IndexOrder, and the facts on the four solids. -/
set_option linter.unusedVariables false
namespace Go.Proofs.Ytdjdagcgodpgdaa
open Go.RowKit

def sumC : List Int → Int
  | [] => 0
  | c :: cs => c + sumC cs
theorem sumC_append : ∀ a b : List Int, sumC (a ++ b) = sumC a + sumC b
  | [], b => by simp [sumC]
  | x :: a, b => by simp only [List.cons_append, sumC, sumC_append a b]; omega
theorem sumC_take {cs : List Int} {j : Nat} {c : Int} (h : cs[j]? = some c) : sumC (cs.take (j + 1)) = sumC (cs.take j) + c := by
  rw [List.take_add_one, h, sumC_append]; simp [sumC]
theorem sumC_bd {m : Int} : ∀ {cs : List Int}, (∀ c ∈ cs, 0 ≤ c ∧ c ≤ m) → 0 ≤ sumC cs ∧ sumC cs ≤ cs.length * m
  | [], _ => by simp [sumC]
  | c :: cs, h => by
    have h1 := sumC_bd (m := m) (cs := cs) fun x hx => h x (by simp [hx])
    have h2 := h c (by simp)
    simp only [sumC, List.length_cons]
    rw [show ((cs.length + 1 : Nat) : Int) * m = cs.length * m + m by rw [Int.natCast_add, Int.add_mul]; omega]
    omega
set_option maxHeartbeats 800000 in
theorem IndexOrder_i {v : Value} {xs : List (List Int)} {cs : List Int} {B E : Nat} {w : World} {Q : Ending → World → Prop} (ho : OwnTerms w B E v xs cs) (hc : ∀ c ∈ cs, 0 ≤ c ∧ c ≤ 200) (hn : xs.length ≤ 200)
    (hQ : ∀ w', Below w.heap.size w w' → Q (.returned (.int .i64 (sumC cs))) w') :
    Calls Try.prog 19 #[v] w Q := by
  have H := Lib.hid hQ; clear hQ
  obtain ⟨aa, ca, rfl, la, lca, cca⟩ := ho.form
  have hcl : cs.length = xs.length := ho.1
  have hcl' := Lib.hid hcl
  have hsb : Hid (∀ j, 0 ≤ sumC (cs.take j) ∧ sumC (cs.take j) ≤ 40000) := Lib.hid (fun j => by
    have h1 := sumC_bd (m := 200) (cs := cs.take j) fun c h => hc c (List.mem_of_mem_take h)
    have h2 : (cs.take j).length ≤ 200 := by rw [List.length_take]; omega
    omega)
  clear hc hcl
  go_enter Try.func19, Try.ntmps19
  go_wp2_with fail
  go_loopg [3, 8] xs.length (fun gg u3 u8 wr => ∃ (j : Nat) (q : Int), u8 = .int .i64 j ∧ u3 = .int .i64 q ∧ Hid (q = sumC (cs.take j)) ∧ 0 ≤ q ∧ q ≤ 40000 ∧ Below w.heap.size w wr ∧ j + gg ≤ xs.length ∧ xs.length ≤ j + gg)
  case atStart => exact ⟨0, 0, rfl, rfl, Lib.hid rfl, by omega, by omega, Below.refl _ _, by omega, by omega⟩
  case round =>
    obtain ⟨j, q, rfl, rfl, hq, hq0, hq1, bj, hj1, hj2⟩ := hrel
    by_cases hj : j < xs.length
    · have hjI : (j : Int) < xs.length := by omega
      obtain ⟨g0, u, x, c, rfl, hx, hcc, r1, s1, hp, hfr⟩ := (ho.below bj).cell hj
      have hst := Lib.hid (sumC_take hcc.out)
      have hb1 := hsb.out (j + 1)
      have hq2 : 0 ≤ q + c ∧ q + c ≤ 40000 := by rw [hst.out, ← hq.out] at hb1; exact hb1
      obtain ⟨au, cu, rfl, _, _, _⟩ := hp.form
      clear hb1 hp
      go_wp2_with fail
      go_roundg (gk - 1)
      case measure => omega
      case rel => exact ⟨j + 1, _, by go_num, rfl, Lib.hid (by rw [hst.out, hq.out]), by omega, by omega, by first | exact bj.alloc bj.size _ | (refine Below.setCell ?_ ?_ _ <;> first | exact bj.alloc bj.size _ | exact bj.size), by omega, by omega⟩
    · have e : Hid (q = sumC cs) := Lib.hid (by rw [hq.out, List.take_of_length_le (by have := hcl'.out; omega)])
      have h3 := H.out _ bj
      rw [← e.out] at h3
      have h3' := Lib.hid h3
      clear h3
      go_wp2_with fail
      exact h3'.out
set_option maxHeartbeats 800000 in
theorem HasPerm_i {vg vp : Value} {g : List (List Int)} {p : List Int} {w : World} {Q : Ending → World → Prop} (hg : RowsAt w vg g) (hp : IntsAt w vp p) (hok : Perms.grpB g = true) (hm : p ∈ g)
    (hQ : ∀ w', Below w.heap.size w w' → Q (.returned (.bool true)) w') :
    Calls Try.prog 22 #[vg, vp] w Q := by
  have H := Lib.hid hQ; clear hQ
  have hg0 := Lib.hid hg
  have hp0 := Lib.hid hp
  obtain ⟨ag, cg, rfl, _, _, _⟩ := hg.form
  obtain ⟨ap, cp, rfl, _, _, _⟩ := hp.form
  obtain ⟨_, hl2, h3, _⟩ := Perms.grpB_parts hok
  have hasc := Lib.hid (Perms.rowsTo_asc h3)
  have hok' := Lib.hid hok
  have hix : Hid (0 ≤ Perms.idx g p) := Lib.hid (by unfold Perms.idx; rw [if_pos hm]; omega)
  clear hg hp hok hm h3
  go_enter Try.func22, Try.ntmps22
  go_wp2_with fail
  refine GroupOk_i hg0.out ?_
  intro w1 b1
  rw [hok'.out]
  have hg1 := Lib.hid (hg0.out.below b1)
  have hp1 := Lib.hid (hp0.out.below b1)
  go_wp2_with fail
  refine find_i hg1.out hp1.out hasc.out (by omega) ?_
  intro w2 d2
  obtain ⟨z, hz⟩ : ∃ z, z = Perms.idx g p := ⟨_, rfl⟩
  rw [← hz]
  have hz0 : 0 ≤ z := by rw [hz]; exact hix.out
  have h3 := Lib.hid (H.out w2 (b1.trans (d2.below _)))
  clear hz
  go_wp2_with fail
  exact h3.out
structure Perms.Sld (k : Int) : Prop where
  b1 : Perms.solB k false = true
  b2 : Perms.solB k true = true
  len : (Perms.solW k true).length = 2 * (Perms.solW k false).length
  le : (Perms.solW k false).length ≤ 48
  g1 : Perms.grpB (Perms.solW k false) = true
  g2 : Perms.grpB (Perms.solW k true) = true
  sum : sumC (Perms.sclC k) = ((Perms.solW k false).length : Int)
  cs : ∀ c ∈ Perms.sclC k, 0 ≤ c ∧ c ≤ 200
  mem : ∀ p ∈ Perms.solW k false, (p.length : Int) = Nums.sdeg k ∧ p ∈ Perms.solW k true
  small : Perms.smallB (Perms.solW k false) 2 = true
  pats : ((Perms.patsW (Perms.solW k false) 2).length : Int) = Perms.csol k false 2
namespace Perms
theorem sCells_length (p : List Int) : (cells p).length = (cycles p).length := by simp [cells]
theorem sGrp_ne {g : List (List Int)} (h : grpB g = true) : g ≠ [] := List.ne_nil_of_length_pos (by have := (grpB_parts h).1; omega)
theorem sSumTo_nat (g : List (List Int)) {k : Int} (hk : 0 ≤ k) : ∀ j, j ≤ g.length → sumTo g k j = ((((g.take j).map fun p => k.toNat ^ (cells p).length).sum : Nat) : Int)
  | 0, _ => rfl
  | j + 1, h => by
    have hg : g[j]? = some g[j] := List.getElem?_eq_getElem (by omega)
    have e : g.getD j [] = g[j] := by simp [List.getD, hg]
    rw [sumTo, sSumTo_nat g hk j (by omega), List.take_add_one, hg, e, List.map_append, List.sum_append]
    unfold Nums.pw
    rw [Int.toNat_natCast, powTo_eq hk, Option.toList_some, List.map_cons, List.map_nil, List.sum_cons, List.sum_nil, sCells_length]
    omega
theorem Grp.count_ok {g : List (List Int)} {n : Nat} (G : Grp g n) (h0 : g ≠ []) (hC : ∀ p ∈ g, cycOkB p = true) (k : Nat) : (g.map fun p => k ^ (cells p).length).sum = (reps g (wordsN k n)).length * g.length := by
  rw [← (G.acts k).burnside G h0]
  refine sum_congr fun p hp => ?_
  have e := G.len p hp
  rw [← kept_len (CycOk.of (hC p hp)) (G.perm p hp) k, e]
theorem colO_ok {g : List (List Int)} {k : Int} (h : grpB g = true) (hC : ∀ p ∈ g, cycOkB p = true) (h0 : 0 ≤ k) (h4 : k ≤ 4) : colO g k = ((pats g k).length : Int) := by
  have hp := (grpB_parts h).1
  unfold colO
  rw [if_pos ⟨h, h0, h4⟩, sSumTo_nat g h0 _ (Nat.le_refl _), List.take_length, (grpB_grp h).count_ok (sGrp_ne h) hC, pats_reps, Int.natCast_mul]
  exact Int.mul_ediv_cancel _ (by omega)
end Perms
theorem Perms.sld_pats {k : Int} (h : Perms.grpB (Perms.solW k false) = true) (hC : ∀ p ∈ Perms.solW k false, Perms.cycOkB p = true) (hs : Perms.smallB (Perms.solW k false) 2 = true) : ((Perms.patsW (Perms.solW k false) 2).length : Int) = Perms.csol k false 2 := by
  unfold Perms.patsW Perms.csol
  rw [if_pos hs]
  exact (Perms.colO_ok h hC (by decide) (by decide)).symm
set_option maxHeartbeats 0 in
theorem Perms.sld {k : Int} (hk : 1 ≤ k ∧ k ≤ 4) : Perms.Sld k := by
  have g1 := Perms.sol_grp hk false
  have g2 := Perms.sol_grp hk true
  rcases (show k = 1 ∨ k = 2 ∨ k = 3 ∨ k = 4 by omega) with rfl | rfl | rfl | rfl
  all_goals exact ⟨by decide +kernel, by decide +kernel, by decide +kernel, by decide +kernel, g1, g2, by decide +kernel, by decide +kernel, by decide +kernel, by decide +kernel, Perms.sld_pats g1 (by decide +kernel) (by decide +kernel)⟩
theorem Perms.csol_val {k : Int} (hk : 1 ≤ k ∧ k ≤ 4) (m : Bool) {c : Int} (hc : 0 ≤ c ∧ c ≤ 4) : Perms.csol k m c = Perms.sumTo (Perms.solW k m) c (Perms.solW k m).length / (Perms.solW k m).length := by
  unfold Perms.csol Perms.colO
  rw [if_pos ⟨Perms.sol_grp hk m, hc⟩]
set_option maxHeartbeats 0 in
theorem Perms.hnd_sld {k c : Int} (hk : 1 ≤ k ∧ k ≤ 4) (hc : 0 ≤ c ∧ c ≤ 4) : Perms.hnd k c = Perms.csol k false c - Perms.csol k true c ∧ 0 ≤ Perms.hnd k c := by
  have e : Perms.hnd k c = Perms.csol k false c - Perms.csol k true c := by unfold Perms.hnd; rw [if_pos ⟨hk, hc⟩]
  refine ⟨e, ?_⟩
  rw [e, Perms.csol_val hk false hc, Perms.csol_val hk true hc]
  rcases (show k = 1 ∨ k = 2 ∨ k = 3 ∨ k = 4 by omega) with rfl | rfl | rfl | rfl <;>
    rcases (show c = 0 ∨ c = 1 ∨ c = 2 ∨ c = 3 ∨ c = 4 by omega) with rfl | rfl | rfl | rfl | rfl <;> decide +kernel
end Go.Proofs.Ytdjdagcgodpgdaa
/- The law FnSolids: what it computes. -/
set_option linter.unusedVariables false
namespace Go.Proofs.Ytdjdagcgodpgdaa
open Go.RowKit

theorem Perms.cn1_0 : Perms.csol 1 false 0 = 0 := by rw [Perms.csol_val (by decide) false (by decide)]; decide +kernel
theorem Perms.cn1_1 : Perms.csol 1 false 1 = 1 := by rw [Perms.csol_val (by decide) false (by decide)]; decide +kernel
theorem Perms.cn1_2 : Perms.csol 1 false 2 = 5 := by rw [Perms.csol_val (by decide) false (by decide)]; decide +kernel
theorem Perms.cn1_3 : Perms.csol 1 false 3 = 15 := by rw [Perms.csol_val (by decide) false (by decide)]; decide +kernel
theorem Perms.cn1_4 : Perms.csol 1 false 4 = 36 := by rw [Perms.csol_val (by decide) false (by decide)]; decide +kernel
theorem Perms.cn2_0 : Perms.csol 2 false 0 = 0 := by rw [Perms.csol_val (by decide) false (by decide)]; decide +kernel
theorem Perms.cn2_1 : Perms.csol 2 false 1 = 1 := by rw [Perms.csol_val (by decide) false (by decide)]; decide +kernel
theorem Perms.cn2_2 : Perms.csol 2 false 2 = 12 := by rw [Perms.csol_val (by decide) false (by decide)]; decide +kernel
theorem Perms.cn2_3 : Perms.csol 2 false 3 = 87 := by rw [Perms.csol_val (by decide) false (by decide)]; decide +kernel
theorem Perms.cn2_4 : Perms.csol 2 false 4 = 416 := by rw [Perms.csol_val (by decide) false (by decide)]; decide +kernel
theorem Perms.cn3_0 : Perms.csol 3 false 0 = 0 := by rw [Perms.csol_val (by decide) false (by decide)]; decide +kernel
theorem Perms.cn3_1 : Perms.csol 3 false 1 = 1 := by rw [Perms.csol_val (by decide) false (by decide)]; decide +kernel
theorem Perms.cn3_2 : Perms.csol 3 false 2 = 10 := by rw [Perms.csol_val (by decide) false (by decide)]; decide +kernel
theorem Perms.cn3_3 : Perms.csol 3 false 3 = 57 := by rw [Perms.csol_val (by decide) false (by decide)]; decide +kernel
theorem Perms.cn3_4 : Perms.csol 3 false 4 = 240 := by rw [Perms.csol_val (by decide) false (by decide)]; decide +kernel
theorem Perms.cn4_0 : Perms.csol 4 false 0 = 0 := by rw [Perms.csol_val (by decide) false (by decide)]; decide +kernel
theorem Perms.cn4_1 : Perms.csol 4 false 1 = 1 := by rw [Perms.csol_val (by decide) false (by decide)]; decide +kernel
theorem Perms.cn4_2 : Perms.csol 4 false 2 = 23 := by rw [Perms.csol_val (by decide) false (by decide)]; decide +kernel
theorem Perms.cn4_3 : Perms.csol 4 false 3 = 333 := by rw [Perms.csol_val (by decide) false (by decide)]; decide +kernel
theorem Perms.cn4_4 : Perms.csol 4 false 4 = 2916 := by rw [Perms.csol_val (by decide) false (by decide)]; decide +kernel
set_option maxHeartbeats 12800000 in
set_option maxRecDepth 60000 in
theorem FnSolids_l {v : Value} {bs : List Int} {w : World} {Q : Ending → World → Prop} (hb : BytesAt w v bs) (hQ : ∀ w', Below w.heap.size w w' → Q (.returned (.bool true)) w') :
    Calls Try.prog 6 #[v] w Q := by
  have H := Lib.hid hQ; clear hQ
  have hb' := hb
  obtain ⟨ao, ca, rfl, la, lca, cca⟩ := hb'.form
  rw [show (bytes bs).length = bs.length from by simp [bytes]] at *
  by_cases hlen : (bs.length : Int) ≤ 1048576
  rotate_left
  · have hl2 : (1048576 : Int) < bs.length := by omega
    go_enter Try.func6, Try.ntmps6
    go_wp2_with fail
    exact H.out _ (Below.refl _ _)
  have hb0 := Lib.hid hb
  clear hb hb'
  go_enter Try.func6, Try.ntmps6
  go_wp2_with fail
  refine MakeNum_c hb0.out (by omega) (by omega) ?_
  intro x1 w1 hx0 hx1 b1
  rcases (show x1 % 5 = 0 ∨ x1 % 5 = 1 ∨ x1 % 5 = 2 ∨ x1 % 5 = 3 ∨ x1 % 5 = 4 by omega) with hm | hm | hm | hm | hm
  · skip
    have hb1 := Lib.hid (hb0.out.below b1)
    have hmt : x1.tmod 5 = 0 := by rw [Int.tmod_eq_emod_of_nonneg hx0]; exact hm
    go_wp2_with fail
    refine CountSolid_i ?_
    intro w2 b2
    rw [Perms.cn3_0]
    go_wp2_with fail
    refine CountSolid_i ?_
    intro w3 b3
    rw [Perms.cn4_0]
    go_wp2_with fail
    refine CountSolid_i ?_
    intro w4 b4
    rw [Perms.cn1_0]
    go_wp2_with fail
    refine CountSolid_i ?_
    intro w5 b5
    rw [Perms.cn2_0]
    have c2 := b1.trans (b2.mono b1.size)
    have c3 := c2.trans (b3.mono c2.size)
    have c4 := c3.trans (b4.mono c3.size)
    have c5 := c4.trans (b5.mono c4.size)
    have hb5 := Lib.hid (hb0.out.below c5)
    go_wp2_with fail
    refine MakeNum_c hb5.out (by omega) (by omega) ?_
    intro x3 w6 hx30 hx31 b6
    have hkd : 1 ≤ 1 + x3 % 4 ∧ 1 + x3 % 4 ≤ 4 := by omega
    obtain ⟨kd, hkd'⟩ : ∃ kd, 1 + x3 % 4 = kd := ⟨_, rfl⟩
    rw [hkd'] at hkd
    have hkt : 1 + x3.tmod 4 = kd := by rw [Int.tmod_eq_emod_of_nonneg hx30]; exact hkd'
    have F := Perms.sld hkd
    have hkdh := Lib.hid hkd
    have hlB : ((((Perms.solW kd true).length : Nat) : Int) != 2 * ((Perms.solW kd false).length : Int)) = false := by
      rw [F.len]
      simp
    have hlA := F.le
    have hlA2 : (Perms.solW kd true).length ≤ 96 := by rw [F.len]; omega
    have c6 := c5.trans (b6.mono c5.size)
    clear c2 c3 c4 b2 b3 b4 b5
    go_wp2_with fail
    refine SolidGroup_i ?_
    intro v7 w7 o7 b7
    rw [F.b1]
    have o7' := Lib.hid o7.at
    obtain ⟨a7, k7, rfl, _, _, _⟩ := o7.form
    clear o7
    go_wp2_with fail
    refine SolidGroup_i ?_
    intro v8 w8 o8 b8
    rw [F.b2]
    have o8' := Lib.hid o8.at
    obtain ⟨a8, k8, rfl, _, _, _⟩ := o8.form
    have o78 := Lib.hid (o7'.out.below b8)
    clear o8
    go_wp2_with fail
    refine GroupOk_i o78.out ?_
    intro w9 b9
    rw [F.g1]
    have o89 := Lib.hid (o8'.out.below b9)
    go_wp2_with fail
    refine GroupOk_i o89.out ?_
    intro w10 b10
    rw [F.g2]
    go_wp2_with fail
    refine SolidClasses_i ?_
    intro v11 w11 o11 b11
    have o11' := Lib.hid o11
    obtain ⟨a11, k11, rfl, _, _, _⟩ := o11.form
    clear o11
    go_wp2_with fail
    refine IndexOrder_i o11'.out F.cs (Perms.scl_small kd).1 ?_
    intro w12 b12
    rw [F.sum]
    have d8 := b9.trans (b10.mono b9.size)
    have d9 := d8.trans (b11.mono d8.size)
    have d10 := d9.trans (b12.mono d9.size)
    have hgA := Lib.hid (o78.out.below d10)
    have hgB := Lib.hid (o8'.out.below d10)
    have c7 := c6.trans (b7.mono c6.size)
    have c8 := c7.trans (b8.mono c7.size)
    have c12 := c8.trans (d10.mono c8.size)
    have hne0 : (((Perms.solW kd false).length : Int) != ((Perms.solW kd false).length : Int)) = false := by simp
    clear d8 d9 d10 c7 c8 b7 b8 b9 b10 b11 b12 o78 o89 o7' o8' o11'
    go_wp2_with fail
    go_loopg [135] (Perms.solW kd false).length (fun gg u135 wr => ∃ (j : Nat), u135 = .int .i64 j ∧ Below w12.heap.size w12 wr ∧ j + gg ≤ (Perms.solW kd false).length ∧ (Perms.solW kd false).length ≤ j + gg)
    case atStart => exact ⟨0, rfl, Below.refl _ _, by omega, by omega⟩
    case round =>
      obtain ⟨j, rfl, bj, hj1, hj2⟩ := hrel
      by_cases hj : j < (Perms.solW kd false).length
      · have hjI : (j : Int) < (Perms.solW kd false).length := by omega
        obtain ⟨bb, ff, u, p, e7, hp, hcp, hup⟩ := (hgA.out.below bj).cell hj
        cases e7
        obtain ⟨hpl, hpm⟩ := F.mem p (List.mem_of_getElem? hp.out)
        obtain ⟨ap, cp, rfl, _, _, _⟩ := hup.form
        have hup' := Lib.hid hup
        have hpl' : ((p.length : Int) != Nums.sdeg kd) = false := by rw [hpl]; simp
        have hpm' := Lib.hid hpm
        have hgB2 := Lib.hid (hgB.out.below bj)
        clear hpl hpm hup
        go_wp2_with (go_at_call 21; refine SolidDegree_i ?_)
        refine HasPerm_i hgB2.out hup'.out F.g2 hpm'.out ?_
        intro w13 b13
        go_wp2_with fail
        go_roundg (gk - 1)
        case measure => omega
        case rel => exact ⟨j + 1, by go_num, bj.trans (b13.mono bj.size), by omega, by omega⟩
      · obtain rfl : j = (Perms.solW kd false).length := by omega
        obtain ⟨hh1, hh2⟩ := Perms.hnd_sld (c := 0) hkdh.out (by omega)
        have d1 := Perms.csol_bd kd false 0
        have d2 := Perms.csol_bd kd true 0
        obtain ⟨c0, hc0⟩ : ∃ c0, Perms.csol kd false 0 = c0 := ⟨_, rfl⟩
        obtain ⟨c1, hc1⟩ : ∃ c1, Perms.csol kd true 0 = c1 := ⟨_, rfl⟩
        rw [hh1] at hh2
        rw [hc0, hc1] at hh1 hh2
        rw [hc0] at d1
        rw [hc1] at d2
        have hh1' := Lib.hid hh1
        have hc0' := Lib.hid hc0
        have hc1' := Lib.hid hc1
        clear hh1 hc0 hc1
        go_wp2_with fail
        refine SolidPatterns_i ?_
        intro v14 w14 o14 b14
        rw [F.small]
        obtain ⟨a14, k14, rfl, _, _, _⟩ := o14.form
        have hpe : (((Perms.patsW (Perms.solW kd false) 2).length : Int) == ((Perms.patsW (Perms.solW kd false) 2).length : Int)) = true := by simp
        clear o14
        go_wp2_with fail
        refine CountSolid_i ?_
        intro w15 b15
        rw [← F.pats]
        go_wp2_with fail
        refine HandedSolids_i ?_
        intro w16 b16
        rw [hh1'.out]
        go_wp2_with fail
        refine CountSolid_i ?_
        intro w17 b17
        rw [hc0'.out]
        go_wp2_with fail
        refine CountSolid_i ?_
        intro w18 b18
        rw [hc1'.out]
        have hce : (c0 - c1 == c0 - c1) = true := by simp
        have hcc : c1 ≤ c0 := by omega
        have hdc : decide (c1 ≤ c0) = true := decide_eq_true hcc
        go_wp2_with fail
        refine HandedSolids_i ?_
        intro w19 b19
        rw [hh1'.out]
        have e14 := bj.trans (b14.mono bj.size)
        have e15 := e14.trans (b15.mono e14.size)
        have e16 := e15.trans (b16.mono e15.size)
        have e17 := e16.trans (b17.mono e16.size)
        have e18 := e17.trans (b18.mono e17.size)
        have e19 := e18.trans (b19.mono e18.size)
        have h3 := Lib.hid (H.out w19 (c12.trans (e19.mono c12.size)))
        clear e14 e15 e16 e17 e18 e19
        go_wp2_with fail
        exact h3.out
  · skip
    have hb1 := Lib.hid (hb0.out.below b1)
    have hmt : x1.tmod 5 = 1 := by rw [Int.tmod_eq_emod_of_nonneg hx0]; exact hm
    go_wp2_with fail
    refine CountSolid_i ?_
    intro w2 b2
    rw [Perms.cn3_1]
    go_wp2_with fail
    refine CountSolid_i ?_
    intro w3 b3
    rw [Perms.cn4_1]
    go_wp2_with fail
    refine CountSolid_i ?_
    intro w4 b4
    rw [Perms.cn1_1]
    go_wp2_with fail
    refine CountSolid_i ?_
    intro w5 b5
    rw [Perms.cn2_1]
    have c2 := b1.trans (b2.mono b1.size)
    have c3 := c2.trans (b3.mono c2.size)
    have c4 := c3.trans (b4.mono c3.size)
    have c5 := c4.trans (b5.mono c4.size)
    have hb5 := Lib.hid (hb0.out.below c5)
    go_wp2_with fail
    refine MakeNum_c hb5.out (by omega) (by omega) ?_
    intro x3 w6 hx30 hx31 b6
    have hkd : 1 ≤ 1 + x3 % 4 ∧ 1 + x3 % 4 ≤ 4 := by omega
    obtain ⟨kd, hkd'⟩ : ∃ kd, 1 + x3 % 4 = kd := ⟨_, rfl⟩
    rw [hkd'] at hkd
    have hkt : 1 + x3.tmod 4 = kd := by rw [Int.tmod_eq_emod_of_nonneg hx30]; exact hkd'
    have F := Perms.sld hkd
    have hkdh := Lib.hid hkd
    have hlB : ((((Perms.solW kd true).length : Nat) : Int) != 2 * ((Perms.solW kd false).length : Int)) = false := by
      rw [F.len]
      simp
    have hlA := F.le
    have hlA2 : (Perms.solW kd true).length ≤ 96 := by rw [F.len]; omega
    have c6 := c5.trans (b6.mono c5.size)
    clear c2 c3 c4 b2 b3 b4 b5
    go_wp2_with fail
    refine SolidGroup_i ?_
    intro v7 w7 o7 b7
    rw [F.b1]
    have o7' := Lib.hid o7.at
    obtain ⟨a7, k7, rfl, _, _, _⟩ := o7.form
    clear o7
    go_wp2_with fail
    refine SolidGroup_i ?_
    intro v8 w8 o8 b8
    rw [F.b2]
    have o8' := Lib.hid o8.at
    obtain ⟨a8, k8, rfl, _, _, _⟩ := o8.form
    have o78 := Lib.hid (o7'.out.below b8)
    clear o8
    go_wp2_with fail
    refine GroupOk_i o78.out ?_
    intro w9 b9
    rw [F.g1]
    have o89 := Lib.hid (o8'.out.below b9)
    go_wp2_with fail
    refine GroupOk_i o89.out ?_
    intro w10 b10
    rw [F.g2]
    go_wp2_with fail
    refine SolidClasses_i ?_
    intro v11 w11 o11 b11
    have o11' := Lib.hid o11
    obtain ⟨a11, k11, rfl, _, _, _⟩ := o11.form
    clear o11
    go_wp2_with fail
    refine IndexOrder_i o11'.out F.cs (Perms.scl_small kd).1 ?_
    intro w12 b12
    rw [F.sum]
    have d8 := b9.trans (b10.mono b9.size)
    have d9 := d8.trans (b11.mono d8.size)
    have d10 := d9.trans (b12.mono d9.size)
    have hgA := Lib.hid (o78.out.below d10)
    have hgB := Lib.hid (o8'.out.below d10)
    have c7 := c6.trans (b7.mono c6.size)
    have c8 := c7.trans (b8.mono c7.size)
    have c12 := c8.trans (d10.mono c8.size)
    have hne0 : (((Perms.solW kd false).length : Int) != ((Perms.solW kd false).length : Int)) = false := by simp
    clear d8 d9 d10 c7 c8 b7 b8 b9 b10 b11 b12 o78 o89 o7' o8' o11'
    go_wp2_with fail
    go_loopg [135] (Perms.solW kd false).length (fun gg u135 wr => ∃ (j : Nat), u135 = .int .i64 j ∧ Below w12.heap.size w12 wr ∧ j + gg ≤ (Perms.solW kd false).length ∧ (Perms.solW kd false).length ≤ j + gg)
    case atStart => exact ⟨0, rfl, Below.refl _ _, by omega, by omega⟩
    case round =>
      obtain ⟨j, rfl, bj, hj1, hj2⟩ := hrel
      by_cases hj : j < (Perms.solW kd false).length
      · have hjI : (j : Int) < (Perms.solW kd false).length := by omega
        obtain ⟨bb, ff, u, p, e7, hp, hcp, hup⟩ := (hgA.out.below bj).cell hj
        cases e7
        obtain ⟨hpl, hpm⟩ := F.mem p (List.mem_of_getElem? hp.out)
        obtain ⟨ap, cp, rfl, _, _, _⟩ := hup.form
        have hup' := Lib.hid hup
        have hpl' : ((p.length : Int) != Nums.sdeg kd) = false := by rw [hpl]; simp
        have hpm' := Lib.hid hpm
        have hgB2 := Lib.hid (hgB.out.below bj)
        clear hpl hpm hup
        go_wp2_with (go_at_call 21; refine SolidDegree_i ?_)
        refine HasPerm_i hgB2.out hup'.out F.g2 hpm'.out ?_
        intro w13 b13
        go_wp2_with fail
        go_roundg (gk - 1)
        case measure => omega
        case rel => exact ⟨j + 1, by go_num, bj.trans (b13.mono bj.size), by omega, by omega⟩
      · obtain rfl : j = (Perms.solW kd false).length := by omega
        obtain ⟨hh1, hh2⟩ := Perms.hnd_sld (c := 1) hkdh.out (by omega)
        have d1 := Perms.csol_bd kd false 1
        have d2 := Perms.csol_bd kd true 1
        obtain ⟨c0, hc0⟩ : ∃ c0, Perms.csol kd false 1 = c0 := ⟨_, rfl⟩
        obtain ⟨c1, hc1⟩ : ∃ c1, Perms.csol kd true 1 = c1 := ⟨_, rfl⟩
        rw [hh1] at hh2
        rw [hc0, hc1] at hh1 hh2
        rw [hc0] at d1
        rw [hc1] at d2
        have hh1' := Lib.hid hh1
        have hc0' := Lib.hid hc0
        have hc1' := Lib.hid hc1
        clear hh1 hc0 hc1
        go_wp2_with fail
        refine SolidPatterns_i ?_
        intro v14 w14 o14 b14
        rw [F.small]
        obtain ⟨a14, k14, rfl, _, _, _⟩ := o14.form
        have hpe : (((Perms.patsW (Perms.solW kd false) 2).length : Int) == ((Perms.patsW (Perms.solW kd false) 2).length : Int)) = true := by simp
        clear o14
        go_wp2_with fail
        refine CountSolid_i ?_
        intro w15 b15
        rw [← F.pats]
        go_wp2_with fail
        refine HandedSolids_i ?_
        intro w16 b16
        rw [hh1'.out]
        go_wp2_with fail
        refine CountSolid_i ?_
        intro w17 b17
        rw [hc0'.out]
        go_wp2_with fail
        refine CountSolid_i ?_
        intro w18 b18
        rw [hc1'.out]
        have hce : (c0 - c1 == c0 - c1) = true := by simp
        have hcc : c1 ≤ c0 := by omega
        have hdc : decide (c1 ≤ c0) = true := decide_eq_true hcc
        go_wp2_with fail
        refine HandedSolids_i ?_
        intro w19 b19
        rw [hh1'.out]
        have e14 := bj.trans (b14.mono bj.size)
        have e15 := e14.trans (b15.mono e14.size)
        have e16 := e15.trans (b16.mono e15.size)
        have e17 := e16.trans (b17.mono e16.size)
        have e18 := e17.trans (b18.mono e17.size)
        have e19 := e18.trans (b19.mono e18.size)
        have h3 := Lib.hid (H.out w19 (c12.trans (e19.mono c12.size)))
        clear e14 e15 e16 e17 e18 e19
        go_wp2_with fail
        exact h3.out
  · skip
    have hb1 := Lib.hid (hb0.out.below b1)
    have hmt : x1.tmod 5 = 2 := by rw [Int.tmod_eq_emod_of_nonneg hx0]; exact hm
    go_wp2_with fail
    refine CountSolid_i ?_
    intro w2 b2
    rw [Perms.cn3_2]
    go_wp2_with fail
    refine CountSolid_i ?_
    intro w3 b3
    rw [Perms.cn4_2]
    go_wp2_with fail
    refine CountSolid_i ?_
    intro w4 b4
    rw [Perms.cn1_2]
    go_wp2_with fail
    refine CountSolid_i ?_
    intro w5 b5
    rw [Perms.cn2_2]
    have c2 := b1.trans (b2.mono b1.size)
    have c3 := c2.trans (b3.mono c2.size)
    have c4 := c3.trans (b4.mono c3.size)
    have c5 := c4.trans (b5.mono c4.size)
    have hb5 := Lib.hid (hb0.out.below c5)
    go_wp2_with fail
    refine MakeNum_c hb5.out (by omega) (by omega) ?_
    intro x3 w6 hx30 hx31 b6
    have hkd : 1 ≤ 1 + x3 % 4 ∧ 1 + x3 % 4 ≤ 4 := by omega
    obtain ⟨kd, hkd'⟩ : ∃ kd, 1 + x3 % 4 = kd := ⟨_, rfl⟩
    rw [hkd'] at hkd
    have hkt : 1 + x3.tmod 4 = kd := by rw [Int.tmod_eq_emod_of_nonneg hx30]; exact hkd'
    have F := Perms.sld hkd
    have hkdh := Lib.hid hkd
    have hlB : ((((Perms.solW kd true).length : Nat) : Int) != 2 * ((Perms.solW kd false).length : Int)) = false := by
      rw [F.len]
      simp
    have hlA := F.le
    have hlA2 : (Perms.solW kd true).length ≤ 96 := by rw [F.len]; omega
    have c6 := c5.trans (b6.mono c5.size)
    clear c2 c3 c4 b2 b3 b4 b5
    go_wp2_with fail
    refine SolidGroup_i ?_
    intro v7 w7 o7 b7
    rw [F.b1]
    have o7' := Lib.hid o7.at
    obtain ⟨a7, k7, rfl, _, _, _⟩ := o7.form
    clear o7
    go_wp2_with fail
    refine SolidGroup_i ?_
    intro v8 w8 o8 b8
    rw [F.b2]
    have o8' := Lib.hid o8.at
    obtain ⟨a8, k8, rfl, _, _, _⟩ := o8.form
    have o78 := Lib.hid (o7'.out.below b8)
    clear o8
    go_wp2_with fail
    refine GroupOk_i o78.out ?_
    intro w9 b9
    rw [F.g1]
    have o89 := Lib.hid (o8'.out.below b9)
    go_wp2_with fail
    refine GroupOk_i o89.out ?_
    intro w10 b10
    rw [F.g2]
    go_wp2_with fail
    refine SolidClasses_i ?_
    intro v11 w11 o11 b11
    have o11' := Lib.hid o11
    obtain ⟨a11, k11, rfl, _, _, _⟩ := o11.form
    clear o11
    go_wp2_with fail
    refine IndexOrder_i o11'.out F.cs (Perms.scl_small kd).1 ?_
    intro w12 b12
    rw [F.sum]
    have d8 := b9.trans (b10.mono b9.size)
    have d9 := d8.trans (b11.mono d8.size)
    have d10 := d9.trans (b12.mono d9.size)
    have hgA := Lib.hid (o78.out.below d10)
    have hgB := Lib.hid (o8'.out.below d10)
    have c7 := c6.trans (b7.mono c6.size)
    have c8 := c7.trans (b8.mono c7.size)
    have c12 := c8.trans (d10.mono c8.size)
    have hne0 : (((Perms.solW kd false).length : Int) != ((Perms.solW kd false).length : Int)) = false := by simp
    clear d8 d9 d10 c7 c8 b7 b8 b9 b10 b11 b12 o78 o89 o7' o8' o11'
    go_wp2_with fail
    go_loopg [135] (Perms.solW kd false).length (fun gg u135 wr => ∃ (j : Nat), u135 = .int .i64 j ∧ Below w12.heap.size w12 wr ∧ j + gg ≤ (Perms.solW kd false).length ∧ (Perms.solW kd false).length ≤ j + gg)
    case atStart => exact ⟨0, rfl, Below.refl _ _, by omega, by omega⟩
    case round =>
      obtain ⟨j, rfl, bj, hj1, hj2⟩ := hrel
      by_cases hj : j < (Perms.solW kd false).length
      · have hjI : (j : Int) < (Perms.solW kd false).length := by omega
        obtain ⟨bb, ff, u, p, e7, hp, hcp, hup⟩ := (hgA.out.below bj).cell hj
        cases e7
        obtain ⟨hpl, hpm⟩ := F.mem p (List.mem_of_getElem? hp.out)
        obtain ⟨ap, cp, rfl, _, _, _⟩ := hup.form
        have hup' := Lib.hid hup
        have hpl' : ((p.length : Int) != Nums.sdeg kd) = false := by rw [hpl]; simp
        have hpm' := Lib.hid hpm
        have hgB2 := Lib.hid (hgB.out.below bj)
        clear hpl hpm hup
        go_wp2_with (go_at_call 21; refine SolidDegree_i ?_)
        refine HasPerm_i hgB2.out hup'.out F.g2 hpm'.out ?_
        intro w13 b13
        go_wp2_with fail
        go_roundg (gk - 1)
        case measure => omega
        case rel => exact ⟨j + 1, by go_num, bj.trans (b13.mono bj.size), by omega, by omega⟩
      · obtain rfl : j = (Perms.solW kd false).length := by omega
        obtain ⟨hh1, hh2⟩ := Perms.hnd_sld (c := 2) hkdh.out (by omega)
        have d1 := Perms.csol_bd kd false 2
        have d2 := Perms.csol_bd kd true 2
        obtain ⟨c0, hc0⟩ : ∃ c0, Perms.csol kd false 2 = c0 := ⟨_, rfl⟩
        obtain ⟨c1, hc1⟩ : ∃ c1, Perms.csol kd true 2 = c1 := ⟨_, rfl⟩
        rw [hh1] at hh2
        rw [hc0, hc1] at hh1 hh2
        rw [hc0] at d1
        rw [hc1] at d2
        have hh1' := Lib.hid hh1
        have hc0' := Lib.hid hc0
        have hc1' := Lib.hid hc1
        clear hh1 hc0 hc1
        go_wp2_with fail
        refine SolidPatterns_i ?_
        intro v14 w14 o14 b14
        rw [F.small]
        obtain ⟨a14, k14, rfl, _, _, _⟩ := o14.form
        have hpe : (((Perms.patsW (Perms.solW kd false) 2).length : Int) == ((Perms.patsW (Perms.solW kd false) 2).length : Int)) = true := by simp
        clear o14
        go_wp2_with fail
        refine CountSolid_i ?_
        intro w15 b15
        rw [← F.pats]
        go_wp2_with fail
        refine HandedSolids_i ?_
        intro w16 b16
        rw [hh1'.out]
        go_wp2_with fail
        refine CountSolid_i ?_
        intro w17 b17
        rw [hc0'.out]
        go_wp2_with fail
        refine CountSolid_i ?_
        intro w18 b18
        rw [hc1'.out]
        have hce : (c0 - c1 == c0 - c1) = true := by simp
        have hcc : c1 ≤ c0 := by omega
        have hdc : decide (c1 ≤ c0) = true := decide_eq_true hcc
        go_wp2_with fail
        refine HandedSolids_i ?_
        intro w19 b19
        rw [hh1'.out]
        have e14 := bj.trans (b14.mono bj.size)
        have e15 := e14.trans (b15.mono e14.size)
        have e16 := e15.trans (b16.mono e15.size)
        have e17 := e16.trans (b17.mono e16.size)
        have e18 := e17.trans (b18.mono e17.size)
        have e19 := e18.trans (b19.mono e18.size)
        have h3 := Lib.hid (H.out w19 (c12.trans (e19.mono c12.size)))
        clear e14 e15 e16 e17 e18 e19
        go_wp2_with fail
        exact h3.out
  · skip
    have hb1 := Lib.hid (hb0.out.below b1)
    have hmt : x1.tmod 5 = 3 := by rw [Int.tmod_eq_emod_of_nonneg hx0]; exact hm
    go_wp2_with fail
    refine CountSolid_i ?_
    intro w2 b2
    rw [Perms.cn3_3]
    go_wp2_with fail
    refine CountSolid_i ?_
    intro w3 b3
    rw [Perms.cn4_3]
    go_wp2_with fail
    refine CountSolid_i ?_
    intro w4 b4
    rw [Perms.cn1_3]
    go_wp2_with fail
    refine CountSolid_i ?_
    intro w5 b5
    rw [Perms.cn2_3]
    have c2 := b1.trans (b2.mono b1.size)
    have c3 := c2.trans (b3.mono c2.size)
    have c4 := c3.trans (b4.mono c3.size)
    have c5 := c4.trans (b5.mono c4.size)
    have hb5 := Lib.hid (hb0.out.below c5)
    go_wp2_with fail
    refine MakeNum_c hb5.out (by omega) (by omega) ?_
    intro x3 w6 hx30 hx31 b6
    have hkd : 1 ≤ 1 + x3 % 4 ∧ 1 + x3 % 4 ≤ 4 := by omega
    obtain ⟨kd, hkd'⟩ : ∃ kd, 1 + x3 % 4 = kd := ⟨_, rfl⟩
    rw [hkd'] at hkd
    have hkt : 1 + x3.tmod 4 = kd := by rw [Int.tmod_eq_emod_of_nonneg hx30]; exact hkd'
    have F := Perms.sld hkd
    have hkdh := Lib.hid hkd
    have hlB : ((((Perms.solW kd true).length : Nat) : Int) != 2 * ((Perms.solW kd false).length : Int)) = false := by
      rw [F.len]
      simp
    have hlA := F.le
    have hlA2 : (Perms.solW kd true).length ≤ 96 := by rw [F.len]; omega
    have c6 := c5.trans (b6.mono c5.size)
    clear c2 c3 c4 b2 b3 b4 b5
    go_wp2_with fail
    refine SolidGroup_i ?_
    intro v7 w7 o7 b7
    rw [F.b1]
    have o7' := Lib.hid o7.at
    obtain ⟨a7, k7, rfl, _, _, _⟩ := o7.form
    clear o7
    go_wp2_with fail
    refine SolidGroup_i ?_
    intro v8 w8 o8 b8
    rw [F.b2]
    have o8' := Lib.hid o8.at
    obtain ⟨a8, k8, rfl, _, _, _⟩ := o8.form
    have o78 := Lib.hid (o7'.out.below b8)
    clear o8
    go_wp2_with fail
    refine GroupOk_i o78.out ?_
    intro w9 b9
    rw [F.g1]
    have o89 := Lib.hid (o8'.out.below b9)
    go_wp2_with fail
    refine GroupOk_i o89.out ?_
    intro w10 b10
    rw [F.g2]
    go_wp2_with fail
    refine SolidClasses_i ?_
    intro v11 w11 o11 b11
    have o11' := Lib.hid o11
    obtain ⟨a11, k11, rfl, _, _, _⟩ := o11.form
    clear o11
    go_wp2_with fail
    refine IndexOrder_i o11'.out F.cs (Perms.scl_small kd).1 ?_
    intro w12 b12
    rw [F.sum]
    have d8 := b9.trans (b10.mono b9.size)
    have d9 := d8.trans (b11.mono d8.size)
    have d10 := d9.trans (b12.mono d9.size)
    have hgA := Lib.hid (o78.out.below d10)
    have hgB := Lib.hid (o8'.out.below d10)
    have c7 := c6.trans (b7.mono c6.size)
    have c8 := c7.trans (b8.mono c7.size)
    have c12 := c8.trans (d10.mono c8.size)
    have hne0 : (((Perms.solW kd false).length : Int) != ((Perms.solW kd false).length : Int)) = false := by simp
    clear d8 d9 d10 c7 c8 b7 b8 b9 b10 b11 b12 o78 o89 o7' o8' o11'
    go_wp2_with fail
    go_loopg [135] (Perms.solW kd false).length (fun gg u135 wr => ∃ (j : Nat), u135 = .int .i64 j ∧ Below w12.heap.size w12 wr ∧ j + gg ≤ (Perms.solW kd false).length ∧ (Perms.solW kd false).length ≤ j + gg)
    case atStart => exact ⟨0, rfl, Below.refl _ _, by omega, by omega⟩
    case round =>
      obtain ⟨j, rfl, bj, hj1, hj2⟩ := hrel
      by_cases hj : j < (Perms.solW kd false).length
      · have hjI : (j : Int) < (Perms.solW kd false).length := by omega
        obtain ⟨bb, ff, u, p, e7, hp, hcp, hup⟩ := (hgA.out.below bj).cell hj
        cases e7
        obtain ⟨hpl, hpm⟩ := F.mem p (List.mem_of_getElem? hp.out)
        obtain ⟨ap, cp, rfl, _, _, _⟩ := hup.form
        have hup' := Lib.hid hup
        have hpl' : ((p.length : Int) != Nums.sdeg kd) = false := by rw [hpl]; simp
        have hpm' := Lib.hid hpm
        have hgB2 := Lib.hid (hgB.out.below bj)
        clear hpl hpm hup
        go_wp2_with (go_at_call 21; refine SolidDegree_i ?_)
        refine HasPerm_i hgB2.out hup'.out F.g2 hpm'.out ?_
        intro w13 b13
        go_wp2_with fail
        go_roundg (gk - 1)
        case measure => omega
        case rel => exact ⟨j + 1, by go_num, bj.trans (b13.mono bj.size), by omega, by omega⟩
      · obtain rfl : j = (Perms.solW kd false).length := by omega
        obtain ⟨hh1, hh2⟩ := Perms.hnd_sld (c := 3) hkdh.out (by omega)
        have d1 := Perms.csol_bd kd false 3
        have d2 := Perms.csol_bd kd true 3
        obtain ⟨c0, hc0⟩ : ∃ c0, Perms.csol kd false 3 = c0 := ⟨_, rfl⟩
        obtain ⟨c1, hc1⟩ : ∃ c1, Perms.csol kd true 3 = c1 := ⟨_, rfl⟩
        rw [hh1] at hh2
        rw [hc0, hc1] at hh1 hh2
        rw [hc0] at d1
        rw [hc1] at d2
        have hh1' := Lib.hid hh1
        have hc0' := Lib.hid hc0
        have hc1' := Lib.hid hc1
        clear hh1 hc0 hc1
        go_wp2_with fail
        refine SolidPatterns_i ?_
        intro v14 w14 o14 b14
        rw [F.small]
        obtain ⟨a14, k14, rfl, _, _, _⟩ := o14.form
        have hpe : (((Perms.patsW (Perms.solW kd false) 2).length : Int) == ((Perms.patsW (Perms.solW kd false) 2).length : Int)) = true := by simp
        clear o14
        go_wp2_with fail
        refine CountSolid_i ?_
        intro w15 b15
        rw [← F.pats]
        go_wp2_with fail
        refine HandedSolids_i ?_
        intro w16 b16
        rw [hh1'.out]
        go_wp2_with fail
        refine CountSolid_i ?_
        intro w17 b17
        rw [hc0'.out]
        go_wp2_with fail
        refine CountSolid_i ?_
        intro w18 b18
        rw [hc1'.out]
        have hce : (c0 - c1 == c0 - c1) = true := by simp
        have hcc : c1 ≤ c0 := by omega
        have hdc : decide (c1 ≤ c0) = true := decide_eq_true hcc
        go_wp2_with fail
        refine HandedSolids_i ?_
        intro w19 b19
        rw [hh1'.out]
        have e14 := bj.trans (b14.mono bj.size)
        have e15 := e14.trans (b15.mono e14.size)
        have e16 := e15.trans (b16.mono e15.size)
        have e17 := e16.trans (b17.mono e16.size)
        have e18 := e17.trans (b18.mono e17.size)
        have e19 := e18.trans (b19.mono e18.size)
        have h3 := Lib.hid (H.out w19 (c12.trans (e19.mono c12.size)))
        clear e14 e15 e16 e17 e18 e19
        go_wp2_with fail
        exact h3.out
  · skip
    have hb1 := Lib.hid (hb0.out.below b1)
    have hmt : x1.tmod 5 = 4 := by rw [Int.tmod_eq_emod_of_nonneg hx0]; exact hm
    go_wp2_with fail
    refine CountSolid_i ?_
    intro w2 b2
    rw [Perms.cn3_4]
    go_wp2_with fail
    refine CountSolid_i ?_
    intro w3 b3
    rw [Perms.cn4_4]
    go_wp2_with fail
    refine CountSolid_i ?_
    intro w4 b4
    rw [Perms.cn1_4]
    go_wp2_with fail
    refine CountSolid_i ?_
    intro w5 b5
    rw [Perms.cn2_4]
    have c2 := b1.trans (b2.mono b1.size)
    have c3 := c2.trans (b3.mono c2.size)
    have c4 := c3.trans (b4.mono c3.size)
    have c5 := c4.trans (b5.mono c4.size)
    have hb5 := Lib.hid (hb0.out.below c5)
    go_wp2_with fail
    refine MakeNum_c hb5.out (by omega) (by omega) ?_
    intro x3 w6 hx30 hx31 b6
    have hkd : 1 ≤ 1 + x3 % 4 ∧ 1 + x3 % 4 ≤ 4 := by omega
    obtain ⟨kd, hkd'⟩ : ∃ kd, 1 + x3 % 4 = kd := ⟨_, rfl⟩
    rw [hkd'] at hkd
    have hkt : 1 + x3.tmod 4 = kd := by rw [Int.tmod_eq_emod_of_nonneg hx30]; exact hkd'
    have F := Perms.sld hkd
    have hkdh := Lib.hid hkd
    have hlB : ((((Perms.solW kd true).length : Nat) : Int) != 2 * ((Perms.solW kd false).length : Int)) = false := by
      rw [F.len]
      simp
    have hlA := F.le
    have hlA2 : (Perms.solW kd true).length ≤ 96 := by rw [F.len]; omega
    have c6 := c5.trans (b6.mono c5.size)
    clear c2 c3 c4 b2 b3 b4 b5
    go_wp2_with fail
    refine SolidGroup_i ?_
    intro v7 w7 o7 b7
    rw [F.b1]
    have o7' := Lib.hid o7.at
    obtain ⟨a7, k7, rfl, _, _, _⟩ := o7.form
    clear o7
    go_wp2_with fail
    refine SolidGroup_i ?_
    intro v8 w8 o8 b8
    rw [F.b2]
    have o8' := Lib.hid o8.at
    obtain ⟨a8, k8, rfl, _, _, _⟩ := o8.form
    have o78 := Lib.hid (o7'.out.below b8)
    clear o8
    go_wp2_with fail
    refine GroupOk_i o78.out ?_
    intro w9 b9
    rw [F.g1]
    have o89 := Lib.hid (o8'.out.below b9)
    go_wp2_with fail
    refine GroupOk_i o89.out ?_
    intro w10 b10
    rw [F.g2]
    go_wp2_with fail
    refine SolidClasses_i ?_
    intro v11 w11 o11 b11
    have o11' := Lib.hid o11
    obtain ⟨a11, k11, rfl, _, _, _⟩ := o11.form
    clear o11
    go_wp2_with fail
    refine IndexOrder_i o11'.out F.cs (Perms.scl_small kd).1 ?_
    intro w12 b12
    rw [F.sum]
    have d8 := b9.trans (b10.mono b9.size)
    have d9 := d8.trans (b11.mono d8.size)
    have d10 := d9.trans (b12.mono d9.size)
    have hgA := Lib.hid (o78.out.below d10)
    have hgB := Lib.hid (o8'.out.below d10)
    have c7 := c6.trans (b7.mono c6.size)
    have c8 := c7.trans (b8.mono c7.size)
    have c12 := c8.trans (d10.mono c8.size)
    have hne0 : (((Perms.solW kd false).length : Int) != ((Perms.solW kd false).length : Int)) = false := by simp
    clear d8 d9 d10 c7 c8 b7 b8 b9 b10 b11 b12 o78 o89 o7' o8' o11'
    go_wp2_with fail
    go_loopg [135] (Perms.solW kd false).length (fun gg u135 wr => ∃ (j : Nat), u135 = .int .i64 j ∧ Below w12.heap.size w12 wr ∧ j + gg ≤ (Perms.solW kd false).length ∧ (Perms.solW kd false).length ≤ j + gg)
    case atStart => exact ⟨0, rfl, Below.refl _ _, by omega, by omega⟩
    case round =>
      obtain ⟨j, rfl, bj, hj1, hj2⟩ := hrel
      by_cases hj : j < (Perms.solW kd false).length
      · have hjI : (j : Int) < (Perms.solW kd false).length := by omega
        obtain ⟨bb, ff, u, p, e7, hp, hcp, hup⟩ := (hgA.out.below bj).cell hj
        cases e7
        obtain ⟨hpl, hpm⟩ := F.mem p (List.mem_of_getElem? hp.out)
        obtain ⟨ap, cp, rfl, _, _, _⟩ := hup.form
        have hup' := Lib.hid hup
        have hpl' : ((p.length : Int) != Nums.sdeg kd) = false := by rw [hpl]; simp
        have hpm' := Lib.hid hpm
        have hgB2 := Lib.hid (hgB.out.below bj)
        clear hpl hpm hup
        go_wp2_with (go_at_call 21; refine SolidDegree_i ?_)
        refine HasPerm_i hgB2.out hup'.out F.g2 hpm'.out ?_
        intro w13 b13
        go_wp2_with fail
        go_roundg (gk - 1)
        case measure => omega
        case rel => exact ⟨j + 1, by go_num, bj.trans (b13.mono bj.size), by omega, by omega⟩
      · obtain rfl : j = (Perms.solW kd false).length := by omega
        obtain ⟨hh1, hh2⟩ := Perms.hnd_sld (c := 4) hkdh.out (by omega)
        have d1 := Perms.csol_bd kd false 4
        have d2 := Perms.csol_bd kd true 4
        obtain ⟨c0, hc0⟩ : ∃ c0, Perms.csol kd false 4 = c0 := ⟨_, rfl⟩
        obtain ⟨c1, hc1⟩ : ∃ c1, Perms.csol kd true 4 = c1 := ⟨_, rfl⟩
        rw [hh1] at hh2
        rw [hc0, hc1] at hh1 hh2
        rw [hc0] at d1
        rw [hc1] at d2
        have hh1' := Lib.hid hh1
        have hc0' := Lib.hid hc0
        have hc1' := Lib.hid hc1
        clear hh1 hc0 hc1
        go_wp2_with fail
        refine SolidPatterns_i ?_
        intro v14 w14 o14 b14
        rw [F.small]
        obtain ⟨a14, k14, rfl, _, _, _⟩ := o14.form
        have hpe : (((Perms.patsW (Perms.solW kd false) 2).length : Int) == ((Perms.patsW (Perms.solW kd false) 2).length : Int)) = true := by simp
        clear o14
        go_wp2_with fail
        refine CountSolid_i ?_
        intro w15 b15
        rw [← F.pats]
        go_wp2_with fail
        refine HandedSolids_i ?_
        intro w16 b16
        rw [hh1'.out]
        go_wp2_with fail
        refine CountSolid_i ?_
        intro w17 b17
        rw [hc0'.out]
        go_wp2_with fail
        refine CountSolid_i ?_
        intro w18 b18
        rw [hc1'.out]
        have hce : (c0 - c1 == c0 - c1) = true := by simp
        have hcc : c1 ≤ c0 := by omega
        have hdc : decide (c1 ≤ c0) = true := decide_eq_true hcc
        go_wp2_with fail
        refine HandedSolids_i ?_
        intro w19 b19
        rw [hh1'.out]
        have e14 := bj.trans (b14.mono bj.size)
        have e15 := e14.trans (b15.mono e14.size)
        have e16 := e15.trans (b16.mono e15.size)
        have e17 := e16.trans (b17.mono e16.size)
        have e18 := e17.trans (b18.mono e17.size)
        have e19 := e18.trans (b19.mono e18.size)
        have h3 := Lib.hid (H.out w19 (c12.trans (e19.mono c12.size)))
        clear e14 e15 e16 e17 e18 e19
        go_wp2_with fail
        exact h3.out
end Go.Proofs.Ytdjdagcgodpgdaa
