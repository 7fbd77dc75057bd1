/-
  The memory of 'necklaces', and what its closure does.
-/
import Derived.Test.YtmlmpneikhdgcaaBrace
import Derived.Test.YtmlmpneikhdgcaaMemT
import Derived.Test.YtmlmpneikhdgcaaGrowP
set_option linter.unusedVariables false
namespace Go.Proofs.Ytmlmpneikhdgcaa
open Go.RowKit

/-- A variable on the heap, of one cell. -/
def BoxAt (w : World) (b : Nat) (T : TypeId) (v : Value) : Prop := w.heap[b]? = some (.cells #[v] T (0, 0))
theorem BoxAt.cell {w : World} {b : Nat} {T : TypeId} {v : Value} (h : BoxAt w b T v) : w.cell? ⟨b, 0, none⟩ = some v := by
  rw [cell_of_row w b 0 _ _ _ h]; rfl
theorem BoxAt.frozen {w : World} {b : Nat} {T : TypeId} {v : Value} (h : BoxAt w b T v) : w.frozen? ⟨b, 0, none⟩ = false := by
  unfold BoxAt at h
  simp [World.frozen?, h]
theorem BoxAt.set {w : World} {b : Nat} {T : TypeId} {v : Value} (h : BoxAt w b T v) (u : Value) : BoxAt (w.setCell ⟨b, 0, none⟩ u) b T u := by
  unfold BoxAt at h ⊢
  simp [World.setCell, Array.getElem?_modify, h]
theorem BoxAt.lt {w : World} {b : Nat} {T : TypeId} {v : Value} (h : BoxAt w b T v) : b < w.heap.size := (Array.getElem?_eq_some_iff.1 h).1
theorem BoxAt.below {w w' : World} {b : Nat} {T : TypeId} {v : Value} (h : BoxAt w b T v) (hb : Below w.heap.size w w') : BoxAt w' b T v := by
  unfold BoxAt at h ⊢
  rw [hb.block b (Array.getElem?_eq_some_iff.1 h).1]; exact h
theorem BoxAt.drawn {w w' : World} {b : Nat} {T : TypeId} {v : Value} (h : BoxAt w b T v) (hd : Drawn w w') : BoxAt w' b T v := by
  unfold BoxAt at h ⊢
  rw [hd.heap]; exact h
theorem BoxAt.grown {w w' : World} {b : Nat} {T : TypeId} {v : Value} {row : Option Nat} (h : BoxAt w b T v) (hg : w.grownBy w' row) (hr : row ≠ some b) : BoxAt w' b T v := by
  unfold BoxAt at h ⊢
  rw [hg.block b (Array.getElem?_eq_some_iff.1 h).1 (fun e => hr e.symm)]; exact h
/-- A box holds another type than a row of the call's own. -/
theorem BoxAt.apart {w : World} {b B : Nat} {T T' : TypeId} {v u : Value} {xs : List Value} (h : BoxAt w b T v) (ho : Own w B T' u xs) (hT : T ≠ T') : u.ownBlock ≠ some b := by
  intro e
  obtain ⟨cur, hc⟩ := ho.block e
  unfold BoxAt at h
  rw [h] at hc
  cases hc
  exact hT rfl
/-- What 'necklaces' has in memory while it grows words: the word, the box with the list so far. -/
structure GrowAll (w : World) (B R b g n : Nat) (cur : List Int) (acc : List (List Int)) : Prop where
  word : OwnInts w B (.slice (some ⟨g, 0, none⟩) n n) cur
  gR : g < R
  bR : b < R
  Bb : B ≤ b
  BR : B ≤ R
  size : R ≤ w.heap.size
  box : ∃ vo us, BoxAt w b 31 vo ∧ Own w B 22 vo us ∧ Rows w R w.heap.size us acc
theorem GrowAll.set {w : World} {B R b g n : Nat} {cur : List Int} {acc : List (List Int)} (h : GrowAll w B R b g n cur acc) (i : Nat) (x : Int) : GrowAll (w.setCell ⟨g, i, none⟩ (.int .i64 x)) B R b g n (cur.set i x) acc := by
  obtain ⟨vo, us, h1, h2, h3⟩ := h.box
  have hg := grown_set w g i (.int .i64 x)
  refine ⟨OwnInts.set h.word i x, h.gR, h.bR, h.Bb, h.BR, Nat.le_trans h.size hg.size, vo, us, h1.grown hg ?_, Own.grown h2 hg (own_types h.word h2 (by decide)), ?_⟩
  · have := h1.apart h.word (by decide)
    exact this
  · exact (h3.grown hg (fun k hk => by cases hk; exact .inl h.gR)).mono (Nat.le_refl _) hg.size
theorem GrowAll.drawn {w w' : World} {B R b g n : Nat} {cur : List Int} {acc : List (List Int)} (h : GrowAll w B R b g n cur acc) (hd : Drawn w w') : GrowAll w' B R b g n cur acc := by
  obtain ⟨vo, us, h1, h2, h3⟩ := h.box
  exact ⟨OwnInts.drawn h.word hd, h.gR, h.bR, h.Bb, h.BR, Nat.le_trans h.size (hd.below 0).size, vo, us, h1.drawn hd, h2.drawn hd, (h3.drawn hd).mono (Nat.le_refl _) (hd.below 0).size⟩
theorem row_one (w : World) (v : Value) (T : TypeId) : RowAt (w.alloc (.cells #[v] T)) (.slice (some ⟨w.heap.size, 0, none⟩) 1 1) [v] := by
  refine ⟨some ⟨w.heap.size, 0, none⟩, 1, rfl, Nat.le_refl _, by unfold maxLen; omega, (fun h => by cases h), ?_⟩
  intro k x hk
  cases k with
  | zero =>
    simp at hk; subst hk
    exact ⟨w.heap.size, 0, rfl, cell_new w v T⟩
  | succ k => simp at hk
theorem step_app_val {w : World} {ops : Array Oper} {o : Oper} {a : Act} {K : Act → World → Prop} {Q : Exit → Act → World → Prop} {E : Prop} (hg : o.guard = none) (s x : Operand) (hop : o.op = .call { callee := .builtin .append, args := #[s, x], argTypes := #[31, 31] })
    {B : Nat} {v u : Value} {us ys : List Value} (hs : a.eval s = v) (hown : Own w B 22 v us) (hx : a.eval x = u) (hrow : RowAt w u ys) (h1 : ∀ y ∈ ys, y.oneCell' = true)
    (hn : us.length + ys.length ≤ 1099511627776) (hB : B ≤ w.heap.size)
    (hK : ∀ v' w', Own w' B 22 v' (us ++ ys) → w.grownBy w' v.ownBlock → K (a.put o.dst v') w') :
    if Region.wanted o (yielded ops a.tmps) = true then Oper.wp Try.prog o a w K Q else E :=
  step_app_row hg 31 22 (.slice none 0 0) 24 Try.infoInts Try.underlying31 rfl s x hop hs hown hx hrow h1 (by omega) (by unfold maxLen; omega) hB hK
theorem GrowAll.push {w w2 w4 : World} {B R b g n : Nat} {cur : List Int} {acc : List (List Int)} {us : List Value} {vo u2 v4 v : Value} {X : Obj} (h : GrowAll w B R b g n cur acc) (hrows : Rows w R w.heap.size us acc)
    (bw2 : Below w.heap.size w w2) (o2 : OwnInts w2 w.heap.size u2 cur) (ho3 : Own (w2.alloc X) B 22 vo us) (o4 : Own w4 B 22 v4 (us ++ [u2])) (g4 : (w2.alloc X).grownBy w4 vo.ownBlock) (hbox4 : BoxAt w4 b 31 v) :
    GrowAll (w4.setCell ⟨b, 0, none⟩ v4) B R b g n cur (acc ++ [cur]) ∧ Below B w (w4.setCell ⟨b, 0, none⟩ v4) := by
  have bw3 : Below w.heap.size w (w2.alloc X) := bw2.alloc bw2.size X
  have hB : B ≤ w.heap.size := Nat.le_trans h.BR h.size
  have hs3 := bw3.size
  have hs4 := g4.size
  have hw3 := Own.below h.word bw3
  have hw4 := Own.grown hw3 g4 (own_types ho3 hw3 (by decide))
  have hr4 := (hrows.below bw3).outer ho3 g4
  have hu3 := Own.below o2 (below_alloc w2 X)
  have hu4 := Own.grown hu3 g4 (own_types ho3 hu3 (by decide))
  have hp := hr4.push (u := u2) (xs := cur) (Own.mono hu4 h.size) (fun k hk => (Own.lt o2 hk).1)
  have gs := grown_set w4 b 0 v4
  refine ⟨⟨Own.setOther hw4 v4 (hbox4.apart hw4 (by decide)), h.gR, h.bR, h.Bb, h.BR, Nat.le_trans h.size (Nat.le_trans hs3 (Nat.le_trans hs4 gs.size)), v4, us ++ [u2], hbox4.set v4, Own.setOther o4 v4 (hbox4.apart o4 (by decide)), (hp.grown gs (fun k hk => by cases hk; exact .inl h.bR)).mono (Nat.le_refl _) gs.size⟩, ?_⟩
  exact ((bw3.mono hB).grown g4 (Nat.le_trans hB hs3) (fun k hk => (Own.lt ho3 hk).1)).setCell h.Bb _
set_option maxHeartbeats 800000 in
theorem see_all {B R b g n : Nat} {cur : List Int} {acc : List (List Int)} {w : World} {Q : Ending → World → Prop} (hw : GrowAll w B R b g n cur acc) (hn : n ≤ 10) (hc : cur.length = n) (hacc : acc.length ≤ 2000000)
    (hQ : ∀ w', GrowAll w' B R b g n cur (acc ++ [cur]) → Below B w w' → Q (.returned (.bool true)) w') :
    Calls Try.prog 92 #[.slice (some ⟨g, 0, none⟩) n n, .pointer (some ⟨b, 0, none⟩)] w Q := by
  have H := Lib.hid hQ; clear hQ
  have hw' := Lib.hid hw
  obtain ⟨hword, hgR, hbR, hBb, hBR, hsz, vo, us, hbox, hout, hrows⟩ := hw
  have hrows' := Lib.hid hrows
  obtain ⟨ao, co, rfl, lo, lco, cco⟩ := Own.form hout
  have hul := hrows.1
  rw [hul] at hout hbox
  have hcell := hbox.cell
  have hfro := hbox.frozen
  have hul' := Lib.hid hul
  clear hul
  have hcw : IntsAt w.drew (.slice (some ⟨g, 0, none⟩) n n) cur := OwnInts.at (OwnInts.drawn hword (Drawn.one w 1))
  have hB : B ≤ w.heap.size := Nat.le_trans hBR hsz
  go_enter Try.func92, Try.ntmps92
  go_wp2_with fail
  go_region_law (first
    | (go_simp; go_at_call 56; refine Clone_c hcw (by omega) ?_; intro v2 w2 o2 b2; obtain ⟨ao2, ca2, rfl, _, _, _⟩ := Own.form o2; have bw2 : Below w.heap.size w w2 := ((Drawn.one w 1).below _).trans b2; have hcell2 := (hbox.below bw2).cell; have bw3 := bw2.alloc bw2.size (.cells #[.slice ao2 (ints cur).length ca2] 22); have ho3 := Own.below hout bw3; have hcell3 := (hbox.below bw3).cell)
    | (refine step_app_val rfl (.tmp 4) (.tmp 7) rfl rfl ho3 rfl (row_one w2 _ _) (by simp [Value.oneCell']) (by simp; have := hul'.out; omega) (Nat.le_trans hB bw3.size) ?_; intro v4 w4 o4 g4; obtain ⟨ao4, ca4, rfl, _, _, _⟩ := Own.form o4; have hb4 := (hbox.below bw3).grown g4 (BoxAt.apart (hbox.below bw3) ho3 (by decide)); have hcell4 := hb4.cell; have hfro4 := hb4.frozen))
  all_goals
    rw [List.length_append, List.length_singleton] at o4
    obtain ⟨h1, h2⟩ := hw'.out.push hrows'.out bw2 o2 ho3 o4 g4 hb4
    have h3 := Lib.hid (H.out _ h1 h2)
    clear h1 h2
    go_wp2_with fail
    exact h3.out
end Go.Proofs.Ytmlmpneikhdgcaa
