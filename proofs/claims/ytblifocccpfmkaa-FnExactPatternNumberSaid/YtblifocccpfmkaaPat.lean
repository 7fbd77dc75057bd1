/-
  The least image of a coloring.
-/
import Derived.Test.YtblifocccpfmkaaGrp2
import Derived.Test.YtblifocccpfmkaaPats
set_option linter.unusedVariables false
namespace Go.Proofs.Ytblifocccpfmkaa
open Go.RowKit

set_option maxHeartbeats 800000 in
theorem canon_i {vg vl : Value} {g : List (List Int)} {l : List Int} {w : World} {Q : Ending → World → Prop} (hg : RowsAt w vg g) (hl : IntsAt w vl l) (hf : Perms.Fit g l)
    (hQ : ∀ v w', OwnInts w' w.heap.size v (Perms.canon g l) → Below w.heap.size w w' → Q (.returned v) w') :
    Calls Try.prog 43 #[vg, vl] w Q := by
  have H := Lib.hid hQ; clear hQ
  obtain ⟨hf1, hf2, hf3⟩ := hf
  have hf1' := Lib.hid hf1
  clear hf1
  obtain ⟨aa, ca, rfl, la, lca, cca⟩ := hg.form
  obtain ⟨al, cl, rfl, ll, lcl, ccl⟩ := hl.form
  go_enter Try.func43, Try.ntmps43
  go_wp2_with fail
  go_loopg [5, 12] g.length (fun k b i wr => Below w.heap.size w wr ∧ ∃ j : Nat, i = .int .i64 j ∧ IntsAt wr b (Perms.canonTo g l j) ∧ j + k ≤ g.length ∧ g.length ≤ j + k)
  case atStart => exact ⟨Below.refl _ _, 0, rfl, hl, by omega, by omega⟩
  case round =>
    obtain ⟨hbw, j, rfl, ho, hk1, hk2⟩ := hrel
    by_cases hj : j < g.length
    · have i1 : (j : Int) < g.length := by omega
      obtain ⟨b, off, u, p, rfl, hx, hcw, hip⟩ := hg.cell hj
      have hc := below_cells hbw _ _ hcw
      obtain ⟨fp1, fp2⟩ := hf1'.out p (List.mem_of_getElem? hx.out)
      have fp1' := Lib.hid fp1
      have fp2' := Lib.hid fp2
      clear fp1 fp2
      have es := Lib.hid (Perms.canonTo_step (l := l) hx.out)
      have el := Lib.hid (Perms.canonTo_len g l j)
      go_wp2_with fail
      refine act_i (hip.below hbw) (hl.below hbw) (by omega) fp1'.out fp2'.out ?_
      intro v2 w2 o2 b2
      have hbw2 : Below w.heap.size w w2 := hbw.trans (b2.mono hbw.size)
      have ho2 := ho.below b2
      by_cases hb : Words.cmpL (Perms.act p l) (Perms.canonTo g l j) < 0
      · have es2 := es.out
        rw [if_pos hb] at es2
        have es3 := Lib.hid es2
        clear es2 es
        go_wp2_with fail
        refine Compare_c o2.at ho2 ?_
        go_wp2_with fail
        go_roundg (gk - 1)
        case measure => omega
        case rel => exact ⟨hbw2, j + 1, by go_num, by rw [es3.out]; exact o2.at, by omega, by omega⟩
      · have es2 := es.out
        rw [if_neg hb] at es2
        have es3 := Lib.hid es2
        clear es2 es
        go_wp2_with fail
        refine Compare_c o2.at ho2 ?_
        go_wp2_with fail
        go_roundg (gk - 1)
        case measure => omega
        case rel => exact ⟨hbw2, j + 1, by go_num, by rw [es3.out]; exact ho2, by omega, by omega⟩
    · obtain rfl : j = g.length := by omega
      have el := Lib.hid (Perms.canonTo_len g l g.length)
      go_wp2_with fail
      refine Clone_c ho (by rw [el.out]; omega) ?_
      intro v3 w3 o3 b3
      go_wp2_with fail
      exact H.out _ _ (OwnInts.mono o3 hbw.size) (hbw.trans (b3.mono hbw.size))
set_option maxHeartbeats 800000 in
theorem canon_s {vg vl : Value} {g : List (List Int)} {l : List Int} {w : World} {Q : Ending → World → Prop} (hg : RowsAt w vg g) (hl : IntsAt w vl l) (hf : Perms.Fit g l)
    (hQ : ∀ v w', OwnInts w' w.heap.size v (Perms.canon g l) → Below w.heap.size w w' → Q (.returned v) w') :
    Calls Try.prog 40 #[vg, vl] w Q := by
  have H := Lib.hid hQ; clear hQ
  obtain ⟨hf1, hf2, hf3⟩ := hf
  have hf1' := Lib.hid hf1
  clear hf1
  obtain ⟨aa, ca, rfl, la, lca, cca⟩ := hg.form
  obtain ⟨al, cl, rfl, ll, lcl, ccl⟩ := hl.form
  go_enter Try.func40, Try.ntmps40
  go_wp2_with fail
  go_loopg [5, 12] g.length (fun k b i wr => Below w.heap.size w wr ∧ ∃ j : Nat, i = .int .i64 j ∧ IntsAt wr b (Perms.canonTo g l j) ∧ j + k ≤ g.length ∧ g.length ≤ j + k)
  case atStart => exact ⟨Below.refl _ _, 0, rfl, hl, by omega, by omega⟩
  case round =>
    obtain ⟨hbw, j, rfl, ho, hk1, hk2⟩ := hrel
    by_cases hj : j < g.length
    · have i1 : (j : Int) < g.length := by omega
      obtain ⟨b, off, u, p, rfl, hx, hcw, hip⟩ := hg.cell hj
      have hc := below_cells hbw _ _ hcw
      obtain ⟨fp1, fp2⟩ := hf1'.out p (List.mem_of_getElem? hx.out)
      have fp1' := Lib.hid fp1
      have fp2' := Lib.hid fp2
      clear fp1 fp2
      have es := Lib.hid (Perms.canonTo_step (l := l) hx.out)
      have el := Lib.hid (Perms.canonTo_len g l j)
      go_wp2_with fail
      refine act_s (hip.below hbw) (hl.below hbw) (by omega) fp1'.out fp2'.out ?_
      intro v2 w2 o2 b2
      have hbw2 : Below w.heap.size w w2 := hbw.trans (b2.mono hbw.size)
      have ho2 := ho.below b2
      by_cases hb : Words.cmpL (Perms.act p l) (Perms.canonTo g l j) < 0
      · have es2 := es.out
        rw [if_pos hb] at es2
        have es3 := Lib.hid es2
        have hls : Hid (Words.less (Perms.act p l) (Perms.canonTo g l j) = true) := Lib.hid ((Words.less_neg (by rw [Perms.act_len, Perms.canonTo_len])).2 hb)
        clear es2 es hb
        go_wp2_with fail
        refine l03Less_c o2.at ho2 (by rw [Perms.act_len, el.out]) ?_
        rw [hls.out]
        go_wp2_with fail
        go_roundg (gk - 1)
        case measure => omega
        case rel => exact ⟨hbw2, j + 1, by go_num, by rw [es3.out]; exact o2.at, by omega, by omega⟩
      · have es2 := es.out
        rw [if_neg hb] at es2
        have es3 := Lib.hid es2
        have hls : Hid (Words.less (Perms.act p l) (Perms.canonTo g l j) = false) := Lib.hid (by
          cases hc2 : Words.less (Perms.act p l) (Perms.canonTo g l j) with
          | false => rfl
          | true => exact absurd ((Words.less_neg (by rw [Perms.act_len, Perms.canonTo_len])).1 hc2) hb)
        clear es2 es hb
        go_wp2_with fail
        refine l03Less_c o2.at ho2 (by rw [Perms.act_len, el.out]) ?_
        rw [hls.out]
        go_wp2_with fail
        go_roundg (gk - 1)
        case measure => omega
        case rel => exact ⟨hbw2, j + 1, by go_num, by rw [es3.out]; exact ho2, by omega, by omega⟩
    · obtain rfl : j = g.length := by omega
      have el := Lib.hid (Perms.canonTo_len g l g.length)
      have hm := hbw.size
      go_wp2_with (at_builtin; refine app_ints rfl (.tmp 24) (.tmp 25) rfl rfl (own_empty wr) rfl (ho.below (below_alloc wr _)) (by rw [el.out]; simp; omega) (by simp) ?_; intro v3 w3 o3 g3; change World.grownBy _ w3 (some wr.heap.size) at g3; have b3 : Below wr.heap.size wr w3 := (below_alloc wr _).grown g3 (by simp) (by intro k hk; cases hk; exact Nat.le_refl _))
      exact H.out _ _ (OwnInts.mono o3 hm) (hbw.trans (b3.mono hm))
set_option maxHeartbeats 800000 in
theorem fits_s {vg vl : Value} {g : List (List Int)} {l : List Int} {w : World} {Q : Ending → World → Prop} (hg : RowsAt w vg g) (hl : IntsAt w vl l)
    (hQ : ∀ w', Below w.heap.size w w' → Q (.returned (.bool (Perms.fitsB g l))) w') :
    Calls Try.prog 39 #[vg, vl] w Q := by
  have H := Lib.hid hQ; clear hQ
  obtain ⟨aa, ca, rfl, la, lca, cca⟩ := hg.form
  obtain ⟨al, cl, rfl, ll, lcl, ccl⟩ := hl.form
  go_enter Try.func39, Try.ntmps39
  go_wp2_with fail
  refine GroupOk_s hg ?_
  intro w1 b1
  cases hgb : Perms.grpB g with
  | false =>
    have hf : Hid (Perms.fitsB g l = false) := Lib.hid (by unfold Perms.fitsB; rw [hgb]; rfl)
    go_wp2_with fail
    exact boolq' (H.out _ b1) hf.out
  | true =>
    go_wp2_with fail
    refine ColoringOk_s (hl.below b1) ?_
    cases hlb : Words.okW l with
    | false =>
      have hf : Hid (Perms.fitsB g l = false) := Lib.hid (by unfold Perms.fitsB; rw [hgb, hlb]; rfl)
      go_wp2_with fail
      exact boolq' (H.out _ b1) hf.out
    | true =>
      have hn := (Perms.grpB_parts hgb).1
      have i1 : (0 : Int) < g.length := by omega
      obtain ⟨b, off, u, p, rfl, hx, hcw, hip⟩ := hg.cell (k := 0) (by omega)
      rw [Nat.add_zero] at hcw
      have hc := below_cells b1 _ _ hcw
      obtain ⟨ap, cp, rfl, lp, _, _⟩ := hip.form
      have hf : Hid (Perms.fitsB g l = decide (l.length = p.length)) := Lib.hid (by unfold Perms.fitsB; rw [hgb, hlb]; simp [Perms.row0, hx.out])
      go_wp2_with fail
      refine boolq' (H.out _ b1) ?_
      rw [hf.out, Bool.eq_iff_iff]
      simp
      try omega
set_option maxHeartbeats 800000 in
theorem CanonOf_i {vg vl : Value} {g : List (List Int)} {l : List Int} {w : World} {Q : Ending → World → Prop} (hg : RowsAt w vg g) (hl : IntsAt w vl l)
    (hQ : ∀ v w', OwnInts w' w.heap.size v (Perms.canonW g l) → Below w.heap.size w w' → Q (.returned (.tuple #[v, .bool (Perms.fitsB g l)])) w') :
    Calls Try.prog 21 #[vg, vl] w Q := by
  have H := Lib.hid hQ; clear hQ
  have hg0 := Lib.hid hg
  have hl0 := Lib.hid hl
  obtain ⟨aa, ca, rfl, la, lca, cca⟩ := hg.form
  obtain ⟨al, cl, rfl, ll, lcl, ccl⟩ := hl.form
  have bad : ∀ w', Below w.heap.size w w' → Perms.fitsB g l = false → Q (.returned (.tuple #[.slice none 0 0, .bool false])) w' := fun w' hb hf => by
    have := H.out (.slice none 0 0) w' (by unfold Perms.canonW; rw [if_neg (by rw [hf]; simp)]; exact Own.nil _ _ _) hb
    rw [hf] at this; exact this
  have bad' := Lib.hid bad
  clear bad
  go_enter Try.func21, Try.ntmps21
  go_wp2_with fail
  refine GroupOk_i hg ?_
  intro w1 b1
  cases hgb : Perms.grpB g with
  | false =>
    have hf : Hid (Perms.fitsB g l = false) := Lib.hid (by unfold Perms.fitsB; rw [hgb]; rfl)
    go_wp2_with fail
    exact bad'.out _ b1 hf.out
  | true =>
    go_wp2_with fail
    refine ColoringOk_i (hl.below b1) ?_
    cases hlb : Words.okW l with
    | false =>
      have hf : Hid (Perms.fitsB g l = false) := Lib.hid (by unfold Perms.fitsB; rw [hgb, hlb]; rfl)
      go_wp2_with fail
      exact bad'.out _ b1 hf.out
    | true =>
      have hn := (Perms.grpB_parts hgb).1
      have i1 : (0 : Int) < g.length := by omega
      obtain ⟨b, off, u, p, rfl, hx, hcw, hip⟩ := hg.cell (k := 0) (by omega)
      rw [Nat.add_zero] at hcw
      have hc := below_cells b1 _ _ hcw
      obtain ⟨ap, cp, rfl, lp, _, _⟩ := hip.form
      have hf : Hid (Perms.fitsB g l = decide (l.length = p.length)) := Lib.hid (by unfold Perms.fitsB; rw [hgb, hlb]; simp [Perms.row0, hx.out])
      by_cases he : l.length = p.length
      · have hf2 : Hid (Perms.fitsB g l = true) := Lib.hid (by rw [hf.out, decide_eq_true he])
        have hne : ((p.length : Int) != l.length) = false := by rw [he]; simp
        clear hf he
        go_wp2_with fail
        refine canon_i (hg0.out.below b1) (hl0.out.below b1) (Perms.fitsB_fit hf2.out) ?_
        intro v2 w2 o2 b2
        have h2 := H.out v2 w2 (by unfold Perms.canonW; rw [if_pos hf2.out]; exact OwnInts.mono o2 b1.size) (b1.trans (b2.mono b1.size))
        rw [hf2.out] at h2
        have h3 := Lib.hid h2
        clear h2
        go_wp2_with fail
        exact h3.out
      · have hf2 : Hid (Perms.fitsB g l = false) := Lib.hid (by rw [hf.out, decide_eq_false he])
        have hne : ((p.length : Int) != l.length) = true := by simp; omega
        clear hf he
        go_wp2_with fail
        exact bad'.out _ b1 hf2.out
set_option maxHeartbeats 800000 in
theorem CanonOf_s {vg vl : Value} {g : List (List Int)} {l : List Int} {w : World} {Q : Ending → World → Prop} (hg : RowsAt w vg g) (hl : IntsAt w vl l)
    (hQ : ∀ v w', OwnInts w' w.heap.size v (Perms.canonW g l) → Below w.heap.size w w' → Q (.returned (.tuple #[v, .bool (Perms.fitsB g l)])) w') :
    Calls Try.prog 20 #[vg, vl] w Q := by
  have H := Lib.hid hQ; clear hQ
  have hg0 := Lib.hid hg
  have hl0 := Lib.hid hl
  obtain ⟨aa, ca, rfl, la, lca, cca⟩ := hg.form
  obtain ⟨al, cl, rfl, ll, lcl, ccl⟩ := hl.form
  go_enter Try.func20, Try.ntmps20
  go_wp2_with fail
  refine fits_s hg0.out hl0.out ?_
  intro w1 b1
  cases hgb : Perms.fitsB g l with
  | false =>
    have h2 := H.out (.slice none 0 0) w1 (by unfold Perms.canonW; rw [if_neg (by rw [hgb]; simp)]; exact Own.nil _ _ _) b1
    rw [hgb] at h2
    have h3 := Lib.hid h2
    clear h2
    go_wp2_with fail
    exact h3.out
  | true =>
    have hf2 := Lib.hid hgb
    clear hgb
    go_wp2_with fail
    refine canon_s (hg0.out.below b1) (hl0.out.below b1) (Perms.fitsB_fit hf2.out) ?_
    intro v2 w2 o2 b2
    have h2 := H.out v2 w2 (by unfold Perms.canonW; rw [if_pos hf2.out]; exact OwnInts.mono o2 b1.size) (b1.trans (b2.mono b1.size))
    rw [hf2.out] at h2
    have h3 := Lib.hid h2
    clear h2
    go_wp2_with fail
    exact h3.out
set_option maxHeartbeats 800000 in
theorem IsCanonical_i {vg vl : Value} {g : List (List Int)} {l : List Int} {w : World} {Q : Ending → World → Prop} (hg : RowsAt w vg g) (hl : IntsAt w vl l)
    (hQ : ∀ w', Below w.heap.size w w' → Q (.returned (.bool (Perms.canonB g l))) w') :
    Calls Try.prog 15 #[vg, vl] w Q := by
  have H := Lib.hid hQ; clear hQ
  have hg0 := Lib.hid hg
  have hl0 := Lib.hid hl
  obtain ⟨aa, ca, rfl, la, lca, cca⟩ := hg.form
  obtain ⟨al, cl, rfl, ll, lcl, ccl⟩ := hl.form
  go_enter Try.func15, Try.ntmps15
  go_wp2_with fail
  refine CanonOf_i hg0.out hl0.out ?_
  intro v1 w1 o1 b1
  cases hfb : Perms.fitsB g l with
  | false =>
    have hf : Hid (Perms.canonB g l = false) := Lib.hid (by unfold Perms.canonB; rw [hfb]; rfl)
    go_wp2_with fail
    exact boolq' (H.out _ b1) hf.out
  | true =>
    have hf : Hid (Perms.canonB g l = decide (Perms.canonW g l = l)) := Lib.hid (by unfold Perms.canonB; rw [hfb]; rfl)
    go_wp2_with fail
    refine Equal_c o1.at (hl0.out.below b1) ?_
    intro w2 d2
    go_wp2_with fail
    exact boolq' (H.out _ (b1.trans (d2.below _))) hf.out
set_option maxHeartbeats 800000 in
theorem IsCanonical_s {vg vl : Value} {g : List (List Int)} {l : List Int} {w : World} {Q : Ending → World → Prop} (hg : RowsAt w vg g) (hl : IntsAt w vl l)
    (hQ : ∀ w', Below w.heap.size w w' → Q (.returned (.bool (Perms.canonB g l))) w') :
    Calls Try.prog 12 #[vg, vl] w Q := by
  have H := Lib.hid hQ; clear hQ
  have hg0 := Lib.hid hg
  have hl0 := Lib.hid hl
  obtain ⟨aa, ca, rfl, la, lca, cca⟩ := hg.form
  obtain ⟨al, cl, rfl, ll, lcl, ccl⟩ := hl.form
  go_enter Try.func12, Try.ntmps12
  go_wp2_with fail
  refine CanonOf_s hg0.out hl0.out ?_
  intro v1 w1 o1 b1
  cases hfb : Perms.fitsB g l with
  | false =>
    have hf : Hid (Perms.canonB g l = false) := Lib.hid (by unfold Perms.canonB; rw [hfb]; rfl)
    go_wp2_with fail
    exact boolq' (H.out _ b1) hf.out
  | true =>
    have hf : Hid (Perms.canonB g l = decide (Perms.canonW g l = l)) := Lib.hid (by unfold Perms.canonB; rw [hfb]; rfl)
    go_wp2_with fail
    refine l03Same_c o1.at (hl0.out.below b1) ?_
    intro w2 d2
    go_wp2_with fail
    exact boolq' (H.out _ (b1.trans (d2.below _))) hf.out
set_option maxHeartbeats 800000 in
theorem SamePattern_i {vg va vb : Value} {g : List (List Int)} {a b : List Int} {w : World} {Q : Ending → World → Prop} (hg : RowsAt w vg g) (ha : IntsAt w va a) (hb : IntsAt w vb b)
    (hQ : ∀ w', Below w.heap.size w w' → Q (.returned (.bool (Perms.sameB g a b))) w') :
    Calls Try.prog 19 #[vg, va, vb] w Q := by
  have H := Lib.hid hQ; clear hQ
  have hg0 := Lib.hid hg
  have ha0 := Lib.hid ha
  have hb0 := Lib.hid hb
  obtain ⟨aa, ca, rfl, la, lca, cca⟩ := hg.form
  obtain ⟨al, cl, rfl, ll, lcl, ccl⟩ := ha.form
  obtain ⟨ab, cb, rfl, lb, lcb, ccb⟩ := hb.form
  go_enter Try.func19, Try.ntmps19
  go_wp2_with fail
  refine CanonOf_i hg0.out ha0.out ?_
  intro v1 w1 o1 b1
  go_wp2_with fail
  refine CanonOf_i (hg0.out.below b1) (hb0.out.below b1) ?_
  intro v2 w2 o2 b2
  have o1' := OwnInts.below o1 b2
  have b12 : Below w.heap.size w w2 := b1.trans (b2.mono b1.size)
  cases hfa : Perms.fitsB g a with
  | false =>
    have hf : Hid (Perms.sameB g a b = false) := Lib.hid (by unfold Perms.sameB; rw [hfa]; rfl)
    go_wp2_with fail
    exact boolq' (H.out _ b12) hf.out
  | true =>
    cases hfb : Perms.fitsB g b with
    | false =>
      have hf : Hid (Perms.sameB g a b = false) := Lib.hid (by unfold Perms.sameB; rw [hfa, hfb]; rfl)
      go_wp2_with fail
      exact boolq' (H.out _ b12) hf.out
    | true =>
      have hf : Hid (Perms.sameB g a b = decide (Perms.canonW g a = Perms.canonW g b)) := Lib.hid (by unfold Perms.sameB; rw [hfa, hfb]; rfl)
      go_wp2_with fail
      refine Equal_c (OwnInts.at o1') o2.at ?_
      intro w3 d3
      go_wp2_with fail
      exact boolq' (H.out _ (b12.trans (d3.below _))) hf.out
set_option maxHeartbeats 800000 in
theorem SamePattern_s {vg va vb : Value} {g : List (List Int)} {a b : List Int} {w : World} {Q : Ending → World → Prop} (hg : RowsAt w vg g) (ha : IntsAt w va a) (hb : IntsAt w vb b)
    (hQ : ∀ w', Below w.heap.size w w' → Q (.returned (.bool (Perms.sameB g a b))) w') :
    Calls Try.prog 18 #[vg, va, vb] w Q := by
  have H := Lib.hid hQ; clear hQ
  have hg0 := Lib.hid hg
  have ha0 := Lib.hid ha
  have hb0 := Lib.hid hb
  obtain ⟨aa, ca, rfl, la, lca, cca⟩ := hg.form
  obtain ⟨al, cl, rfl, ll, lcl, ccl⟩ := ha.form
  obtain ⟨ab, cb, rfl, lb, lcb, ccb⟩ := hb.form
  go_enter Try.func18, Try.ntmps18
  go_wp2_with fail
  refine CanonOf_s hg0.out ha0.out ?_
  intro v1 w1 o1 b1
  go_wp2_with fail
  refine CanonOf_s (hg0.out.below b1) (hb0.out.below b1) ?_
  intro v2 w2 o2 b2
  have o1' := OwnInts.below o1 b2
  have b12 : Below w.heap.size w w2 := b1.trans (b2.mono b1.size)
  cases hfa : Perms.fitsB g a with
  | false =>
    have hf : Hid (Perms.sameB g a b = false) := Lib.hid (by unfold Perms.sameB; rw [hfa]; rfl)
    go_wp2_with fail
    exact boolq' (H.out _ b12) hf.out
  | true =>
    cases hfb : Perms.fitsB g b with
    | false =>
      have hf : Hid (Perms.sameB g a b = false) := Lib.hid (by unfold Perms.sameB; rw [hfa, hfb]; rfl)
      go_wp2_with fail
      exact boolq' (H.out _ b12) hf.out
    | true =>
      have hf : Hid (Perms.sameB g a b = decide (Perms.canonW g a = Perms.canonW g b)) := Lib.hid (by unfold Perms.sameB; rw [hfa, hfb]; rfl)
      go_wp2_with fail
      refine l03Same_c (OwnInts.at o1') o2.at ?_
      intro w3 d3
      go_wp2_with fail
      exact boolq' (H.out _ (b12.trans (d3.below _))) hf.out
end Go.Proofs.Ytblifocccpfmkaa
