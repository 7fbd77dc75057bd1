/-
  Whether a list of permutations is a group.
-/
import Derived.Test.YtdjdagcgodpgdaaGreatGrp
import Derived.Test.YtdjdagcgodpgdaaGreatFind
set_option linter.unusedVariables false
namespace Go.Proofs.YtdjdagcgodpgdaaGreat
open Go.RowKit

set_option maxHeartbeats 2000000 in
theorem GroupOk_i {vg : Value} {g : List (List Int)} {w : World} {Q : Ending → World → Prop} (hg : RowsAt w vg g)
    (hQ : ∀ w', Below w.heap.size w w' → Q (.returned (.bool (Perms.grpB g))) w') :
    Calls Tryz.prog 39 #[vg] w Q := by
  have H := Lib.hid hQ; clear hQ
  have hg' := hg
  obtain ⟨aa, ca, rfl, la, lca, cca⟩ := hg'.form
  clear hg'
  by_cases hl : 1 ≤ (g.length : Int) ∧ (g.length : Int) ≤ 120
  · have hp : Hid (Perms.grpB g = (Perms.rowsTo g g.length && Perms.closed g)) := Lib.hid (by unfold Perms.grpB; rw [decide_eq_true (by omega), Bool.true_and])
    have hd0 : Hid (decide (1 ≤ (g.length : Int) ∧ (g.length : Int) ≤ 120) = true) := Lib.hid (decide_eq_true hl)
    obtain ⟨l1, l2⟩ := hl
    go_enter Tryz.func39, Tryz.ntmps39
    go_wp2_with fail
    go_loopg [19] g.length (fun k i wr => Below w.heap.size w wr ∧ ∃ j : Nat, i = .int .i64 j ∧ Hid (Perms.rowsTo g j = true) ∧ j + k ≤ g.length ∧ g.length ≤ j + k)
    case atStart => exact ⟨Below.refl _ _, 0, rfl, Lib.hid rfl, by omega, by omega⟩
    case round =>
      obtain ⟨hb, j, rfl, hj0, hk1, hk2⟩ := hrel
      by_cases hj : j < g.length
      · obtain ⟨b, off, u, p, rfl, hx, hcw, hi⟩ := hg.cell hj
        obtain ⟨b', off', u0, p0, e0, hx0, hc0w, hi0⟩ := hg.cell (k := 0) (by omega)
        cases e0
        rw [Nat.add_zero] at hc0w
        obtain ⟨ap, cp, rfl, lp, _, _⟩ := hi.form
        obtain ⟨a0, c0, rfl, l0, _, _⟩ := hi0.form
        have i1 : (j : Int) < g.length := by omega
        have es : Hid (Perms.rowsTo g (j + 1) = (Perms.permB p && decide (p.length = p0.length) && (j == 0 || Words.less (g.getD (j - 1) []) p))) := Lib.hid (by
          simp only [Perms.rowsTo]; rw [hj0.out, hx.out]; simp [Perms.row0, hx0.out])
        have hc := below_cells hb _ _ hcw
        go_wp2_with fail
        refine PermOk_i (hi.below hb) ?_
        intro w2 b2
        have hbb : Below w.heap.size w w2 := hb.trans (b2.mono hb.size)
        have hc2 := below_cells hbb _ _ hcw
        have hc02 := below_cells hbb _ _ hc0w
        cases hpb : Perms.permB p with
        | false =>
          have hf : Hid (Perms.grpB g = false) := Lib.hid (by rw [hp.out, Perms.rowsTo_bad hj (by rw [es.out, hpb]; rfl)]; rfl)
          go_wp2_with fail
          exact boolq' (H.out _ hbb) hf.out
        | true =>
          by_cases hle : p.length = p0.length
          · have hle' : ((p.length : Int) != p0.length) = false := by rw [hle]; simp
            by_cases hz : j = 0
            · subst hz
              have hs : Hid (Perms.rowsTo g 1 = true) := Lib.hid (by rw [es.out, hpb, decide_eq_true hle]; rfl)
              have hle2 := Lib.hid hle
              clear hle
              go_wp2_with fail
              go_roundg (gk - 1)
              case measure => omega
              case rel => exact ⟨hbb, 1, by go_num, hs, by omega, by omega⟩
            · obtain ⟨b3, off3, u3, q, e3, hx3, hc3w, hi3⟩ := hg.cell (k := j - 1) (by omega)
              cases e3
              have hc3 := below_cells hbb _ _ hc3w
              have hiu' := hi3.below hbb
              have hip' := hi.below hbb
              have hgd : Hid (g.getD (j - 1) [] = q) := Lib.hid (by simp [List.getD, hx3.out])
              have hql : q.length = p0.length := Perms.rowsTo_len hj0.out hx0.out (by omega) hx3.out
              have hz1 : (0 : Int) < j := by omega
              have hz2 : ((j : Int) - 1).toNat = j - 1 := by omega
              have hlq : q.length = p.length := by omega
              have hlq2 := Lib.hid hlq
              cases hlv0 : Words.less q p with
              | false =>
                have hlv := Lib.hid hlv0
                have hcv : ¬ Words.cmpL q p < 0 := fun h => by rw [(Words.less_neg hlq).2 h] at hlv0; cases hlv0
                have hf : Hid (Perms.grpB g = false) := Lib.hid (by rw [hp.out, Perms.rowsTo_bad hj (by rw [es.out, hpb, hgd.out, hlv0]; simp [hz])]; rfl)
                have hle2 := Lib.hid hle
                clear hlv0 hle hql hz hlq
                go_wp2_with (go_at_call 52; refine Compare_c hiu' hip' ?_)
                exact boolq' (H.out _ hbb) hf.out
              | true =>
                have hlv := Lib.hid hlv0
                have hcv : Words.cmpL q p < 0 := (Words.less_neg hlq).1 hlv0
                have hs : Hid (Perms.rowsTo g (j + 1) = true) := Lib.hid (by rw [es.out, hpb, hgd.out, hlv0, decide_eq_true hle]; simp)
                have hle2 := Lib.hid hle
                clear hlv0 hle hql hz hlq
                go_wp2_with (go_at_call 52; refine Compare_c hiu' hip' ?_)
                go_roundg (gk - 1)
                case measure => omega
                case rel => exact ⟨hbb, j + 1, by go_num, hs, by omega, by omega⟩
          · have hle' : ((p.length : Int) != p0.length) = true := by simp; omega
            have hf : Hid (Perms.grpB g = false) := Lib.hid (by rw [hp.out, Perms.rowsTo_bad hj (by rw [es.out, hpb, decide_eq_false hle]; rfl)]; rfl)
            clear hle
            go_wp2_with fail
            exact boolq' (H.out _ hbb) hf.out
      · have hR : Hid (Perms.rowsTo g g.length = true) := Lib.hid (by rw [show g.length = j from by omega]; exact hj0.out)
        have hp2 : Hid (Perms.grpB g = Perms.closed g) := Lib.hid (by rw [hp.out, hR.out, Bool.true_and])
        have hA := Lib.hid (Perms.rowsTo_asc hR.out)
        go_wp2_with fail
        clear hj0 hk1 hk2 hj
        obtain ⟨wo, hwo⟩ : ∃ wo : World, wo = wr := ⟨_, rfl⟩
        subst hwo
        go_loopg [53] g.length (fun k i wr => Below w.heap.size w wr ∧ ∃ j : Nat, i = .int .i64 j ∧ Hid (∀ p ∈ g.take j, ∀ q ∈ g, Perms.comp p q ∈ g) ∧ j + k ≤ g.length ∧ g.length ≤ j + k)
        case atStart => exact ⟨hb, 0, rfl, Lib.hid (by simp), by omega, by omega⟩
        case round =>
          obtain ⟨hb2, i, rfl, hi0, hk1, hk2⟩ := hrel
          by_cases hi : i < g.length
          · have i1 : (i : Int) < g.length := by omega
            obtain ⟨b, off, u, p, rfl, hx, hcw, hip⟩ := hg.cell hi
            have hc := below_cells hb2 _ _ hcw
            obtain ⟨ap, cp, rfl, _, _, _⟩ := hip.form
            go_wp2_with fail
            obtain ⟨wi, hwi⟩ : ∃ wi : World, wi = wr := ⟨_, rfl⟩
            subst hwi
            obtain ⟨gi, hgi⟩ : ∃ g' : Nat, g' = gk := ⟨_, rfl⟩
            subst hgi
            go_loopg [59] g.length (fun k i wr => Below w.heap.size w wr ∧ ∃ j : Nat, i = .int .i64 j ∧ Hid (∀ q ∈ g.take j, Perms.comp p q ∈ g) ∧ j + k ≤ g.length ∧ g.length ≤ j + k)
            case atStart => exact ⟨hb2, 0, rfl, Lib.hid (by simp), by omega, by omega⟩
            case round =>
              obtain ⟨hb3, m, rfl, hm0, hm1, hm2⟩ := hrel
              by_cases hm : m < g.length
              · have i2 : (m : Int) < g.length := by omega
                obtain ⟨b', off', u2, q, e3, hy, hcqw, hiq⟩ := hg.cell hm
                cases e3
                have hcq := below_cells hb3 _ _ hcqw
                go_wp2_with fail
                refine compose_i (hip.below hb3) (hiq.below hb3) (Perms.rowsTo_le hR.out hx.out) (Perms.rowsTo_in hR.out hx.out hy.out) ?_
                intro v4 w4 o4 b4
                have hb4 : Below w.heap.size w w4 := hb3.trans (b4.mono hb3.size)
                go_wp2_with fail
                refine find_i (hg.below hb4) o4.at hA.out (by omega) ?_
                intro w5 d5
                have hb5 : Below w.heap.size w w5 := hb4.trans (d5.below _)
                by_cases hin : Perms.comp p q ∈ g
                · have hi1 : 0 ≤ Perms.idx g (Perms.comp p q) := by unfold Perms.idx; rw [if_pos hin]; omega
                  have hn : Hid (∀ q ∈ g.take (m + 1), Perms.comp p q ∈ g) := Lib.hid (by
                    intro q' hq'
                    rw [List.take_add_one, hy.out] at hq'
                    rcases List.mem_append.1 hq' with h | h
                    · exact hm0.out q' h
                    · simp at h; rw [h]; exact hin)
                  clear hin
                  go_wp2_with fail
                  go_roundg (gk - 1)
                  case measure => omega
                  case rel => exact ⟨hb5, m + 1, by go_num, hn, by omega, by omega⟩
                · have hi1 : Perms.idx g (Perms.comp p q) < 0 := by unfold Perms.idx; rw [if_neg hin]; omega
                  have hf : Hid (Perms.grpB g = false) := Lib.hid (by rw [hp2.out]; exact Perms.closed_bad (List.mem_of_getElem? hx.out) (List.mem_of_getElem? hy.out) hin)
                  clear hin
                  go_wp2_with fail
                  exact boolq' (H.out _ hb5) hf.out
              · have hn : Hid (∀ p ∈ g.take (i + 1), ∀ q ∈ g, Perms.comp p q ∈ g) := Lib.hid (by
                  have hm3 := hm0.out
                  rw [List.take_of_length_le (by omega)] at hm3
                  intro p' hp'
                  rw [List.take_add_one, hx.out] at hp'
                  rcases List.mem_append.1 hp' with h | h
                  · exact hi0.out p' h
                  · simp at h; rw [h]; exact hm3)
                go_wp2_with fail
                go_roundg (gi - 1)
                case measure => omega
                case rel => exact ⟨hb3, i + 1, by go_num, hn, by omega, by omega⟩
          · have hf : Hid (Perms.grpB g = true) := Lib.hid (by
              rw [hp2.out]
              have h := hi0.out
              rw [List.take_of_length_le (by omega)] at h
              exact Perms.closed_ok h)
            go_wp2_with fail
            exact boolq' (H.out _ hb2) hf.out
  · have hf : Hid (Perms.grpB g = false) := Lib.hid (by unfold Perms.grpB; rw [decide_eq_false (by omega), Bool.false_and, Bool.false_and])
    have hd0 : Hid (decide (1 ≤ (g.length : Int) ∧ (g.length : Int) ≤ 120) = false) := Lib.hid (decide_eq_false hl)
    go_enter Tryz.func39, Tryz.ntmps39
    go_wp2
    all_goals exact boolq' (H.out _ (Below.refl _ _)) hf.out
set_option maxHeartbeats 2000000 in
theorem GroupOk_s {vg : Value} {g : List (List Int)} {w : World} {Q : Ending → World → Prop} (hg : RowsAt w vg g)
    (hQ : ∀ w', Below w.heap.size w w' → Q (.returned (.bool (Perms.grpB g))) w') :
    Calls Tryz.prog 28 #[vg] w Q := by
  have H := Lib.hid hQ; clear hQ
  have hg' := hg
  obtain ⟨aa, ca, rfl, la, lca, cca⟩ := hg'.form
  clear hg'
  by_cases hl : 1 ≤ (g.length : Int) ∧ (g.length : Int) ≤ 120
  · have hp : Hid (Perms.grpB g = (Perms.rowsTo g g.length && Perms.closed g)) := Lib.hid (by unfold Perms.grpB; rw [decide_eq_true (by omega), Bool.true_and])
    have hd0 : Hid (decide (1 ≤ (g.length : Int) ∧ (g.length : Int) ≤ 120) = true) := Lib.hid (decide_eq_true hl)
    obtain ⟨l1, l2⟩ := hl
    go_enter Tryz.func28, Tryz.ntmps28
    go_wp2_with (go_at_call 29; refine l01In_c ?_; rw [hd0.out])
    go_loopg [15] g.length (fun k i wr => Below w.heap.size w wr ∧ ∃ j : Nat, i = .int .i64 j ∧ Hid (Perms.rowsTo g j = true) ∧ j + k ≤ g.length ∧ g.length ≤ j + k)
    case atStart => exact ⟨Below.refl _ _, 0, rfl, Lib.hid rfl, by omega, by omega⟩
    case round =>
      obtain ⟨hb, j, rfl, hj0, hk1, hk2⟩ := hrel
      by_cases hj : j < g.length
      · obtain ⟨b, off, u, p, rfl, hx, hcw, hi⟩ := hg.cell hj
        obtain ⟨b', off', u0, p0, e0, hx0, hc0w, hi0⟩ := hg.cell (k := 0) (by omega)
        cases e0
        rw [Nat.add_zero] at hc0w
        obtain ⟨ap, cp, rfl, lp, _, _⟩ := hi.form
        obtain ⟨a0, c0, rfl, l0, _, _⟩ := hi0.form
        have i1 : (j : Int) < g.length := by omega
        have es : Hid (Perms.rowsTo g (j + 1) = (Perms.permB p && decide (p.length = p0.length) && (j == 0 || Words.less (g.getD (j - 1) []) p))) := Lib.hid (by
          simp only [Perms.rowsTo]; rw [hj0.out, hx.out]; simp [Perms.row0, hx0.out])
        have hc := below_cells hb _ _ hcw
        go_wp2_with fail
        refine PermOk_s (hi.below hb) ?_
        intro w2 b2
        have hbb : Below w.heap.size w w2 := hb.trans (b2.mono hb.size)
        have hc2 := below_cells hbb _ _ hcw
        have hc02 := below_cells hbb _ _ hc0w
        cases hpb : Perms.permB p with
        | false =>
          have hf : Hid (Perms.grpB g = false) := Lib.hid (by rw [hp.out, Perms.rowsTo_bad hj (by rw [es.out, hpb]; rfl)]; rfl)
          go_wp2_with fail
          exact boolq' (H.out _ hbb) hf.out
        | true =>
          by_cases hle : p.length = p0.length
          · have hle' : ((p.length : Int) != p0.length) = false := by rw [hle]; simp
            by_cases hz : j = 0
            · subst hz
              have hs : Hid (Perms.rowsTo g 1 = true) := Lib.hid (by rw [es.out, hpb, decide_eq_true hle]; rfl)
              have hle2 := Lib.hid hle
              clear hle
              go_wp2_with fail
              go_roundg (gk - 1)
              case measure => omega
              case rel => exact ⟨hbb, 1, by go_num, hs, by omega, by omega⟩
            · obtain ⟨b3, off3, u3, q, e3, hx3, hc3w, hi3⟩ := hg.cell (k := j - 1) (by omega)
              cases e3
              have hc3 := below_cells hbb _ _ hc3w
              have hiu' := hi3.below hbb
              have hip' := hi.below hbb
              have hgd : Hid (g.getD (j - 1) [] = q) := Lib.hid (by simp [List.getD, hx3.out])
              have hql : q.length = p0.length := Perms.rowsTo_len hj0.out hx0.out (by omega) hx3.out
              have hz1 : (0 : Int) < j := by omega
              have hz2 : ((j : Int) - 1).toNat = j - 1 := by omega
              have hlq : q.length = p.length := by omega
              have hlq2 := Lib.hid hlq
              cases hlv0 : Words.less q p with
              | false =>
                have hlv := Lib.hid hlv0
                have hcv : ¬ Words.cmpL q p < 0 := fun h => by rw [(Words.less_neg hlq).2 h] at hlv0; cases hlv0
                have hf : Hid (Perms.grpB g = false) := Lib.hid (by rw [hp.out, Perms.rowsTo_bad hj (by rw [es.out, hpb, hgd.out, hlv0]; simp [hz])]; rfl)
                have hle2 := Lib.hid hle
                clear hlv0 hle hql hz hlq
                go_wp2_with (go_at_call 45; refine l03Less_c hiu' hip' hlq2.out ?_; rw [hlv.out])
                exact boolq' (H.out _ hbb) hf.out
              | true =>
                have hlv := Lib.hid hlv0
                have hcv : Words.cmpL q p < 0 := (Words.less_neg hlq).1 hlv0
                have hs : Hid (Perms.rowsTo g (j + 1) = true) := Lib.hid (by rw [es.out, hpb, hgd.out, hlv0, decide_eq_true hle]; simp)
                have hle2 := Lib.hid hle
                clear hlv0 hle hql hz hlq
                go_wp2_with (go_at_call 45; refine l03Less_c hiu' hip' hlq2.out ?_; rw [hlv.out])
                go_roundg (gk - 1)
                case measure => omega
                case rel => exact ⟨hbb, j + 1, by go_num, hs, by omega, by omega⟩
          · have hle' : ((p.length : Int) != p0.length) = true := by simp; omega
            have hf : Hid (Perms.grpB g = false) := Lib.hid (by rw [hp.out, Perms.rowsTo_bad hj (by rw [es.out, hpb, decide_eq_false hle]; rfl)]; rfl)
            clear hle
            go_wp2_with fail
            exact boolq' (H.out _ hbb) hf.out
      · have hR : Hid (Perms.rowsTo g g.length = true) := Lib.hid (by rw [show g.length = j from by omega]; exact hj0.out)
        have hp2 : Hid (Perms.grpB g = Perms.closed g) := Lib.hid (by rw [hp.out, hR.out, Bool.true_and])
        have hA := Lib.hid (Perms.rowsTo_asc hR.out)
        go_wp2_with fail
        clear hj0 hk1 hk2 hj
        obtain ⟨wo, hwo⟩ : ∃ wo : World, wo = wr := ⟨_, rfl⟩
        subst hwo
        go_loopg [49] g.length (fun k i wr => Below w.heap.size w wr ∧ ∃ j : Nat, i = .int .i64 j ∧ Hid (∀ p ∈ g.take j, ∀ q ∈ g, Perms.comp p q ∈ g) ∧ j + k ≤ g.length ∧ g.length ≤ j + k)
        case atStart => exact ⟨hb, 0, rfl, Lib.hid (by simp), by omega, by omega⟩
        case round =>
          obtain ⟨hb2, i, rfl, hi0, hk1, hk2⟩ := hrel
          by_cases hi : i < g.length
          · have i1 : (i : Int) < g.length := by omega
            obtain ⟨b, off, u, p, rfl, hx, hcw, hip⟩ := hg.cell hi
            have hc := below_cells hb2 _ _ hcw
            obtain ⟨ap, cp, rfl, _, _, _⟩ := hip.form
            go_wp2_with fail
            obtain ⟨wi, hwi⟩ : ∃ wi : World, wi = wr := ⟨_, rfl⟩
            subst hwi
            obtain ⟨gi, hgi⟩ : ∃ g' : Nat, g' = gk := ⟨_, rfl⟩
            subst hgi
            go_loopg [55] g.length (fun k i wr => Below w.heap.size w wr ∧ ∃ j : Nat, i = .int .i64 j ∧ Hid (∀ q ∈ g.take j, Perms.comp p q ∈ g) ∧ j + k ≤ g.length ∧ g.length ≤ j + k)
            case atStart => exact ⟨hb2, 0, rfl, Lib.hid (by simp), by omega, by omega⟩
            case round =>
              obtain ⟨hb3, m, rfl, hm0, hm1, hm2⟩ := hrel
              by_cases hm : m < g.length
              · have i2 : (m : Int) < g.length := by omega
                obtain ⟨b', off', u2, q, e3, hy, hcqw, hiq⟩ := hg.cell hm
                cases e3
                have hcq := below_cells hb3 _ _ hcqw
                go_wp2_with fail
                refine compose_s (hip.below hb3) (hiq.below hb3) (Perms.rowsTo_le hR.out hx.out) (Perms.rowsTo_in hR.out hx.out hy.out) ?_
                intro v4 w4 o4 b4
                have hb4 : Below w.heap.size w w4 := hb3.trans (b4.mono hb3.size)
                go_wp2_with fail
                refine find_s (hg.below hb4) o4.at hA.out (by omega) (fun x hx2 => by rw [Perms.comp_len]; exact Perms.rowsTo_same hR.out hx2 hx.out) ?_
                intro w5 d5
                have hb5 : Below w.heap.size w w5 := hb4.trans (d5.below _)
                by_cases hin : Perms.comp p q ∈ g
                · have hi1 : 0 ≤ Perms.idx g (Perms.comp p q) := by unfold Perms.idx; rw [if_pos hin]; omega
                  have hn : Hid (∀ q ∈ g.take (m + 1), Perms.comp p q ∈ g) := Lib.hid (by
                    intro q' hq'
                    rw [List.take_add_one, hy.out] at hq'
                    rcases List.mem_append.1 hq' with h | h
                    · exact hm0.out q' h
                    · simp at h; rw [h]; exact hin)
                  clear hin
                  go_wp2_with fail
                  go_roundg (gk - 1)
                  case measure => omega
                  case rel => exact ⟨hb5, m + 1, by go_num, hn, by omega, by omega⟩
                · have hi1 : Perms.idx g (Perms.comp p q) < 0 := by unfold Perms.idx; rw [if_neg hin]; omega
                  have hf : Hid (Perms.grpB g = false) := Lib.hid (by rw [hp2.out]; exact Perms.closed_bad (List.mem_of_getElem? hx.out) (List.mem_of_getElem? hy.out) hin)
                  clear hin
                  go_wp2_with fail
                  exact boolq' (H.out _ hb5) hf.out
              · have hn : Hid (∀ p ∈ g.take (i + 1), ∀ q ∈ g, Perms.comp p q ∈ g) := Lib.hid (by
                  have hm3 := hm0.out
                  rw [List.take_of_length_le (by omega)] at hm3
                  intro p' hp'
                  rw [List.take_add_one, hx.out] at hp'
                  rcases List.mem_append.1 hp' with h | h
                  · exact hi0.out p' h
                  · simp at h; rw [h]; exact hm3)
                go_wp2_with fail
                go_roundg (gi - 1)
                case measure => omega
                case rel => exact ⟨hb3, i + 1, by go_num, hn, by omega, by omega⟩
          · have hf : Hid (Perms.grpB g = true) := Lib.hid (by
              rw [hp2.out]
              have h := hi0.out
              rw [List.take_of_length_le (by omega)] at h
              exact Perms.closed_ok h)
            go_wp2_with fail
            exact boolq' (H.out _ hb2) hf.out
  · have hf : Hid (Perms.grpB g = false) := Lib.hid (by unfold Perms.grpB; rw [decide_eq_false (by omega), Bool.false_and, Bool.false_and])
    have hd0 : Hid (decide (1 ≤ (g.length : Int) ∧ (g.length : Int) ≤ 120) = false) := Lib.hid (decide_eq_false hl)
    clear hl
    go_enter Tryz.func28, Tryz.ntmps28
    go_wp2_with (go_at_call 29; refine l01In_c ?_; rw [hd0.out])
    all_goals exact boolq' (H.out _ (Below.refl _ _)) hf.out
end Go.Proofs.YtdjdagcgodpgdaaGreat
