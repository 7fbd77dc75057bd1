/-
  'grow', when it seeks the next necklace: the walk.
-/
import Derived.Test.YtmlmpneikhdgcaaGrow3
set_option linter.unusedVariables false
namespace Go.Proofs.Ytmlmpneikhdgcaa
open Go.RowKit

def GrowNextAt (r : Nat) : Prop := ∀ (b g n p : Nat) (k a pi : Int) (ov : Bool) (pre cur bnd : List Int) (vb : Value) (w0 w : World) (Q : Ending → World → Prop) (ha : a = pre.length) (hpi : pi = p) (hk1 : 1 ≤ k) (hk4 : k ≤ 4) (hn : n ≤ 10) (hn1 : 1 ≤ n) (hp : pre.length + r = n) (hc : cur.length = n) (ht : cur.take pre.length = pre)
    (hst : Words.St pre p) (hpr : ∀ x ∈ pre, 0 ≤ x ∧ x < k) (hov : ov = false → pre = bnd.take pre.length) (hw : GrowNext w0 w vb bnd b g n cur)
    (hQ1 : Words.vis k.toNat bnd r pre ov = [] → ∀ w' cur', cur'.length = n → cur'.take pre.length = pre → GrowNext w0 w' vb bnd b g n cur' → Q (.returned (.bool true)) w')
    (hQ2 : ∀ x rest v w', Words.vis k.toNat bnd r pre ov = x :: rest → OwnInts w' w0.heap.size v x → BoxAt w' b 22 v → Below w0.heap.size w0 w' → Q (.returned (.bool false)) w'),
    Calls Try.prog 54 #[.slice (some ⟨g, 0, none⟩) n n, .int .i64 a, .int .i64 pi, .int .i64 k, vb, .bool ov, .func (.func 55) #[] #[.pointer (some ⟨b, 0, none⟩)]] w Q
set_option maxHeartbeats 6400000 in
theorem grow_next : ∀ (r : Nat), GrowNextAt r := by
  intro r
  induction r with
  | zero =>
    intro b g n p k a pi ov pre cur bnd vb w0 w Q ha hpi hk1 hk4 hn hn1 hp hc ht hst hpr hov hw hQ1 hQ2
    have H1 := Lib.hid hQ1; clear hQ1
    have H2 := Lib.hid hQ2; clear hQ2
    subst ha hpi
    have hcp : cur = pre := by rw [← ht, List.take_of_length_le (by omega)]
    subst hcp
    have hpn : cur ≠ [] := by intro e; rw [e] at hc; simp at hc; omega
    have hnk := Lib.hid (hst.neck hpn)
    have hp1 := hst.pos
    have hpl := hst.le hpn
    have hv := Lib.hid (Words.vis_zero k.toNat bnd cur ov)
    have hw' := Lib.hid hw
    have hov' := Lib.hid hov
    clear hw hpr hst ht hov
    have hp5 : ¬ (p = 0) := by omega
    obtain ⟨m, hm⟩ : ∃ m, m = cur.length % p := ⟨_, rfl⟩
    have hmI : (n : Int) % p = m := by rw [hm, hc, Int.natCast_emod]
    have hm' := Lib.hid hm
    clear hm
    by_cases h0 : m = 0
    · subst h0
      cases ov with
      | true =>
        have hv2 : Words.vis k.toNat bnd 0 cur true = [cur] := by
          rw [hv.out, hnk.out, ← hm'.out]; simp
        go_enter Try.func54, Try.ntmps54
        have hv3 := Lib.hid hv2
        clear hv2
        go_wp2_with fail
        refine see_next hw'.out hn hc ?_
        intro v w2 o2 bx2 b2
        have h3 := Lib.hid (H2.out cur [] v w2 hv3.out o2 bx2 b2)
        clear bx2
        go_wp2_with fail
        exact h3.out
      | false =>
        have hv2 : Words.vis k.toNat bnd 0 cur false = [] := by
          have hb : cur = bnd := by
            have h := hov'.out rfl
            rw [hc, List.take_of_length_le (by rw [hw'.out.blen]; exact Nat.le_refl _)] at h
            exact h
          rw [hv.out, ← hb, Words.cmpL_self]; simp
        have h3 := Lib.hid (H1.out hv2 w cur hc (by rw [List.take_length]) hw'.out)
        clear hv2
        go_enter Try.func54, Try.ntmps54
        go_wp2_with fail
        exact h3.out
    · have hv2 : Words.vis k.toNat bnd 0 cur ov = [] := by
        rw [hv.out, hnk.out, ← hm'.out, decide_eq_false h0]; simp
      have h3 := Lib.hid (H1.out hv2 w cur hc (by rw [List.take_length]) hw'.out)
      clear hv2
      go_enter Try.func54, Try.ntmps54
      go_wp2_with fail
      exact h3.out
  | succ r ih =>
    intro b g n p k a pi ov pre cur bnd vb w0 w Q ha hpi hk1 hk4 hn hn1 hp hc ht hst hpr hov hw hQ1 hQ2
    have H1 := Lib.hid hQ1; clear hQ1
    have H2 := Lib.hid hQ2; clear hQ2
    subst ha hpi
    cases ov with
    | true =>
      obtain ⟨avb, cvb, hvb, lvb, lcvb, ccvb⟩ := hw.bound.form
      have hbl := hw.blen
      rw [hbl] at hvb
      subst hvb
      obtain ⟨hl0, hl1⟩ := Words.leastL_in hk1 hst hpr
      have hpn : pre.length < n := by omega
      have hst' := Lib.hid hst
      have hpr' := Lib.hid hpr
      have hp1 := hst.pos
      have hn0 : ((pre.length : Int) == n) = false := by simp; omega
      obtain ⟨l, hl⟩ : ∃ l : Nat, (l : Int) = Words.leastL pre p := ⟨(Words.leastL pre p).toNat, by omega⟩
      have hle := hst.le
      have hcell0 : pre ≠ [] → cur[pre.length - p]? = some (l : Int) := fun h0 => by
        have h1 := hle h0
        have h2 : (cur.take pre.length)[pre.length - p]? = some (Words.at_ pre (pre.length - p)) := by rw [ht]; exact Words.at_some (by omega)
        rw [List.getElem?_take, if_pos (by omega)] at h2
        rw [h2, hl]
        unfold Words.leastL
        rw [if_neg h0]
      rw [← hl] at hl0 hl1
      have hlk := Lib.hid hl
      have hw' := Lib.hid hw
      clear hl hst hpr hw
      obtain ⟨j, hj0⟩ : ∃ j, j = pre.length := ⟨_, rfl⟩
      have hj := Lib.hid hj0
      rw [← hj0] at hn0 hpn hcell0 hp ht hle
      rw [← hj0]
      clear hj0
      have ht' := Lib.hid ht
      clear ht
      clear hov
      by_cases h0 : j = 0
      · have hpe : Hid (pre = []) := Lib.hid (by have := hj.out; rw [h0] at this; exact List.length_eq_zero_iff.1 this.symm)
        have hl2 : l = 0 := by
          have := hlk.out
          unfold Words.leastL at this
          rw [if_pos hpe.out] at this
          omega
        clear hcell0 hle
        have hj1 : ((j : Int) == 0) = true := by rw [h0]; rfl
        have hj2 : ¬ (0 < (j : Int)) := by omega
        have hj3 : ¬ (0 < j) := by omega
        subst hl2
        clear h0
        go_enter Try.func54, Try.ntmps54
        go_wp2_with fail
        go_loopg [17] k.toNat (fun gg i wr => ∃ (x : Nat) (cur' : List Int), i = .int .i64 x ∧ Hid (0 ≤ x) ∧ (x : Int) ≤ k ∧ cur'.length = n ∧ Hid (cur'.take j = pre) ∧ GrowNext w0 wr (.slice avb n cvb) bnd b g n cur' ∧ Hid (Words.visTo k.toNat bnd r pre true x = []) ∧ k ≤ x + gg)
        case atStart => exact ⟨0, cur, by first | rfl | go_num, Lib.hid (Nat.le_refl _), by omega, hc, ht'.out, hw'.out, Lib.hid (Words.visTo_low hst'.out (by rw [← hlk.out]; exact Int.le_refl _)), by omega⟩
        case round =>
          obtain ⟨x, cur', rfl, hlx, hxk, hcl, hct, hgw, hvt, hm⟩ := hrel
          by_cases hx : (x : Int) < k
          · have hfr := Own.frozen hgw.word j
            obtain ⟨x0, _, hc0⟩ := OwnInts.cell hgw.word (k := j) (by omega)
            have i1 : (j : Int) < n := by omega
            have htk : Hid ((cur'.set j (x : Int)).take (pre ++ [(x : Int)]).length = pre ++ [(x : Int)]) := Lib.hid (by
              rw [List.length_append, List.length_singleton, ← hj.out, List.take_add_one, List.getElem?_set_self (by omega), List.take_set_of_le (Nat.le_refl _), hct.out]
              rfl)
            have hsn := Lib.hid (hst'.out.next (x := (x : Int)) (by rw [← hlk.out]; have := hlx.out; omega))
            have hpx : Hid (∀ z ∈ pre ++ [(x : Int)], 0 ≤ z ∧ z < k) := Lib.hid (by
              intro z hz
              rcases List.mem_append.1 hz with h | h
              · exact hpr'.out z h
              · simp at h; omega)
            have hnp : Hid (Words.nextP pre p x = 1) := Lib.hid (by unfold Words.nextP; rw [if_pos hpe.out])
            go_wp2_with fail
            refine ih b g n (Words.nextP pre p x) k _ _ true (pre ++ [(x : Int)]) (cur'.set j x) bnd _ w0 _ _ (by rw [List.length_append, List.length_singleton, ← hj.out] <;> go_num) (by rw [hnp.out] <;> go_num) hk1 hk4 hn hn1 (by rw [List.length_append, List.length_singleton, ← hj.out]; omega) (by rw [List.length_set]; exact hcl) htk.out hsn.out hpx.out (fun h => by cases h) (hgw.set j x hn1) ?_ ?_
            · intro hv w2 cur2 hc2 ht2 hw2
              have hw2' := Lib.hid hw2
              have hvn : Hid (Words.visTo k.toNat bnd r pre true (x + 1) = []) := Lib.hid (by rw [Words.visTo_step, hvt.out, hv]; rfl)
              have ht2' : Hid (cur2.take j = pre) := Lib.hid (by
                rw [List.length_append, List.length_singleton, ← hj.out] at ht2
                have h := congrArg (fun z => z.take j) ht2
                simp only [List.take_take, Nat.min_eq_left (Nat.le_succ j)] at h
                rw [h, hj.out, List.take_left])
              clear hw2 ht2 hv
              go_wp2_with fail
              go_roundg (gk - 1)
              case measure => omega
              case rel => exact ⟨x + 1, cur2, by go_num, Lib.hid (Nat.le_succ_of_le hlx.out), by omega, hc2, ht2', hw2'.out, hvn, by omega⟩
            · intro z rest v w2 hv o2 bx2 b2
              obtain ⟨s, hs⟩ := Words.visTo_pre k.toNat bnd r pre true (x := x + 1) (y := k.toNat) (by omega)
              rw [Words.visTo_all, Words.visTo_step, hvt.out, hv, List.nil_append, List.cons_append] at hs
              have h3 := Lib.hid (H2.out z _ v w2 hs o2 bx2 b2)
              clear hv hs bx2
              go_wp2_with fail
              exact h3.out
          · have hv : Words.vis k.toNat bnd (r + 1) pre true = [] := by rw [← Words.visTo_all, show k.toNat = x from by omega]; rw [show x = k.toNat from by omega] at hvt ⊢; exact hvt.out
            have h3 := Lib.hid (H1.out hv wr cur' hcl (by rw [← hj.out]; exact hct.out) hgw)
            clear hv
            go_wp2_with fail
            exact h3.out
      · have hpe : Hid (pre ≠ []) := Lib.hid (by intro e; have := hj.out; rw [e] at this; simp at this; omega)
        have hcl0 := hcell0 hpe.out
        have hle2 := hle hpe.out
        clear hcell0 hle
        have hj1 : ((j : Int) == 0) = false := by simp; omega
        have hj2 : 0 < (j : Int) := by omega
        have hj3 : 0 < j := by omega
        have hjp : ((j : Int) - p).toNat = j - p := by omega
        have hjp0 : 0 ≤ (j : Int) - p := by omega
        have hjpn : (j : Int) - p < n := by omega
        have hcc := Own.cell hw'.out.word (k := j - p) (by rw [ints_get, hcl0]; rfl)
        clear hcl0 h0
        go_enter Try.func54, Try.ntmps54
        go_wp2_with fail
        go_loopg [17] k.toNat (fun gg i wr => ∃ (x : Nat) (cur' : List Int), i = .int .i64 x ∧ Hid (l ≤ x) ∧ (x : Int) ≤ k ∧ cur'.length = n ∧ Hid (cur'.take j = pre) ∧ GrowNext w0 wr (.slice avb n cvb) bnd b g n cur' ∧ Hid (Words.visTo k.toNat bnd r pre true x = []) ∧ k ≤ x + gg)
        case atStart => exact ⟨l, cur, by first | rfl | go_num, Lib.hid (Nat.le_refl _), by omega, hc, ht'.out, hw'.out, Lib.hid (Words.visTo_low hst'.out (by rw [← hlk.out]; exact Int.le_refl _)), by omega⟩
        case round =>
          obtain ⟨x, cur', rfl, hlx, hxk, hcl, hct, hgw, hvt, hm⟩ := hrel
          by_cases hx : (x : Int) < k
          · have hfr := Own.frozen hgw.word j
            obtain ⟨x0, _, hc0⟩ := OwnInts.cell hgw.word (k := j) (by omega)
            have i1 : (j : Int) < n := by omega
            have htk : Hid ((cur'.set j (x : Int)).take (pre ++ [(x : Int)]).length = pre ++ [(x : Int)]) := Lib.hid (by
              rw [List.length_append, List.length_singleton, ← hj.out, List.take_add_one, List.getElem?_set_self (by omega), List.take_set_of_le (Nat.le_refl _), hct.out]
              rfl)
            have hsn := Lib.hid (hst'.out.next (x := (x : Int)) (by rw [← hlk.out]; have := hlx.out; omega))
            have hpx : Hid (∀ z ∈ pre ++ [(x : Int)], 0 ≤ z ∧ z < k) := Lib.hid (by
              intro z hz
              rcases List.mem_append.1 hz with h | h
              · exact hpr'.out z h
              · simp at h; omega)
            by_cases hxl : x = l
            · have hnp : Hid (Words.nextP pre p x = p) := Lib.hid (by unfold Words.nextP; rw [if_neg hpe.out, if_pos (by rw [← hlk.out, hxl])])
              have hxl2 : ((x : Int) != l) = false := by rw [hxl]; simp
              clear hxl
              go_wp2_with fail
              refine ih b g n (Words.nextP pre p x) k _ _ true (pre ++ [(x : Int)]) (cur'.set j x) bnd _ w0 _ _ (by rw [List.length_append, List.length_singleton, ← hj.out] <;> go_num) (by rw [hnp.out] <;> go_num) hk1 hk4 hn hn1 (by rw [List.length_append, List.length_singleton, ← hj.out]; omega) (by rw [List.length_set]; exact hcl) htk.out hsn.out hpx.out (fun h => by cases h) (hgw.set j x hn1) ?_ ?_
              · intro hv w2 cur2 hc2 ht2 hw2
                have hw2' := Lib.hid hw2
                have hvn : Hid (Words.visTo k.toNat bnd r pre true (x + 1) = []) := Lib.hid (by rw [Words.visTo_step, hvt.out, hv]; rfl)
                have ht2' : Hid (cur2.take j = pre) := Lib.hid (by
                  rw [List.length_append, List.length_singleton, ← hj.out] at ht2
                  have h := congrArg (fun z => z.take j) ht2
                  simp only [List.take_take, Nat.min_eq_left (Nat.le_succ j)] at h
                  rw [h, hj.out, List.take_left])
                clear hw2 ht2 hv
                go_wp2_with fail
                go_roundg (gk - 1)
                case measure => omega
                case rel => exact ⟨x + 1, cur2, by go_num, Lib.hid (Nat.le_succ_of_le hlx.out), by omega, hc2, ht2', hw2'.out, hvn, by omega⟩
              · intro z rest v w2 hv o2 bx2 b2
                obtain ⟨s, hs⟩ := Words.visTo_pre k.toNat bnd r pre true (x := x + 1) (y := k.toNat) (by omega)
                rw [Words.visTo_all, Words.visTo_step, hvt.out, hv, List.nil_append, List.cons_append] at hs
                have h3 := Lib.hid (H2.out z _ v w2 hs o2 bx2 b2)
                clear hv hs bx2
                go_wp2_with fail
                exact h3.out
            · have hnp : Hid (Words.nextP pre p x = j + 1) := Lib.hid (by unfold Words.nextP; rw [if_neg hpe.out, if_neg (by rw [← hlk.out]; omega), hj.out])
              have hxl2 : ((x : Int) != l) = true := by simp; omega
              clear hxl
              go_wp2_with fail
              refine ih b g n (Words.nextP pre p x) k _ _ true (pre ++ [(x : Int)]) (cur'.set j x) bnd _ w0 _ _ (by rw [List.length_append, List.length_singleton, ← hj.out] <;> go_num) (by rw [hnp.out] <;> go_num) hk1 hk4 hn hn1 (by rw [List.length_append, List.length_singleton, ← hj.out]; omega) (by rw [List.length_set]; exact hcl) htk.out hsn.out hpx.out (fun h => by cases h) (hgw.set j x hn1) ?_ ?_
              · intro hv w2 cur2 hc2 ht2 hw2
                have hw2' := Lib.hid hw2
                have hvn : Hid (Words.visTo k.toNat bnd r pre true (x + 1) = []) := Lib.hid (by rw [Words.visTo_step, hvt.out, hv]; rfl)
                have ht2' : Hid (cur2.take j = pre) := Lib.hid (by
                  rw [List.length_append, List.length_singleton, ← hj.out] at ht2
                  have h := congrArg (fun z => z.take j) ht2
                  simp only [List.take_take, Nat.min_eq_left (Nat.le_succ j)] at h
                  rw [h, hj.out, List.take_left])
                clear hw2 ht2 hv
                go_wp2_with fail
                go_roundg (gk - 1)
                case measure => omega
                case rel => exact ⟨x + 1, cur2, by go_num, Lib.hid (Nat.le_succ_of_le hlx.out), by omega, hc2, ht2', hw2'.out, hvn, by omega⟩
              · intro z rest v w2 hv o2 bx2 b2
                obtain ⟨s, hs⟩ := Words.visTo_pre k.toNat bnd r pre true (x := x + 1) (y := k.toNat) (by omega)
                rw [Words.visTo_all, Words.visTo_step, hvt.out, hv, List.nil_append, List.cons_append] at hs
                have h3 := Lib.hid (H2.out z _ v w2 hs o2 bx2 b2)
                clear hv hs bx2
                go_wp2_with fail
                exact h3.out
          · have hv : Words.vis k.toNat bnd (r + 1) pre true = [] := by rw [← Words.visTo_all, show k.toNat = x from by omega]; rw [show x = k.toNat from by omega] at hvt ⊢; exact hvt.out
            have h3 := Lib.hid (H1.out hv wr cur' hcl (by rw [← hj.out]; exact hct.out) hgw)
            clear hv
            go_wp2_with fail
            exact h3.out
    | false =>
      obtain ⟨avb, cvb, hvb, lvb, lcvb, ccvb⟩ := hw.bound.form
      have hbl := hw.blen
      rw [hbl] at hvb
      subst hvb
      obtain ⟨hl0, hl1⟩ := Words.leastL_in hk1 hst hpr
      have hpn : pre.length < n := by omega
      have hst' := Lib.hid hst
      have hpr' := Lib.hid hpr
      have hp1 := hst.pos
      have hn0 : ((pre.length : Int) == n) = false := by simp; omega
      obtain ⟨l, hl⟩ : ∃ l : Nat, (l : Int) = Words.leastL pre p := ⟨(Words.leastL pre p).toNat, by omega⟩
      have hle := hst.le
      have hcell0 : pre ≠ [] → cur[pre.length - p]? = some (l : Int) := fun h0 => by
        have h1 := hle h0
        have h2 : (cur.take pre.length)[pre.length - p]? = some (Words.at_ pre (pre.length - p)) := by rw [ht]; exact Words.at_some (by omega)
        rw [List.getElem?_take, if_pos (by omega)] at h2
        rw [h2, hl]
        unfold Words.leastL
        rw [if_neg h0]
      rw [← hl] at hl0 hl1
      have hlk := Lib.hid hl
      have hw' := Lib.hid hw
      clear hl hst hpr hw
      obtain ⟨j, hj0⟩ : ∃ j, j = pre.length := ⟨_, rfl⟩
      have hj := Lib.hid hj0
      rw [← hj0] at hn0 hpn hcell0 hp ht hle
      rw [← hj0]
      clear hj0
      have ht' := Lib.hid ht
      clear ht
      have hpb : Hid (pre = bnd.take j) := Lib.hid (by have h := hov rfl; rw [← hj.out] at h; exact h)
      clear hov
      by_cases h0 : j = 0
      · have hpe : Hid (pre = []) := Lib.hid (by have := hj.out; rw [h0] at this; exact List.length_eq_zero_iff.1 this.symm)
        have hl2 : l = 0 := by
          have := hlk.out
          unfold Words.leastL at this
          rw [if_pos hpe.out] at this
          omega
        clear hcell0 hle
        have hj1 : ((j : Int) == 0) = true := by rw [h0]; rfl
        have hj2 : ¬ (0 < (j : Int)) := by omega
        have hj3 : ¬ (0 < j) := by omega
        subst hl2
        clear h0
        go_enter Try.func54, Try.ntmps54
        go_wp2_with fail
        go_loopg [17] k.toNat (fun gg i wr => ∃ (x : Nat) (cur' : List Int), i = .int .i64 x ∧ Hid (0 ≤ x) ∧ (x : Int) ≤ k ∧ cur'.length = n ∧ Hid (cur'.take j = pre) ∧ GrowNext w0 wr (.slice avb n cvb) bnd b g n cur' ∧ Hid (Words.visTo k.toNat bnd r pre false x = []) ∧ k ≤ x + gg)
        case atStart => exact ⟨0, cur, by first | rfl | go_num, Lib.hid (Nat.le_refl _), by omega, hc, ht'.out, hw'.out, Lib.hid (Words.visTo_low hst'.out (by rw [← hlk.out]; exact Int.le_refl _)), by omega⟩
        case round =>
          obtain ⟨x, cur', rfl, hlx, hxk, hcl, hct, hgw, hvt, hm⟩ := hrel
          by_cases hx : (x : Int) < k
          · have hfr := Own.frozen hgw.word j
            obtain ⟨x0, _, hc0⟩ := OwnInts.cell hgw.word (k := j) (by omega)
            have i1 : (j : Int) < n := by omega
            have htk : Hid ((cur'.set j (x : Int)).take (pre ++ [(x : Int)]).length = pre ++ [(x : Int)]) := Lib.hid (by
              rw [List.length_append, List.length_singleton, ← hj.out, List.take_add_one, List.getElem?_set_self (by omega), List.take_set_of_le (Nat.le_refl _), hct.out]
              rfl)
            have hsn := Lib.hid (hst'.out.next (x := (x : Int)) (by rw [← hlk.out]; have := hlx.out; omega))
            have hpx : Hid (∀ z ∈ pre ++ [(x : Int)], 0 ≤ z ∧ z < k) := Lib.hid (by
              intro z hz
              rcases List.mem_append.1 hz with h | h
              · exact hpr'.out z h
              · simp at h; omega)
            obtain ⟨bb, ob, y, e0, hy, hcy⟩ := hgw.at.cell (k := j) (by omega)
            have hyv : Words.at_ bnd j = y := by unfold Words.at_; simp [List.getD, hy.out]
            have hblr : bnd.length = j + 1 + r := by omega
            have i2 : (j : Int) < bnd.length := by omega
            subst e0
            have hcy2 : (wr.setCell ⟨g, j, none⟩ (.int .i64 (x : Int))).cell? ⟨bb, ob + j, none⟩ = some (.int .i64 y) := by
              obtain ⟨b2, o2, y2, e2, hy2, hc2⟩ := (hgw.set j (x : Int) hn1).at.cell (k := j) (by omega)
              cases e2
              have h := hy2.out
              rw [hy.out] at h
              cases h
              exact hc2
            by_cases hlt : (x : Int) < y
            · have hvn : Hid (Words.visTo k.toNat bnd r pre false (x + 1) = []) := Lib.hid (by
                rw [Words.visTo_step, hvt.out, hpb.out, Words.vis_below hblr (by rw [hyv]; exact hlt)]; rfl)
              clear hyv
              go_wp2_with fail
              go_roundg (gk - 1)
              case measure => omega
              case rel => exact ⟨x + 1, cur', by go_num, Lib.hid (Nat.le_succ_of_le hlx.out), by omega, hcl, hct, hgw, hvn, by omega⟩
            · by_cases hxy : y < (x : Int)
              · have hve : Hid (Words.vis k.toNat bnd r (pre ++ [(x : Int)]) false = Words.vis k.toNat bnd r (pre ++ [(x : Int)]) true) := Lib.hid (by
                  rw [hpb.out]; exact Words.vis_above hblr (by rw [hyv]; exact hxy))
                clear hyv
                have hnp : Hid (Words.nextP pre p x = 1) := Lib.hid (by unfold Words.nextP; rw [if_pos hpe.out])
                go_wp2_with fail
                refine ih b g n (Words.nextP pre p x) k _ _ true (pre ++ [(x : Int)]) (cur'.set j x) bnd _ w0 _ _ (by rw [List.length_append, List.length_singleton, ← hj.out] <;> go_num) (by rw [hnp.out] <;> go_num) hk1 hk4 hn hn1 (by rw [List.length_append, List.length_singleton, ← hj.out]; omega) (by rw [List.length_set]; exact hcl) htk.out hsn.out hpx.out (fun h => by cases h) (hgw.set j x hn1) ?_ ?_
                · intro hv w2 cur2 hc2 ht2 hw2
                  have hw2' := Lib.hid hw2
                  have hvn : Hid (Words.visTo k.toNat bnd r pre false (x + 1) = []) := Lib.hid (by rw [Words.visTo_step, hvt.out, hve.out, hv]; rfl)
                  have ht2' : Hid (cur2.take j = pre) := Lib.hid (by
                    rw [List.length_append, List.length_singleton, ← hj.out] at ht2
                    have h := congrArg (fun z => z.take j) ht2
                    simp only [List.take_take, Nat.min_eq_left (Nat.le_succ j)] at h
                    rw [h, hj.out, List.take_left])
                  clear hw2 ht2 hv
                  go_wp2_with fail
                  go_roundg (gk - 1)
                  case measure => omega
                  case rel => exact ⟨x + 1, cur2, by go_num, Lib.hid (Nat.le_succ_of_le hlx.out), by omega, hc2, ht2', hw2'.out, hvn, by omega⟩
                · intro z rest v w2 hv o2 bx2 b2
                  obtain ⟨s, hs⟩ := Words.visTo_pre k.toNat bnd r pre false (x := x + 1) (y := k.toNat) (by omega)
                  rw [Words.visTo_all, Words.visTo_step, hvt.out, hve.out, hv, List.nil_append, List.cons_append] at hs
                  have h3 := Lib.hid (H2.out z _ v w2 hs o2 bx2 b2)
                  clear hv hs bx2
                  go_wp2_with fail
                  exact h3.out
              · have hov2 : Hid (pre ++ [(x : Int)] = bnd.take (pre ++ [(x : Int)]).length) := Lib.hid (by
                  rw [List.length_append, List.length_singleton, ← hj.out, List.take_add_one, hy.out, ← hpb.out, show y = (x : Int) from by omega]
                  rfl)
                clear hyv
                have hnp : Hid (Words.nextP pre p x = 1) := Lib.hid (by unfold Words.nextP; rw [if_pos hpe.out])
                go_wp2_with fail
                refine ih b g n (Words.nextP pre p x) k _ _ false (pre ++ [(x : Int)]) (cur'.set j x) bnd _ w0 _ _ (by rw [List.length_append, List.length_singleton, ← hj.out] <;> go_num) (by rw [hnp.out] <;> go_num) hk1 hk4 hn hn1 (by rw [List.length_append, List.length_singleton, ← hj.out]; omega) (by rw [List.length_set]; exact hcl) htk.out hsn.out hpx.out (fun _ => hov2.out) (hgw.set j x hn1) ?_ ?_
                · intro hv w2 cur2 hc2 ht2 hw2
                  have hw2' := Lib.hid hw2
                  have hvn : Hid (Words.visTo k.toNat bnd r pre false (x + 1) = []) := Lib.hid (by rw [Words.visTo_step, hvt.out, hv]; rfl)
                  have ht2' : Hid (cur2.take j = pre) := Lib.hid (by
                    rw [List.length_append, List.length_singleton, ← hj.out] at ht2
                    have h := congrArg (fun z => z.take j) ht2
                    simp only [List.take_take, Nat.min_eq_left (Nat.le_succ j)] at h
                    rw [h, hj.out, List.take_left])
                  clear hw2 ht2 hv
                  go_wp2_with fail
                  go_roundg (gk - 1)
                  case measure => omega
                  case rel => exact ⟨x + 1, cur2, by go_num, Lib.hid (Nat.le_succ_of_le hlx.out), by omega, hc2, ht2', hw2'.out, hvn, by omega⟩
                · intro z rest v w2 hv o2 bx2 b2
                  obtain ⟨s, hs⟩ := Words.visTo_pre k.toNat bnd r pre false (x := x + 1) (y := k.toNat) (by omega)
                  rw [Words.visTo_all, Words.visTo_step, hvt.out, hv, List.nil_append, List.cons_append] at hs
                  have h3 := Lib.hid (H2.out z _ v w2 hs o2 bx2 b2)
                  clear hv hs bx2
                  go_wp2_with fail
                  exact h3.out
          · have hv : Words.vis k.toNat bnd (r + 1) pre false = [] := by rw [← Words.visTo_all, show k.toNat = x from by omega]; rw [show x = k.toNat from by omega] at hvt ⊢; exact hvt.out
            have h3 := Lib.hid (H1.out hv wr cur' hcl (by rw [← hj.out]; exact hct.out) hgw)
            clear hv
            go_wp2_with fail
            exact h3.out
      · have hpe : Hid (pre ≠ []) := Lib.hid (by intro e; have := hj.out; rw [e] at this; simp at this; omega)
        have hcl0 := hcell0 hpe.out
        have hle2 := hle hpe.out
        clear hcell0 hle
        have hj1 : ((j : Int) == 0) = false := by simp; omega
        have hj2 : 0 < (j : Int) := by omega
        have hj3 : 0 < j := by omega
        have hjp : ((j : Int) - p).toNat = j - p := by omega
        have hjp0 : 0 ≤ (j : Int) - p := by omega
        have hjpn : (j : Int) - p < n := by omega
        have hcc := Own.cell hw'.out.word (k := j - p) (by rw [ints_get, hcl0]; rfl)
        clear hcl0 h0
        go_enter Try.func54, Try.ntmps54
        go_wp2_with fail
        go_loopg [17] k.toNat (fun gg i wr => ∃ (x : Nat) (cur' : List Int), i = .int .i64 x ∧ Hid (l ≤ x) ∧ (x : Int) ≤ k ∧ cur'.length = n ∧ Hid (cur'.take j = pre) ∧ GrowNext w0 wr (.slice avb n cvb) bnd b g n cur' ∧ Hid (Words.visTo k.toNat bnd r pre false x = []) ∧ k ≤ x + gg)
        case atStart => exact ⟨l, cur, by first | rfl | go_num, Lib.hid (Nat.le_refl _), by omega, hc, ht'.out, hw'.out, Lib.hid (Words.visTo_low hst'.out (by rw [← hlk.out]; exact Int.le_refl _)), by omega⟩
        case round =>
          obtain ⟨x, cur', rfl, hlx, hxk, hcl, hct, hgw, hvt, hm⟩ := hrel
          by_cases hx : (x : Int) < k
          · have hfr := Own.frozen hgw.word j
            obtain ⟨x0, _, hc0⟩ := OwnInts.cell hgw.word (k := j) (by omega)
            have i1 : (j : Int) < n := by omega
            have htk : Hid ((cur'.set j (x : Int)).take (pre ++ [(x : Int)]).length = pre ++ [(x : Int)]) := Lib.hid (by
              rw [List.length_append, List.length_singleton, ← hj.out, List.take_add_one, List.getElem?_set_self (by omega), List.take_set_of_le (Nat.le_refl _), hct.out]
              rfl)
            have hsn := Lib.hid (hst'.out.next (x := (x : Int)) (by rw [← hlk.out]; have := hlx.out; omega))
            have hpx : Hid (∀ z ∈ pre ++ [(x : Int)], 0 ≤ z ∧ z < k) := Lib.hid (by
              intro z hz
              rcases List.mem_append.1 hz with h | h
              · exact hpr'.out z h
              · simp at h; omega)
            obtain ⟨bb, ob, y, e0, hy, hcy⟩ := hgw.at.cell (k := j) (by omega)
            have hyv : Words.at_ bnd j = y := by unfold Words.at_; simp [List.getD, hy.out]
            have hblr : bnd.length = j + 1 + r := by omega
            have i2 : (j : Int) < bnd.length := by omega
            subst e0
            have hcy2 : (wr.setCell ⟨g, j, none⟩ (.int .i64 (x : Int))).cell? ⟨bb, ob + j, none⟩ = some (.int .i64 y) := by
              obtain ⟨b2, o2, y2, e2, hy2, hc2⟩ := (hgw.set j (x : Int) hn1).at.cell (k := j) (by omega)
              cases e2
              have h := hy2.out
              rw [hy.out] at h
              cases h
              exact hc2
            by_cases hlt : (x : Int) < y
            · have hvn : Hid (Words.visTo k.toNat bnd r pre false (x + 1) = []) := Lib.hid (by
                rw [Words.visTo_step, hvt.out, hpb.out, Words.vis_below hblr (by rw [hyv]; exact hlt)]; rfl)
              clear hyv
              go_wp2_with fail
              go_roundg (gk - 1)
              case measure => omega
              case rel => exact ⟨x + 1, cur', by go_num, Lib.hid (Nat.le_succ_of_le hlx.out), by omega, hcl, hct, hgw, hvn, by omega⟩
            · by_cases hxy : y < (x : Int)
              · have hve : Hid (Words.vis k.toNat bnd r (pre ++ [(x : Int)]) false = Words.vis k.toNat bnd r (pre ++ [(x : Int)]) true) := Lib.hid (by
                  rw [hpb.out]; exact Words.vis_above hblr (by rw [hyv]; exact hxy))
                clear hyv
                by_cases hxl : x = l
                · have hnp : Hid (Words.nextP pre p x = p) := Lib.hid (by unfold Words.nextP; rw [if_neg hpe.out, if_pos (by rw [← hlk.out, hxl])])
                  have hxl2 : ((x : Int) != l) = false := by rw [hxl]; simp
                  clear hxl
                  go_wp2_with fail
                  refine ih b g n (Words.nextP pre p x) k _ _ true (pre ++ [(x : Int)]) (cur'.set j x) bnd _ w0 _ _ (by rw [List.length_append, List.length_singleton, ← hj.out] <;> go_num) (by rw [hnp.out] <;> go_num) hk1 hk4 hn hn1 (by rw [List.length_append, List.length_singleton, ← hj.out]; omega) (by rw [List.length_set]; exact hcl) htk.out hsn.out hpx.out (fun h => by cases h) (hgw.set j x hn1) ?_ ?_
                  · intro hv w2 cur2 hc2 ht2 hw2
                    have hw2' := Lib.hid hw2
                    have hvn : Hid (Words.visTo k.toNat bnd r pre false (x + 1) = []) := Lib.hid (by rw [Words.visTo_step, hvt.out, hve.out, hv]; rfl)
                    have ht2' : Hid (cur2.take j = pre) := Lib.hid (by
                      rw [List.length_append, List.length_singleton, ← hj.out] at ht2
                      have h := congrArg (fun z => z.take j) ht2
                      simp only [List.take_take, Nat.min_eq_left (Nat.le_succ j)] at h
                      rw [h, hj.out, List.take_left])
                    clear hw2 ht2 hv
                    go_wp2_with fail
                    go_roundg (gk - 1)
                    case measure => omega
                    case rel => exact ⟨x + 1, cur2, by go_num, Lib.hid (Nat.le_succ_of_le hlx.out), by omega, hc2, ht2', hw2'.out, hvn, by omega⟩
                  · intro z rest v w2 hv o2 bx2 b2
                    obtain ⟨s, hs⟩ := Words.visTo_pre k.toNat bnd r pre false (x := x + 1) (y := k.toNat) (by omega)
                    rw [Words.visTo_all, Words.visTo_step, hvt.out, hve.out, hv, List.nil_append, List.cons_append] at hs
                    have h3 := Lib.hid (H2.out z _ v w2 hs o2 bx2 b2)
                    clear hv hs bx2
                    go_wp2_with fail
                    exact h3.out
                · have hnp : Hid (Words.nextP pre p x = j + 1) := Lib.hid (by unfold Words.nextP; rw [if_neg hpe.out, if_neg (by rw [← hlk.out]; omega), hj.out])
                  have hxl2 : ((x : Int) != l) = true := by simp; omega
                  clear hxl
                  go_wp2_with fail
                  refine ih b g n (Words.nextP pre p x) k _ _ true (pre ++ [(x : Int)]) (cur'.set j x) bnd _ w0 _ _ (by rw [List.length_append, List.length_singleton, ← hj.out] <;> go_num) (by rw [hnp.out] <;> go_num) hk1 hk4 hn hn1 (by rw [List.length_append, List.length_singleton, ← hj.out]; omega) (by rw [List.length_set]; exact hcl) htk.out hsn.out hpx.out (fun h => by cases h) (hgw.set j x hn1) ?_ ?_
                  · intro hv w2 cur2 hc2 ht2 hw2
                    have hw2' := Lib.hid hw2
                    have hvn : Hid (Words.visTo k.toNat bnd r pre false (x + 1) = []) := Lib.hid (by rw [Words.visTo_step, hvt.out, hve.out, hv]; rfl)
                    have ht2' : Hid (cur2.take j = pre) := Lib.hid (by
                      rw [List.length_append, List.length_singleton, ← hj.out] at ht2
                      have h := congrArg (fun z => z.take j) ht2
                      simp only [List.take_take, Nat.min_eq_left (Nat.le_succ j)] at h
                      rw [h, hj.out, List.take_left])
                    clear hw2 ht2 hv
                    go_wp2_with fail
                    go_roundg (gk - 1)
                    case measure => omega
                    case rel => exact ⟨x + 1, cur2, by go_num, Lib.hid (Nat.le_succ_of_le hlx.out), by omega, hc2, ht2', hw2'.out, hvn, by omega⟩
                  · intro z rest v w2 hv o2 bx2 b2
                    obtain ⟨s, hs⟩ := Words.visTo_pre k.toNat bnd r pre false (x := x + 1) (y := k.toNat) (by omega)
                    rw [Words.visTo_all, Words.visTo_step, hvt.out, hve.out, hv, List.nil_append, List.cons_append] at hs
                    have h3 := Lib.hid (H2.out z _ v w2 hs o2 bx2 b2)
                    clear hv hs bx2
                    go_wp2_with fail
                    exact h3.out
              · have hov2 : Hid (pre ++ [(x : Int)] = bnd.take (pre ++ [(x : Int)]).length) := Lib.hid (by
                  rw [List.length_append, List.length_singleton, ← hj.out, List.take_add_one, hy.out, ← hpb.out, show y = (x : Int) from by omega]
                  rfl)
                clear hyv
                by_cases hxl : x = l
                · have hnp : Hid (Words.nextP pre p x = p) := Lib.hid (by unfold Words.nextP; rw [if_neg hpe.out, if_pos (by rw [← hlk.out, hxl])])
                  have hxl2 : ((x : Int) != l) = false := by rw [hxl]; simp
                  clear hxl
                  go_wp2_with fail
                  refine ih b g n (Words.nextP pre p x) k _ _ false (pre ++ [(x : Int)]) (cur'.set j x) bnd _ w0 _ _ (by rw [List.length_append, List.length_singleton, ← hj.out] <;> go_num) (by rw [hnp.out] <;> go_num) hk1 hk4 hn hn1 (by rw [List.length_append, List.length_singleton, ← hj.out]; omega) (by rw [List.length_set]; exact hcl) htk.out hsn.out hpx.out (fun _ => hov2.out) (hgw.set j x hn1) ?_ ?_
                  · intro hv w2 cur2 hc2 ht2 hw2
                    have hw2' := Lib.hid hw2
                    have hvn : Hid (Words.visTo k.toNat bnd r pre false (x + 1) = []) := Lib.hid (by rw [Words.visTo_step, hvt.out, hv]; rfl)
                    have ht2' : Hid (cur2.take j = pre) := Lib.hid (by
                      rw [List.length_append, List.length_singleton, ← hj.out] at ht2
                      have h := congrArg (fun z => z.take j) ht2
                      simp only [List.take_take, Nat.min_eq_left (Nat.le_succ j)] at h
                      rw [h, hj.out, List.take_left])
                    clear hw2 ht2 hv
                    go_wp2_with fail
                    go_roundg (gk - 1)
                    case measure => omega
                    case rel => exact ⟨x + 1, cur2, by go_num, Lib.hid (Nat.le_succ_of_le hlx.out), by omega, hc2, ht2', hw2'.out, hvn, by omega⟩
                  · intro z rest v w2 hv o2 bx2 b2
                    obtain ⟨s, hs⟩ := Words.visTo_pre k.toNat bnd r pre false (x := x + 1) (y := k.toNat) (by omega)
                    rw [Words.visTo_all, Words.visTo_step, hvt.out, hv, List.nil_append, List.cons_append] at hs
                    have h3 := Lib.hid (H2.out z _ v w2 hs o2 bx2 b2)
                    clear hv hs bx2
                    go_wp2_with fail
                    exact h3.out
                · have hnp : Hid (Words.nextP pre p x = j + 1) := Lib.hid (by unfold Words.nextP; rw [if_neg hpe.out, if_neg (by rw [← hlk.out]; omega), hj.out])
                  have hxl2 : ((x : Int) != l) = true := by simp; omega
                  clear hxl
                  go_wp2_with fail
                  refine ih b g n (Words.nextP pre p x) k _ _ false (pre ++ [(x : Int)]) (cur'.set j x) bnd _ w0 _ _ (by rw [List.length_append, List.length_singleton, ← hj.out] <;> go_num) (by rw [hnp.out] <;> go_num) hk1 hk4 hn hn1 (by rw [List.length_append, List.length_singleton, ← hj.out]; omega) (by rw [List.length_set]; exact hcl) htk.out hsn.out hpx.out (fun _ => hov2.out) (hgw.set j x hn1) ?_ ?_
                  · intro hv w2 cur2 hc2 ht2 hw2
                    have hw2' := Lib.hid hw2
                    have hvn : Hid (Words.visTo k.toNat bnd r pre false (x + 1) = []) := Lib.hid (by rw [Words.visTo_step, hvt.out, hv]; rfl)
                    have ht2' : Hid (cur2.take j = pre) := Lib.hid (by
                      rw [List.length_append, List.length_singleton, ← hj.out] at ht2
                      have h := congrArg (fun z => z.take j) ht2
                      simp only [List.take_take, Nat.min_eq_left (Nat.le_succ j)] at h
                      rw [h, hj.out, List.take_left])
                    clear hw2 ht2 hv
                    go_wp2_with fail
                    go_roundg (gk - 1)
                    case measure => omega
                    case rel => exact ⟨x + 1, cur2, by go_num, Lib.hid (Nat.le_succ_of_le hlx.out), by omega, hc2, ht2', hw2'.out, hvn, by omega⟩
                  · intro z rest v w2 hv o2 bx2 b2
                    obtain ⟨s, hs⟩ := Words.visTo_pre k.toNat bnd r pre false (x := x + 1) (y := k.toNat) (by omega)
                    rw [Words.visTo_all, Words.visTo_step, hvt.out, hv, List.nil_append, List.cons_append] at hs
                    have h3 := Lib.hid (H2.out z _ v w2 hs o2 bx2 b2)
                    clear hv hs bx2
                    go_wp2_with fail
                    exact h3.out
          · have hv : Words.vis k.toNat bnd (r + 1) pre false = [] := by rw [← Words.visTo_all, show k.toNat = x from by omega]; rw [show x = k.toNat from by omega] at hvt ⊢; exact hvt.out
            have h3 := Lib.hid (H1.out hv wr cur' hcl (by rw [← hj.out]; exact hct.out) hgw)
            clear hv
            go_wp2_with fail
            exact h3.out
end Go.Proofs.Ytmlmpneikhdgcaa
