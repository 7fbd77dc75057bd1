/-
  'grow', when it sees all necklaces.
-/
import Derived.Test.YtmlmpneikhdgcaaGrow1
set_option linter.unusedVariables false
namespace Go.Proofs.Ytmlmpneikhdgcaa
open Go.RowKit

theorem Words.vis_len (k : Nat) (hk : k ≤ 4) (b : List Int) (r : Nat) (pre : List Int) (over : Bool) : (Words.vis k b r pre over).length ≤ 4 ^ r := by
  unfold Words.vis
  have h := List.length_filter_le (fun w => Words.neckP w && (over || decide (Words.cmpL b w < 0))) ((Perms.wordsN k r).map fun w => pre ++ w)
  rw [List.length_map, Perms.wordsN_len] at h
  exact Nat.le_trans h (Nat.pow_le_pow_left hk r)
theorem Words.visTo_len (k : Nat) (hk : k ≤ 4) (b : List Int) (r : Nat) (pre : List Int) (over : Bool) : ∀ x, (Words.visTo k b r pre over x).length ≤ x * 4 ^ r
  | 0 => by simp [Words.visTo]
  | x + 1 => by
    have h1 := Words.visTo_len k hk b r pre over x
    have h2 := Words.vis_len k hk b r (pre ++ [(x : Int)]) over
    rw [Words.visTo_step, List.length_append, Nat.succ_mul]
    omega
theorem Words.leastL_in {k : Int} {pre : List Int} {p : Nat} (hk : 1 ≤ k) (h : Words.St pre p) (hp : ∀ x ∈ pre, 0 ≤ x ∧ x < k) : 0 ≤ Words.leastL pre p ∧ Words.leastL pre p < k := by
  unfold Words.leastL
  split
  · omega
  · rename_i h0
    have hl := h.le h0
    have h1 := h.pos
    exact hp _ (List.mem_of_getElem? (Words.at_some (by omega)))
def GrowAllAt (r : Nat) : Prop := ∀ (B R b g n p : Nat) (k : Int) (a pi : Int) (pre cur : List Int) (acc : List (List Int)) (w : World) (Q : Ending → World → Prop) (ha : a = pre.length) (hpi : pi = p) (hk1 : 1 ≤ k) (hk4 : k ≤ 4) (hn : n ≤ 10) (hn1 : 1 ≤ n) (hp : pre.length + r = n) (hc : cur.length = n) (ht : cur.take pre.length = pre)
    (hst : Words.St pre p) (hpr : ∀ x ∈ pre, 0 ≤ x ∧ x < k) (hw : GrowAll w B R b g n cur acc) (hal : acc.length + 4 ^ r ≤ 2000000)
    (hQ : ∀ w' cur', cur'.length = n → cur'.take pre.length = pre → GrowAll w' B R b g n cur' (acc ++ Words.vis k.toNat [] r pre true) → Below B w w' → Q (.returned (.bool true)) w'),
    Calls Try.prog 54 #[.slice (some ⟨g, 0, none⟩) n n, .int .i64 a, .int .i64 pi, .int .i64 k, .slice none 0 0, .bool true, .func (.func 92) #[] #[.pointer (some ⟨b, 0, none⟩)]] w Q
set_option maxHeartbeats 3200000 in
theorem grow_all : ∀ (r : Nat), GrowAllAt r := by
  intro r
  induction r with
  | zero =>
    intro B R b g n p k a pi pre cur acc w Q ha hpi hk1 hk4 hn hn1 hp hc ht hst hpr hw hal hQ
    have H := Lib.hid hQ; clear hQ
    subst ha hpi
    have hcp : cur = pre := by rw [← ht, List.take_of_length_le (by omega)]
    subst hcp
    have hpn : cur ≠ [] := by intro e; rw [e] at hc; simp at hc; omega
    have hnk := Lib.hid (hst.neck hpn)
    have hp1 := hst.pos
    have hpl := hst.le hpn
    have hv := Lib.hid (Words.vis_zero k.toNat [] cur true)
    have hw' := Lib.hid hw
    have hpr' := Lib.hid hpr
    have hst' := Lib.hid hst
    clear hw hpr hst ht
    have hp5 : ¬ (p = 0) := by omega
    obtain ⟨m, hm⟩ : ∃ m, m = cur.length % p := ⟨_, rfl⟩
    have hmI : (n : Int) % p = m := by rw [hm, hc, Int.natCast_emod]
    have hm' := Lib.hid hm
    clear hm
    by_cases h0 : m = 0
    · have hv2 : Hid (Words.vis k.toNat [] 0 cur true = [cur]) := Lib.hid (by
        rw [hv.out, hnk.out, ← hm'.out, decide_eq_true h0]; simp)
      subst h0
      go_enter Try.func54, Try.ntmps54
      go_wp2_with fail
      refine see_all hw'.out hn hc (by simp at hal; omega) ?_
      intro w2 hw2 b2
      have h3 := Lib.hid (H.out w2 cur hc (by rw [List.take_length]) (by rw [hv2.out]; exact hw2) b2)
      clear hw2
      go_wp2_with fail
      exact h3.out
    · have hv2 : Hid (Words.vis k.toNat [] 0 cur true = []) := Lib.hid (by
        rw [hv.out, hnk.out, ← hm'.out, decide_eq_false h0]; simp)
      have h3 := Lib.hid (H.out w cur hc (by rw [List.take_length]) (by rw [hv2.out, List.append_nil]; exact hw'.out) (Below.refl _ _))
      go_enter Try.func54, Try.ntmps54
      go_wp2_with fail
      exact h3.out
  | succ r ih =>
    intro B R b g n p k a pi pre cur acc w Q ha hpi hk1 hk4 hn hn1 hp hc ht hst hpr hw hal hQ
    have H := Lib.hid hQ; clear hQ
    subst ha hpi
    obtain ⟨hl0, hl1⟩ := Words.leastL_in hk1 hst hpr
    have hpn : pre.length < n := by omega
    have hal' := Lib.hid hal
    have hst' := Lib.hid hst
    have hpr' := Lib.hid hpr
    have hp1 := hst.pos
    have hn0 : ((pre.length : Int) == n) = false := by simp; omega
    obtain ⟨l, hl⟩ : ∃ l : Nat, (l : Int) = Words.leastL pre p := ⟨(Words.leastL pre p).toNat, by omega⟩
    have hle := hst.le
    have hcell0 : pre ≠ [] → cur[pre.length - p]? = some (l : Int) := fun h0 => by
      have h1 := hle h0
      have h2 : (cur.take pre.length)[pre.length - p]? = some (Words.at_ pre (pre.length - p)) := by rw [ht]; exact Words.at_some (by omega)
      rw [List.getElem?_take, if_pos (by omega)] at h2
      rw [h2, hl]
      unfold Words.leastL
      rw [if_neg h0]
    rw [← hl] at hl0 hl1
    have hlk := Lib.hid hl
    clear hl hal hst hpr
    have hw' := Lib.hid hw
    obtain ⟨j, hj0⟩ : ∃ j, j = pre.length := ⟨_, rfl⟩
    have hj := Lib.hid hj0
    rw [← hj0] at hn0 hpn hcell0 hp ht hle
    rw [← hj0]
    clear hj0
    have ht' := Lib.hid ht
    clear ht hw
    by_cases h0 : j = 0
    · have hpe : Hid (pre = []) := Lib.hid (by have := hj.out; rw [h0] at this; exact List.length_eq_zero_iff.1 this.symm)
      have hl2 : l = 0 := by
        have := hlk.out
        unfold Words.leastL at this
        rw [if_pos hpe.out] at this
        omega
      clear hcell0 hle
      have hj1 : ((j : Int) == 0) = true := by rw [h0]; rfl
      have hj2 : ¬ (0 < (j : Int)) := by omega
      have hj3 : ¬ (0 < j) := by omega
      subst hl2
      clear h0
      go_enter Try.func54, Try.ntmps54
      go_wp2_with fail
      go_loopg [17] k.toNat (fun gg i wr => ∃ (x : Nat) (cur' : List Int), i = .int .i64 x ∧ Hid (0 ≤ x) ∧ (x : Int) ≤ k ∧ cur'.length = n ∧ Hid (cur'.take j = pre) ∧ GrowAll wr B R b g n cur' (acc ++ Words.visTo k.toNat [] r pre true x) ∧ Below B w wr ∧ k ≤ x + gg)
      case atStart => exact ⟨0, cur, by first | rfl | go_num, Lib.hid (Nat.le_refl _), by omega, hc, ht'.out, by rw [Words.visTo_low hst'.out (by rw [← hlk.out]; exact Int.le_refl _), List.append_nil]; exact hw'.out, Below.refl _ _, by omega⟩
      case round =>
        obtain ⟨x, cur', rfl, hlx, hxk, hcl, hct, hgw, hbw, hm⟩ := hrel
        by_cases hx : (x : Int) < k
        · have hfr := Own.frozen hgw.word j
          obtain ⟨x0, _, hc0⟩ := OwnInts.cell hgw.word (k := j) (by omega)
          have hBg : B ≤ g := (Own.lt hgw.word rfl).1
          have i1 : (j : Int) < n := by omega
          have htk : Hid ((cur'.set j (x : Int)).take (pre ++ [(x : Int)]).length = pre ++ [(x : Int)]) := Lib.hid (by
            rw [List.length_append, List.length_singleton, ← hj.out, List.take_add_one, List.getElem?_set_self (by omega), List.take_set_of_le (Nat.le_refl _), hct.out]
            rfl)
          have hsn := Lib.hid (hst'.out.next (x := (x : Int)) (by rw [← hlk.out]; have := hlx.out; omega))
          have hpx : Hid (∀ z ∈ pre ++ [(x : Int)], 0 ≤ z ∧ z < k) := Lib.hid (by
            intro z hz
            rcases List.mem_append.1 hz with h | h
            · exact hpr'.out z h
            · simp at h; omega)
          have hac : Hid ((acc ++ Words.visTo k.toNat [] r pre true x).length + 4 ^ r ≤ 2000000) := Lib.hid (by
            have h1 := Words.visTo_len k.toNat (by omega) [] r pre true x
            have h2 : x * 4 ^ r ≤ 3 * 4 ^ r := Nat.mul_le_mul_right _ (by omega)
            have h3 := hal'.out
            rw [Nat.pow_succ] at h3
            rw [List.length_append]
            omega)
          have hnp : Hid (Words.nextP pre p x = 1) := Lib.hid (by unfold Words.nextP; rw [if_pos hpe.out])
          go_wp2_with fail
          refine ih B R b g n (Words.nextP pre p x) k _ _ (pre ++ [(x : Int)]) (cur'.set j x) (acc ++ Words.visTo k.toNat [] r pre true x) _ _ (by rw [List.length_append, List.length_singleton, ← hj.out] <;> go_num) (by rw [hnp.out] <;> go_num) hk1 hk4 hn hn1 (by rw [List.length_append, List.length_singleton, ← hj.out]; omega) (by rw [List.length_set]; exact hcl) htk.out hsn.out hpx.out (hgw.set j x) hac.out ?_
          intro w2 cur2 hc2 ht2 hw2 b2
          rw [List.append_assoc, ← Words.visTo_step] at hw2
          have hw2' := Lib.hid hw2
          have ht2' : Hid (cur2.take j = pre) := Lib.hid (by
            rw [List.length_append, List.length_singleton, ← hj.out] at ht2
            have h := congrArg (fun z => z.take j) ht2
            simp only [List.take_take, Nat.min_eq_left (Nat.le_succ j)] at h
            rw [h, hj.out, List.take_left])
          have hbs := hbw.size
          clear hw2 ht2
          go_wp2_with fail
          go_roundg (gk - 1)
          case measure => omega
          case rel => exact ⟨x + 1, cur2, by go_num, Lib.hid (Nat.le_succ_of_le hlx.out), by omega, hc2, ht2', hw2'.out, (hbw.setCell hBg _).trans b2, by omega⟩
        · have hv : Hid (acc ++ Words.visTo k.toNat [] r pre true x = acc ++ Words.vis k.toNat [] (r + 1) pre true) := Lib.hid (by rw [show x = k.toNat from by omega, Words.visTo_all])
          have h3 := Lib.hid (H.out wr cur' hcl (by rw [← hj.out]; exact hct.out) (by rw [← hv.out]; exact hgw) hbw)
          go_wp2_with fail
          exact h3.out
    · have hpe : Hid (pre ≠ []) := Lib.hid (by intro e; have := hj.out; rw [e] at this; simp at this; omega)
      have hcl0 := hcell0 hpe.out
      have hle2 := hle hpe.out
      clear hcell0 hle
      have hj1 : ((j : Int) == 0) = false := by simp; omega
      have hj2 : 0 < (j : Int) := by omega
      have hj3 : 0 < j := by omega
      have hjp : ((j : Int) - p).toNat = j - p := by omega
      have hjp0 : 0 ≤ (j : Int) - p := by omega
      have hjpn : (j : Int) - p < n := by omega
      have hcc := Own.cell hw'.out.word (k := j - p) (by rw [ints_get, hcl0]; rfl)
      clear hcl0 h0
      go_enter Try.func54, Try.ntmps54
      go_wp2_with fail
      go_loopg [17] k.toNat (fun gg i wr => ∃ (x : Nat) (cur' : List Int), i = .int .i64 x ∧ Hid (l ≤ x) ∧ (x : Int) ≤ k ∧ cur'.length = n ∧ Hid (cur'.take j = pre) ∧ GrowAll wr B R b g n cur' (acc ++ Words.visTo k.toNat [] r pre true x) ∧ Below B w wr ∧ k ≤ x + gg)
      case atStart => exact ⟨l, cur, by first | rfl | go_num, Lib.hid (Nat.le_refl _), by omega, hc, ht'.out, by rw [Words.visTo_low hst'.out (by rw [← hlk.out]; exact Int.le_refl _), List.append_nil]; exact hw'.out, Below.refl _ _, by omega⟩
      case round =>
        obtain ⟨x, cur', rfl, hlx, hxk, hcl, hct, hgw, hbw, hm⟩ := hrel
        by_cases hx : (x : Int) < k
        · have hfr := Own.frozen hgw.word j
          obtain ⟨x0, _, hc0⟩ := OwnInts.cell hgw.word (k := j) (by omega)
          have hBg : B ≤ g := (Own.lt hgw.word rfl).1
          have i1 : (j : Int) < n := by omega
          have htk : Hid ((cur'.set j (x : Int)).take (pre ++ [(x : Int)]).length = pre ++ [(x : Int)]) := Lib.hid (by
            rw [List.length_append, List.length_singleton, ← hj.out, List.take_add_one, List.getElem?_set_self (by omega), List.take_set_of_le (Nat.le_refl _), hct.out]
            rfl)
          have hsn := Lib.hid (hst'.out.next (x := (x : Int)) (by rw [← hlk.out]; have := hlx.out; omega))
          have hpx : Hid (∀ z ∈ pre ++ [(x : Int)], 0 ≤ z ∧ z < k) := Lib.hid (by
            intro z hz
            rcases List.mem_append.1 hz with h | h
            · exact hpr'.out z h
            · simp at h; omega)
          have hac : Hid ((acc ++ Words.visTo k.toNat [] r pre true x).length + 4 ^ r ≤ 2000000) := Lib.hid (by
            have h1 := Words.visTo_len k.toNat (by omega) [] r pre true x
            have h2 : x * 4 ^ r ≤ 3 * 4 ^ r := Nat.mul_le_mul_right _ (by omega)
            have h3 := hal'.out
            rw [Nat.pow_succ] at h3
            rw [List.length_append]
            omega)
          by_cases hxl : x = l
          · have hnp : Hid (Words.nextP pre p x = p) := Lib.hid (by unfold Words.nextP; rw [if_neg hpe.out, if_pos (by rw [← hlk.out, hxl])])
            have hxl2 : ((x : Int) != l) = false := by rw [hxl]; simp
            clear hxl
            go_wp2_with fail
            refine ih B R b g n (Words.nextP pre p x) k _ _ (pre ++ [(x : Int)]) (cur'.set j x) (acc ++ Words.visTo k.toNat [] r pre true x) _ _ (by rw [List.length_append, List.length_singleton, ← hj.out] <;> go_num) (by rw [hnp.out] <;> go_num) hk1 hk4 hn hn1 (by rw [List.length_append, List.length_singleton, ← hj.out]; omega) (by rw [List.length_set]; exact hcl) htk.out hsn.out hpx.out (hgw.set j x) hac.out ?_
            intro w2 cur2 hc2 ht2 hw2 b2
            rw [List.append_assoc, ← Words.visTo_step] at hw2
            have hw2' := Lib.hid hw2
            have ht2' : Hid (cur2.take j = pre) := Lib.hid (by
              rw [List.length_append, List.length_singleton, ← hj.out] at ht2
              have h := congrArg (fun z => z.take j) ht2
              simp only [List.take_take, Nat.min_eq_left (Nat.le_succ j)] at h
              rw [h, hj.out, List.take_left])
            have hbs := hbw.size
            clear hw2 ht2
            go_wp2_with fail
            go_roundg (gk - 1)
            case measure => omega
            case rel => exact ⟨x + 1, cur2, by go_num, Lib.hid (Nat.le_succ_of_le hlx.out), by omega, hc2, ht2', hw2'.out, (hbw.setCell hBg _).trans b2, by omega⟩
          · have hnp : Hid (Words.nextP pre p x = j + 1) := Lib.hid (by unfold Words.nextP; rw [if_neg hpe.out, if_neg (by rw [← hlk.out]; omega), hj.out])
            have hxl2 : ((x : Int) != l) = true := by simp; omega
            clear hxl
            go_wp2_with fail
            refine ih B R b g n (Words.nextP pre p x) k _ _ (pre ++ [(x : Int)]) (cur'.set j x) (acc ++ Words.visTo k.toNat [] r pre true x) _ _ (by rw [List.length_append, List.length_singleton, ← hj.out] <;> go_num) (by rw [hnp.out] <;> go_num) hk1 hk4 hn hn1 (by rw [List.length_append, List.length_singleton, ← hj.out]; omega) (by rw [List.length_set]; exact hcl) htk.out hsn.out hpx.out (hgw.set j x) hac.out ?_
            intro w2 cur2 hc2 ht2 hw2 b2
            rw [List.append_assoc, ← Words.visTo_step] at hw2
            have hw2' := Lib.hid hw2
            have ht2' : Hid (cur2.take j = pre) := Lib.hid (by
              rw [List.length_append, List.length_singleton, ← hj.out] at ht2
              have h := congrArg (fun z => z.take j) ht2
              simp only [List.take_take, Nat.min_eq_left (Nat.le_succ j)] at h
              rw [h, hj.out, List.take_left])
            have hbs := hbw.size
            clear hw2 ht2
            go_wp2_with fail
            go_roundg (gk - 1)
            case measure => omega
            case rel => exact ⟨x + 1, cur2, by go_num, Lib.hid (Nat.le_succ_of_le hlx.out), by omega, hc2, ht2', hw2'.out, (hbw.setCell hBg _).trans b2, by omega⟩
        · have hv : Hid (acc ++ Words.visTo k.toNat [] r pre true x = acc ++ Words.vis k.toNat [] (r + 1) pre true) := Lib.hid (by rw [show x = k.toNat from by omega, Words.visTo_all])
          have h3 := Lib.hid (H.out wr cur' hcl (by rw [← hj.out]; exact hct.out) (by rw [← hv.out]; exact hgw) hbw)
          go_wp2_with fail
          exact h3.out
end Go.Proofs.Ytmlmpneikhdgcaa
