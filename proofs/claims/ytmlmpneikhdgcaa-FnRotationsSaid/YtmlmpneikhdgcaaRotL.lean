/-
  The law FnRotations: what it computes.
-/
import Derived.Test.YtmlmpneikhdgcaaRchk
import Derived.Test.YtmlmpneikhdgcaaMake
import Derived.Test.YtmlmpneikhdgcaaBef
import Derived.Test.YtmlmpneikhdgcaaBrace
set_option linter.unusedVariables false
namespace Go.Proofs.Ytmlmpneikhdgcaa
open Go.RowKit

def Words.kept (xs : List Int) (j : Nat) : Nat := ((List.range j).filter fun (i : Nat) => decide (Words.rot xs i = xs)).length
theorem Words.kept_le (xs : List Int) (j : Nat) : Words.kept xs j ≤ j := by
  have := List.length_filter_le (fun (i : Nat) => decide (Words.rot xs i = xs)) (List.range j)
  rw [List.length_range] at this
  exact this
theorem Words.kept_step (xs : List Int) (j : Nat) : Words.kept xs (j + 1) = Words.kept xs j + (if Words.rot xs j = xs then 1 else 0) := by
  unfold Words.kept
  rw [List.range_succ, List.filter_append, List.length_append]
  congr 1
  by_cases h : Words.rot xs j = xs <;> simp [h]
structure Words.RotFacts (xs : List Int) : Prop where
  ok : Words.okW xs = true
  rk : Words.rotOk xs (Words.lrI xs) = true
  eq : Words.lrW xs = Words.rotW xs (Words.lrI xs)
  pos : 1 ≤ Words.perI xs
  dv : (xs.length : Int) % Words.perI xs = 0
  rl : ((Words.rootW xs).length : Int) = Words.perI xs
  rn : Words.rootN xs * Words.perI xs = xs.length
  rp : Words.perI (Words.rootW xs) = Words.perI xs
  all : ∀ i : Nat, i < xs.length → xs[i]? = (Words.rootW xs)[i % (Words.perI xs).toNat]? ∧ ¬ Words.cmpL (Words.rot xs i) (Words.lrW xs) < 0
  kp : (Words.kept xs xs.length : Int) * Words.perI xs = xs.length
theorem Words.rotFacts {n : Nat} {xs : List Int} (h1 : 1 ≤ n) (h2 : n ≤ 10) (hl : xs.length = n) (hr : ∀ x ∈ xs, 0 ≤ x ∧ x < 2) : Words.RotFacts xs := by
  have h := List.all_eq_true.1 (Words.rot_all h1 h2) xs (Perms.wordsN_mem.2 ⟨hl, fun x hx => by have := hr x hx; omega⟩)
  unfold Words.rotChk at h
  simp only [Bool.and_eq_true, decide_eq_true_eq, List.all_eq_true, List.mem_range, Bool.not_eq_true', decide_eq_false_iff_not] at h
  obtain ⟨⟨⟨⟨⟨⟨⟨⟨a1, a2⟩, a3⟩, a4⟩, a5⟩, a6⟩, a7⟩, a8⟩, a9⟩ := h
  refine ⟨by unfold Words.rotOk at a1; simp only [Bool.and_eq_true] at a1; exact a1.1, a1, a2, a3, a4, a5, a6, a7, ?_, a9⟩
  intro i hi
  have := a8 i hi
  rw [Int.toNat_natCast] at this
  exact this
set_option maxHeartbeats 3200000 in
theorem FnRotations_l {v : Value} {bs : List Int} {w : World} {Q : Ending → World → Prop} (hb : BytesAt w v bs) (hQ : ∀ w', Below w.heap.size w w' → Q (.returned (.bool true)) w') :
    Calls Try.prog 10 #[v] w Q := by
  have H := Lib.hid hQ; clear hQ
  have hb' := hb
  obtain ⟨ao, ca, rfl, la, lca, cca⟩ := hb'.form
  rw [show (bytes bs).length = bs.length from by simp [bytes]] at *
  by_cases hlen : (bs.length : Int) ≤ 1048576
  rotate_left
  · have hl2 : (1048576 : Int) < bs.length := by omega
    go_enter Try.func10, Try.ntmps10
    go_wp2_with fail
    exact H.out _ (Below.refl _ _)
  have hb0 := Lib.hid hb
  clear hb hb'
  go_enter Try.func10, Try.ntmps10
  go_wp2_with fail
  refine MakeNum_c hb0.out (by omega) (by omega) ?_
  intro x1 w1 hx0 hx1 b1
  obtain ⟨n, hn⟩ : ∃ n : Nat, 1 + x1 % 10 = (n : Int) := ⟨(1 + x1 % 10).toNat, by omega⟩
  have hn1 : 1 ≤ n := by omega
  have hn2 : n ≤ 10 := by omega
  have hb1 := Lib.hid (hb0.out.below b1)
  go_wp2_with fail
  clear hn hx0 hx1
  refine MakeColors_c hb1.out (by omega) (by omega) hn1 hn2 (by omega) (by omega) ?_
  intro v2 xs w2 hl2 hr2 o2 b2
  obtain ⟨a2, c2, rfl, _, _, _⟩ := Own.form o2
  have e2 : (ints xs).length = n := by rw [ints_len]; exact hl2
  rw [e2] at o2 ⊢
  have bw2 : Below w.heap.size w w2 := b1.trans (b2.mono b1.size)
  have F := Lib.hid (Words.rotFacts hn1 hn2 hl2 hr2)
  have o2' : OwnInts w2 w.heap.size (.slice a2 n c2) xs := OwnInts.mono o2 b1.size
  obtain ⟨g, rfl, hgB, _⟩ := Own.head o2' (by omega)
  have hx2 := Lib.hid (OwnInts.at o2')
  clear hr2 o2 b2 b1 hb1 o2'
  have hxl : xs.length ≤ 1048576 := by omega
  go_wp2_with fail
  refine LeastRotation_i hx2.out hxl ?_
  intro v3 w3 o3 b3
  obtain ⟨a3, c3, rfl, _, _, _⟩ := Own.form o3
  have bw3 := bw2.trans (b3.mono bw2.size)
  have hx3 := Lib.hid (hx2.out.below b3)
  have hy3 := Lib.hid (OwnInts.at o3)
  rw [F.out.ok]
  clear o3
  go_wp2_with fail
  refine RotateWord_i hx3.out hxl ?_
  intro v4 w4 o4 b4
  obtain ⟨a4, c4, rfl, _, _, _⟩ := Own.form o4
  have bw4 := bw3.trans (b4.mono bw3.size)
  have hx4 := Lib.hid (hx3.out.below b4)
  have hy4 := Lib.hid (hy3.out.below b4)
  have hz4 := Lib.hid (OwnInts.at o4)
  rw [F.out.rk]
  clear o4
  go_wp2_with fail
  refine PeriodOf_i hx4.out hxl ?_
  intro w5 b5
  have bw5 := bw4.trans (b5.mono bw4.size)
  have hx5 := Lib.hid (hx4.out.below b5)
  have hy5 := Lib.hid (hy4.out.below b5)
  have hz5 := Lib.hid (hz4.out.below b5)
  go_wp2_with fail
  refine RootOf_i hx5.out hxl ?_
  intro v6 w6 o6 b6
  obtain ⟨a6, c6, rfl, _, _, _⟩ := Own.form o6
  have bw6 := bw5.trans (b6.mono bw5.size)
  have hx6 := Lib.hid (hx5.out.below b6)
  have hy6 := Lib.hid (hy5.out.below b6)
  have hz6 := Lib.hid (hz5.out.below b6)
  have hr6 := Lib.hid (OwnInts.at o6)
  rw [F.out.ok]
  clear o6
  obtain ⟨p, hp⟩ : ∃ p : Nat, Words.perI xs = (p : Int) := ⟨(Words.perI xs).toNat, by have := F.out.pos; omega⟩
  have hp1 : 1 ≤ p := by have := F.out.pos; omega
  have hdv : (n : Int) % p = 0 := by have := F.out.dv; rw [hp, hl2] at this; exact this
  have hrl : (ints (Words.rootW xs)).length = p := by have := F.out.rl; rw [hp] at this; rw [ints_len]; omega
  have hpn : p ≤ n := Nat.le_of_dvd (by omega) (Nat.dvd_of_mod_eq_zero (by omega))
  have hrn : Words.rootN xs * (p : Int) = n := by have := F.out.rn; rw [hp, hl2] at this; exact this
  have hrp := Lib.hid (show Words.perI (Words.rootW xs) = (p : Int) by rw [F.out.rp]; exact hp)
  have hrl' : (Words.rootW xs).length = p := by rw [ints_len] at hrl; exact hrl
  rw [hrl, hp]
  obtain ⟨q, hq⟩ : ∃ q, q = Words.rootN xs := ⟨_, rfl⟩
  rw [← hq] at hrn ⊢
  have hpz : ¬ ((p : Int) = 0) := by omega
  have hpz1 : ¬ ((p : Int) < 1) := by omega
  have hpI : (1 : Int) ≤ p := by omega
  have hdv' : Hid ((n : Int) % p = 0) := Lib.hid hdv
  have hqb1 : q ≤ n := by
    have h1 : q * 1 ≤ q * p ∨ q < 0 := by
      by_cases h : 0 ≤ q
      · exact .inl (Int.mul_le_mul_of_nonneg_left hpI h)
      · exact .inr (by omega)
    omega
  have hqb0 : 0 ≤ q := by
    by_cases h : 0 ≤ q
    · exact h
    · have : q * p ≤ (-1) * p := Int.mul_le_mul_of_nonneg_right (by omega) (by omega)
      omega
  clear hq
  have hr7 : Hid (IntsAt w6 (.slice a6 p c6) (Words.rootW xs)) := Lib.hid (by rw [← hrl]; exact hr6.out)
  have hsame : Hid (decide (Words.lrW xs = Words.rotW xs (Words.lrI xs)) = true) := Lib.hid (decide_eq_true F.out.eq)
  go_wp2_with (first | (go_at_call 40; refine same_c hy6.out hz6.out ?_; intro w7 d7; rw [hsame.out]) | (go_at_call 35; refine PeriodOf_i (hr7.out.drawn d7) (by rw [hrl']; omega) ?_; intro w8 b8; rw [hrp.out]))
  have bw8 := (bw6.trans (d7.below _)).trans (b8.mono (bw6.trans (d7.below _)).size)
  have hx8 := Lib.hid ((hx6.out.drawn d7).below b8)
  have hy8 := Lib.hid ((hy6.out.drawn d7).below b8)
  have hr8 := Lib.hid ((hr7.out.drawn d7).below b8)
  have hfin : Hid ((Words.kept xs n : Int) * p = n) := Lib.hid (by have := F.out.kp; rw [hp, hl2] at this; exact this)
  go_loopg [14, 15] n (fun gg u14 u15 wr => ∃ (j : Nat), u14 = .int .i64 (Words.kept xs j : Nat) ∧ u15 = .int .i64 j ∧ Below w8.heap.size w8 wr ∧ j + gg ≤ n ∧ n ≤ j + gg)
  case atStart => exact ⟨0, by simp [Words.kept], rfl, Below.refl _ _, by omega, by omega⟩
  case round =>
    obtain ⟨j, rfl, rfl, bwr, hm1, hm2⟩ := hrel
    have hkl := Words.kept_le xs j
    have bwr0 := bw8.trans (bwr.mono bw8.size)
    by_cases hj : j < n
    · have hjI : (j : Int) < n := by omega
      have hrk : Hid (Words.rotOk xs j = true) := Lib.hid (by unfold Words.rotOk; rw [F.out.ok, decide_eq_true (by omega)]; rfl)
      have hrw : Hid (Words.rotW xs j = Words.rot xs j) := Lib.hid (by unfold Words.rotW; rw [if_pos hrk.out, Int.toNat_natCast])
      have hxr := Lib.hid (hx8.out.below bwr)
      go_wp2_with fail
      refine RotateWord_i hxr.out hxl ?_
      intro v9 w9 o9 b9
      rw [hrw.out] at o9
      rw [hrk.out]
      obtain ⟨a9, c9, rfl, _, _, _⟩ := Own.form o9
      have hx9 := hxr.out.below b9
      have hy9 := Lib.hid ((hy8.out.below bwr).below b9)
      have hr9 := (hr8.out.below bwr).below b9
      have hz9 := Lib.hid (OwnInts.at o9)
      have bw9 : Below w8.heap.size w8 w9 := bwr.trans (b9.mono bwr.size)
      obtain ⟨m, hm⟩ : ∃ m : Nat, (j : Int) % p = (m : Int) := ⟨j % p, by omega⟩
      have hmp : m < p := by
        have := Int.emod_lt_of_pos (j : Int) (show (0 : Int) < p by omega)
        omega
      have hmI : (m : Int) < p := by omega
      obtain ⟨b1, f1, x, e1, hxx, hcx⟩ := hx9.cell (k := j) (by omega)
      obtain ⟨b2, f2, y, rfl, hyy, hcy⟩ := hr9.cell (k := m) (by omega)
      cases e1
      rw [Nat.zero_add] at hcx
      have hxy : x = y := by
        have h1 := (F.out.all j (by omega)).1
        rw [hp, Int.toNat_natCast, show j % p = m from by omega, hxx.out, hyy.out] at h1
        exact Option.some.inj h1
      subst hxy
      have hlf : Hid (decide (Words.cmpL (Words.rot xs j) (Words.lrW xs) < 0) = false) := Lib.hid (decide_eq_false (F.out.all j (by omega)).2)
      have hx9' := Lib.hid hx9
      clear hx9 hr9 o9
      go_wp2_with fail
      go_quiet ((go_at_call 41; exact quiet_c (lessLaw_f hlf.out hz9.out hy9.out ⟨rfl, Drawn.refl _⟩)))
      have hks := Words.kept_step xs j
      by_cases hsm : Words.rot xs j = xs
      · have hs : Hid (decide (Words.rot xs j = xs) = true) := Lib.hid (decide_eq_true hsm)
        have hks2 : Words.kept xs (j + 1) = Words.kept xs j + 1 := by rw [hks, if_pos hsm]
        clear hks hsm
        go_wp2_with (go_at_call 40; refine same_c (RowAt.drewN hz9.out _) (RowAt.drewN hx9'.out _) ?_; intro w10 d10; rw [hs.out])
        have bw10 := (below_drewN bw9 _).trans (d10.below _)
        go_roundg (gk - 1)
        case measure => omega
        case rel => exact ⟨j + 1, by rw [hks2]; go_num, by go_num, bw10, by omega, by omega⟩
      · have hs : Hid (decide (Words.rot xs j = xs) = false) := Lib.hid (decide_eq_false hsm)
        have hks2 : Words.kept xs (j + 1) = Words.kept xs j := by rw [hks, if_neg hsm]; rfl
        clear hks hsm
        go_wp2_with (go_at_call 40; refine same_c (RowAt.drewN hz9.out _) (RowAt.drewN hx9'.out _) ?_; intro w10 d10; rw [hs.out])
        have bw10 := (below_drewN bw9 _).trans (d10.below _)
        go_roundg (gk - 1)
        case measure => omega
        case rel => exact ⟨j + 1, by rw [hks2], by go_num, bw10, by omega, by omega⟩
    · obtain rfl : j = n := by omega
      have hf1 := hfin.out
      go_wp2_with fail
      exact H.out _ bwr0
end Go.Proofs.Ytmlmpneikhdgcaa
