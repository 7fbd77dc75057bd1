/-
  What a permutation of four points does to pairs of them, as the reference finds it.
-/
import Derived.Test.YtdjdagcgodpgdaaGreatImgS
set_option linter.unusedVariables false
namespace Go.Proofs.YtdjdagcgodpgdaaGreat
open Go.RowKit

def Perms.inTo (L : List (List Int)) (Y : List Int) (t : Nat) : List Int := ((List.range t).filter fun (q : Nat) => decide (L[q]? = some Y)).map fun (q : Nat) => (q : Int)
def Perms.pairTo (p : List Int) (j : Nat) : List Int := ((Perms.subs 2 0).take j).flatMap fun x => Perms.inTo (Perms.subs 2 0) (Perms.imgTo p x 4) (Perms.subs 2 0).length
def Perms.pairAct (p : List Int) : List Int := Perms.pairTo p (Perms.subs 2 0).length
theorem Perms.inTo_step {L : List (List Int)} {Y z : List Int} {t : Nat} (hz : L[t]? = some z) : Perms.inTo L Y (t + 1) = if Y = z then Perms.inTo L Y t ++ [(t : Int)] else Perms.inTo L Y t := by
  unfold Perms.inTo
  rw [List.range_succ, List.filter_append]
  by_cases h : Y = z
  · simp [h, hz]
  · have h2 : ¬ z = Y := fun e => h e.symm
    simp [h, h2, hz]
theorem Perms.inTo_len (L : List (List Int)) (Y : List Int) (t : Nat) : (Perms.inTo L Y t).length ≤ t := by
  unfold Perms.inTo
  rw [List.length_map]
  have := List.length_filter_le (fun (q : Nat) => decide (L[q]? = some Y)) (List.range t)
  rw [List.length_range] at this
  exact this
theorem Perms.pairTo_step {p x : List Int} {j : Nat} (hx : (Perms.subs 2 0)[j]? = some x) : Perms.pairTo p (j + 1) = Perms.pairTo p j ++ Perms.inTo (Perms.subs 2 0) (Perms.imgTo p x 4) (Perms.subs 2 0).length := by
  unfold Perms.pairTo
  rw [List.take_add_one, hx, List.flatMap_append]
  simp
theorem Perms.pairTo_len (p : List Int) : ∀ j : Nat, j ≤ 6 → (Perms.pairTo p j).length ≤ 6 * j
  | 0, _ => by simp [Perms.pairTo]
  | j + 1, h => by
    have ih := Perms.pairTo_len p j (by omega)
    have hl : (Perms.subs 2 0).length = 6 := by decide
    rw [Perms.pairTo_step (List.getElem?_eq_getElem (by omega)), List.length_append]
    have := Perms.inTo_len (Perms.subs 2 0) (Perms.imgTo p ((Perms.subs 2 0)[j]'(by omega)) 4) (Perms.subs 2 0).length
    omega
theorem Perms.subs_rng : ∀ x ∈ Perms.subs 2 0, ∀ c ∈ x, 0 ≤ c ∧ c < ((4 : Nat) : Int) := by decide
theorem subs_pairs {w : World} {Q : Ending → World → Prop} (hQ : ∀ v w', OwnRows w' w.heap.size w'.heap.size v (Perms.subs 2 0) → Below w.heap.size w w' → Q (.returned v) w') :
    Calls Tryz.prog 101 #[.int .i64 0, .int .i64 4, .int .i64 2] w Q := subs_two 0 w Q (by omega) hQ
set_option maxHeartbeats 3200000 in
theorem SubsetAction_c {vp : Value} {p : List Int} {w : World} {Q : Ending → World → Prop} (hp : IntsAt w vp p) (hR : Perms.inR 4 p) (hok : Perms.permB p = true)
    (hQ : ∀ v w', OwnInts w' w.heap.size v (Perms.pairAct p) → Below w.heap.size w w' → Q (.returned (.tuple #[v, .bool true])) w') :
    Calls Tryz.prog 82 #[vp, .int .i64 2] w Q := by
  have H := Lib.hid hQ; clear hQ
  obtain ⟨ap, cp, rfl, _, _, _⟩ := hp.form
  have hpl := hR.1
  rw [hpl] at hp ⊢
  have hp1 := Lib.hid hp
  have hR' := Lib.hid hR
  have hok' := Lib.hid hok
  clear hp hR hok hpl
  go_enter Tryz.func82, Tryz.ntmps82
  go_wp2_with fail
  refine PermOk_s hp1.out ?_
  intro w1 b1
  rw [hok'.out]
  have hd : Hid (decide ((0 : Int) ≤ 2 ∧ (2 : Int) ≤ 4) = true) := Lib.hid (by decide)
  have hp2 := Lib.hid (hp1.out.below b1)
  go_wp2_with (go_at_call 29; refine l01In_c ?_; rw [decide_eq_true (show (0 : Int) ≤ 2 ∧ (2 : Int) ≤ _ by omega)])
  refine subs_pairs ?_
  intro v2 w2 o2 b2
  obtain ⟨L, hL⟩ : ∃ L, L = Perms.subs 2 0 := ⟨_, rfl⟩
  have hLl : L.length ≤ 6 ∧ 6 ≤ L.length := by rw [hL]; decide
  have hrng : Hid (∀ x ∈ L, ∀ c ∈ x, 0 ≤ c ∧ c < ((4 : Nat) : Int)) := Lib.hid (by rw [hL]; exact Perms.subs_rng)
  rw [← hL] at o2
  have hL' := Lib.hid hL
  clear hL
  obtain ⟨aL, cL, rfl, _, _, _⟩ := o2.form
  have bw2 := b1.trans (b2.mono b1.size)
  have hp3 := Lib.hid (hp2.out.below b2)
  obtain ⟨WR0, hWR0⟩ : ∃ z, z = w1.heap.size := ⟨_, rfl⟩
  obtain ⟨W2, hW2⟩ : ∃ z, z = w2.heap.size := ⟨_, rfl⟩
  have hb1s := b1.size
  have hb2s := b2.size
  have hWa : w.heap.size ≤ WR0 ∧ WR0 ≤ W2 := by omega
  have hWb : W2 ≤ w2.heap.size ∧ w2.heap.size ≤ W2 := by omega
  rw [← hWR0, ← hW2] at o2
  have o2' := Lib.hid o2
  clear o2 hWR0 hW2
  go_wp2_with fail
  have o0 := own_empty w2
  have b0 := below_alloc w2 (.cells #[] 3)
  have o0' : OwnInts (w2.alloc (.cells #[] 3)) w.heap.size (.slice (some ⟨w2.heap.size, 0, none⟩) 0 0) (Perms.pairTo p 0) := OwnInts.mono o0 (by omega)
  have oL0 := Lib.hid (o2'.out.below b0)
  have bw0 := bw2.trans (b0.mono bw2.size)
  have hp4 := Lib.hid (hp3.out.below b0)
  go_loopg [7, 35] L.length (fun gg u7 u35 wr => ∃ (j go n cap : Nat), u35 = .int .i64 j ∧ u7 = .slice (some ⟨go, 0, none⟩) n cap ∧ OwnInts wr w.heap.size (.slice (some ⟨go, 0, none⟩) n cap) (Perms.pairTo p j) ∧ Hid (OwnRows wr WR0 W2 (.slice aL L.length cL) L) ∧ W2 ≤ go ∧ Below w.heap.size w wr ∧ W2 ≤ wr.heap.size ∧ Hid (IntsAt wr (.slice ap 4 cp) p) ∧ j + gg ≤ L.length ∧ L.length ≤ j + gg)
  case atStart => exact ⟨0, w2.heap.size, 0, 0, rfl, rfl, o0', oL0, hWb.1, bw0, by simp; omega, hp4, by omega, by omega⟩
  case round =>
    obtain ⟨j, go, n, cap, rfl, rfl, oj, oL, hgo, bj, hs2, hpj, hm1, hm2⟩ := hrel
    obtain ⟨gk1, hgk1⟩ : ∃ g, g = gk := ⟨_, rfl⟩
    by_cases hj : j < L.length
    · have hjI : (j : Int) < L.length := by omega
      obtain ⟨b7, f7, u, x, e7, hx, hcx, hux⟩ := oL.out.at.cell hj
      subst e7
      obtain ⟨ax, cx, rfl, _, _, _⟩ := hux.form
      have hux' := Lib.hid hux
      have hxr := Lib.hid (hrng.out x (List.mem_of_getElem? hx.out))
      have hst : Hid (Perms.pairTo p (j + 1) = Perms.pairTo p j ++ Perms.inTo L (Perms.imgTo p x 4) L.length) := Lib.hid (by
        have h := hx.out
        rw [hL'.out] at h ⊢
        exact Perms.pairTo_step h)
      have hpt := Perms.pairTo_len p j (by omega)
      clear hux
      go_wp2_with fail
      refine l04Image_c (n := 4) hpj.out hux'.out hR'.out (by omega) hxr.out ?_
      intro v3 w3 o3 b3
      obtain ⟨Y, hY⟩ : ∃ Y, Y = Perms.imgTo p x 4 := ⟨_, rfl⟩
      rw [← hY] at o3 hst
      clear hY
      obtain ⟨a3, c3, rfl, _, _, _⟩ := Own.form o3
      have bj3 := bj.trans (b3.mono bj.size)
      have oj3 : OwnInts w3 w.heap.size (.slice (some ⟨go, 0, none⟩) n cap) (Perms.pairTo p j ++ Perms.inTo L Y 0) := by
        have h := OwnInts.below oj b3
        have e : Perms.pairTo p j ++ Perms.inTo L Y 0 = Perms.pairTo p j := by simp [Perms.inTo]
        rw [e]; exact h
      have oL3 := Lib.hid (oL.out.below b3)
      have hp5 := Lib.hid (hpj.out.below b3)
      have hap : ∀ b, (Value.slice a3 (ints Y).length c3).ownBlock = some b → b ≠ go := fun b hb e => by
        have h1 := (Own.lt o3 hb).1
        have h2 := (Own.lt oj (k := go) rfl).2
        omega
      have hap' := Lib.hid hap
      have hs3 : W2 ≤ w3.heap.size := by have := b3.size; omega
      obtain ⟨WY, hWY⟩ : ∃ z, z = wr.heap.size := ⟨_, rfl⟩
      rw [← hWY] at o3
      clear hap hWY
      go_wp2_with fail
      go_loopg [7, 44] L.length (fun gg u7 u44 w4 => ∃ (t go n cap : Nat), u44 = .int .i64 t ∧ u7 = .slice (some ⟨go, 0, none⟩) n cap ∧ OwnInts w4 w.heap.size (.slice (some ⟨go, 0, none⟩) n cap) (Perms.pairTo p j ++ Perms.inTo L Y t) ∧ Hid (OwnRows w4 WR0 W2 (.slice (some ⟨b7, f7, none⟩) L.length cL) L) ∧ Hid (OwnInts w4 WY (.slice a3 (ints Y).length c3) Y) ∧ Hid (∀ b, (Value.slice a3 (ints Y).length c3).ownBlock = some b → b ≠ go) ∧ W2 ≤ go ∧ Below w.heap.size w w4 ∧ W2 ≤ w4.heap.size ∧ Hid (IntsAt w4 (.slice ap 4 cp) p) ∧ t + gg ≤ L.length ∧ L.length ≤ t + gg)
      case atStart => exact ⟨0, go, n, cap, rfl, rfl, oj3, oL3, Lib.hid o3, hap', hgo, bj3, hs3, hp5, by omega, by omega⟩
      case round =>
        obtain ⟨t, go, n, cap, rfl, rfl, oj, oL, oY, hap, hgo, bj, hs2, hpj, ht1, ht2⟩ := hrel
        have hit := Perms.inTo_len L Y t
        by_cases ht : t < L.length
        · have htI : (t : Int) < L.length := by omega
          obtain ⟨b7, f7, u, z, e7, hz, hcz, huz⟩ := oL.out.at.cell ht
          cases e7
          obtain ⟨az, cz, rfl, _, _, _⟩ := huz.form
          have huz' := Lib.hid huz
          have hstep := Perms.inTo_step (L := L) (Y := Y) hz.out
          have hJ : (Perms.pairTo p j ++ Perms.inTo L Y t).length ≤ 100 := by rw [List.length_append]; omega
          clear huz
          by_cases hyz : Y = z
          · have hd : Hid (decide (Y = z) = true) := Lib.hid (decide_eq_true hyz)
            rw [if_pos hyz] at hstep
            have hst3 : Hid (Perms.pairTo p j ++ Perms.inTo L Y (t + 1) = (Perms.pairTo p j ++ Perms.inTo L Y t) ++ [(t : Int)]) := Lib.hid (by rw [hstep, List.append_assoc])
            obtain ⟨J, hJe⟩ : ∃ J, J = Perms.pairTo p j ++ Perms.inTo L Y t := ⟨_, rfl⟩
            rw [← hJe] at oj hJ
            have hJe' := Lib.hid hJe
            clear hyz hstep hJe
            go_wp2_with (first
              | (go_at_call 46; refine l03Same_c (OwnInts.at oY.out) huz'.out ?_; intro w5 d5; rw [hd.out]; have oj5 := Own.below (OwnInts.drawn oj d5) (below_alloc w5 (.cells #[.int .i64 (t : Int)] 3)); have bj5 := bj.trans (d5.below _); have hs5 := (d5.below 0).size)
              | (at_builtin; refine app_int_val rfl (.tmp 52) (.tmp 54) rfl rfl oj5 rfl (cell_new _ _ _) rfl (by rw [ints_len]; omega) (by have := bj5.size; simp; omega) ?_; intro go6 cap6 w6 o6 g6 n6))
            have ba5 := below_alloc w5 (.cells #[.int .i64 (t : Int)] 3)
            have bj6 := (bj5.trans (ba5.mono bj5.size)).grown g6 (by have := bj5.size; simp; omega) (fun b hb => by cases hb; exact (Own.lt oj (k := go) rfl).1)
            have hs6 := g6.size
            simp at hs6
            have hgo6 : W2 ≤ go6 := by
              rcases n6 with h | h
              · rw [h]; exact hgo
              · simp at h; omega
            have oL6 := Lib.hid (((oL.out.drawn d5).below ba5).kept (w' := w6) (fun k h1 h2 h3 => g6.block k h3 (fun e => by cases e; omega)))
            have oY6 : Hid (OwnInts w6 WY (.slice a3 (ints Y).length c3) Y) := Lib.hid (Own.grown (OwnInts.below (OwnInts.drawn oY.out d5) ba5) g6 (by
              cases hb : (Value.slice a3 (ints Y).length c3).ownBlock with
              | none => exact .inl rfl
              | some b => exact .inr (fun e => by cases e; exact hap.out _ hb rfl)))
            have hap6 : Hid (∀ b, (Value.slice a3 (ints Y).length c3).ownBlock = some b → b ≠ go6) := Lib.hid (fun b hb => by
              rcases n6 with h | h
              · rw [h]; exact hap.out b hb
              · have := (Own.lt oY.out hb).2
                simp at h
                omega)
            have o7 : OwnInts w6 w.heap.size (.slice (some ⟨go6, 0, none⟩) (n + 1) cap6) (Perms.pairTo p j ++ Perms.inTo L Y (t + 1)) := by
              rw [hst3.out, ← hJe'.out]
              unfold OwnInts
              rw [ints_append]
              exact o6
            have hp6 := Lib.hid (hp1.out.below bj6)
            have hs7 : W2 ≤ w6.heap.size := by omega
            go_roundg (gk - 1)
            case measure => omega
            case rel => exact ⟨t + 1, go6, _, cap6, by go_num, rfl, o7, oL6, oY6, hap6, hgo6, bj6, hs7, hp6, by omega, by omega⟩
          · have hd : Hid (decide (Y = z) = false) := Lib.hid (decide_eq_false hyz)
            rw [if_neg hyz] at hstep
            have hst3 := Lib.hid hstep
            clear hyz hstep
            go_wp2_with (go_at_call 46; refine l03Same_c (OwnInts.at oY.out) huz'.out ?_; intro w5 d5; rw [hd.out])
            have oj5 : OwnInts w5 w.heap.size (.slice (some ⟨go, 0, none⟩) n cap) (Perms.pairTo p j ++ Perms.inTo L Y (t + 1)) := by rw [hst3.out]; exact OwnInts.drawn oj d5
            have hs5 := (d5.below 0).size
            have hs7 : W2 ≤ w5.heap.size := by omega
            go_roundg (gk - 1)
            case measure => omega
            case rel => exact ⟨t + 1, go, n, cap, by go_num, rfl, oj5, Lib.hid (oL.out.drawn d5), Lib.hid (OwnInts.drawn oY.out d5), hap, hgo, bj.trans (d5.below _), hs7, Lib.hid (hpj.out.drawn d5), by omega, by omega⟩
        · have hte : t = L.length := by omega
          have oj5 : Hid (OwnInts wr w.heap.size (.slice (some ⟨go, 0, none⟩) n cap) (Perms.pairTo p (j + 1))) := Lib.hid (by rw [hst.out, ← hte]; exact oj)
          go_wp2_with fail
          go_roundg (gk1 - 1)
          case measure => omega
          case rel => exact ⟨j + 1, go, n, cap, by go_num, rfl, oj5.out, oL, hgo, bj, hs2, hpj, by omega, by omega⟩
    · have hje : j = L.length := by omega
      have h2 : OwnInts wr w.heap.size (.slice (some ⟨go, 0, none⟩) n cap) (Perms.pairAct p) := by
        unfold Perms.pairAct
        rw [← hL'.out, ← hje]
        exact oj
      have h3 := Lib.hid (H.out _ wr h2 bj)
      clear h2
      go_wp2_with fail
      exact h3.out
theorem PairAction_s {vp : Value} {p : List Int} {w : World} {Q : Ending → World → Prop} (hp : IntsAt w vp p) (hR : Perms.inR 4 p) (hok : Perms.permB p = true)
    (hQ : ∀ v w', OwnInts w' w.heap.size v (Perms.pairAct p) → Below w.heap.size w w' → Q (.returned (.tuple #[v, .bool true])) w') :
    Calls Tryz.prog 53 #[vp] w Q := by
  have H := Lib.hid hQ; clear hQ
  have hp0 := Lib.hid hp
  obtain ⟨ap, cp, rfl, _, _, _⟩ := hp.form
  have hpl := hR.1
  have hR' := Lib.hid hR
  have hok' := Lib.hid hok
  have h4 : ¬ ((p.length : Int) < 2) := by omega
  clear hp hR hok hpl
  go_enter Tryz.func53, Tryz.ntmps53
  go_wp2_with fail
  refine SubsetAction_c hp0.out hR'.out hok'.out ?_
  intro v1 w1 o1 b1
  have h3 := Lib.hid (H.out v1 w1 o1 b1)
  obtain ⟨a1, c1, rfl, _, _, _⟩ := Own.form o1
  go_wp2_with fail
  exact h3.out
end Go.Proofs.YtdjdagcgodpgdaaGreat
