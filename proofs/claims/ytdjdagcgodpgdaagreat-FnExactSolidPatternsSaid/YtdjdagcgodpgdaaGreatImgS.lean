/-
  The image of a subset, as the reference finds it.
-/
import Derived.Test.YtdjdagcgodpgdaaGreatSubS
import Derived.Test.YtdjdagcgodpgdaaGreatPerm
import Derived.Test.YtdjdagcgodpgdaaGreatGof0
set_option linter.unusedVariables false
namespace Go.Proofs.YtdjdagcgodpgdaaGreat
open Go.RowKit

/-- 'append(s, x)' of one integer, with what is known of the new block. -/
theorem app_int_val {w : World} {ops : Array Oper} {rest : List Oper} {o : Oper} {a : Act} {Q : Exit → Act → World → Prop} (hg : o.guard = none) (s x : Operand) (hop : o.op = .call { callee := .builtin .append, args := #[s, x], argTypes := #[36, 36] })
    {B g n cap : Nat} {u : Value} {us : List Value} (hs : a.eval s = .slice (some ⟨g, 0, none⟩) n cap) (hown : Own w B 3 (.slice (some ⟨g, 0, none⟩) n cap) us) {ad : Addr} {c : Nat} (hx : a.eval x = .slice (some ad) 1 c) (hu : w.cell? ad = some u)
    (h1 : u.oneCell' = true) (hn : us.length + 1 ≤ 1099511627776) (hB : B ≤ w.heap.size)
    (hK : ∀ g' cap' w', Own w' B 3 (.slice (some ⟨g', 0, none⟩) (n + 1) cap') (us ++ [u]) → w.grownBy w' (some g) → (g' = g ∨ w.heap.size ≤ g') → wpList Tryz.prog ops Q rest (a.put o.dst (.slice (some ⟨g', 0, none⟩) (n + 1) cap')) w') :
    wpList Tryz.prog ops Q (o :: rest) a w := by
  obtain ⟨i0, hi, hz0, hz1, hz2⟩ := info_parts Tryz.infoInt
  obtain rfl := hown.len
  have hc1 : ∀ (j : Nat) (y : Value), [u][j]? = some y → w.cell? (ad.add j) = some y := by
    intro j y hy
    match j, hy with
    | 0, hy =>
      simp at hy; subst hy
      have : ad.add 0 = ad := by unfold Addr.add; split <;> simp_all
      rw [this]; exact hu
  have ho1 : ∀ y ∈ [u], y.oneCell' = true := by intro y hy; simp at hy; subst hy; exact h1
  by_cases hr : us.length + 1 ≤ cap
  · refine wpList_append_own_spare w hg s x 36 hop B 3 i0 1 Tryz.underlying36 hi hz1 g us.length cap us hs hown ad 1 c [u] hx rfl hc1 ho1 hr ?_
    intro w' h2 h3
    have e : (us ++ [u]).length = us.length + 1 := by simp
    exact hK g cap w' (by unfold Own; rw [e]; exact h2) h3 (.inl rfl)
  · refine wpList_append_arg w hg s x 36 hop 3 i0 (.int .i64 0) 1 8 Tryz.underlying36 hi hz0 hz1 hz2 rfl (by decide) g 0 us.length cap us hs (by simp) (fun j y hy => by rw [Nat.zero_add]; exact hown.cell hy) ad 1 c [u] hx rfl hc1 ho1
      (fun h => absurd h hr) (by unfold maxLen; omega) (by omega) (fun h => absurd h hr) ?_
    intro _ v' w' h2 h3
    have h2' : Own w' w.heap.size 3 v' (us ++ [u]) := by unfold Own; rw [List.length_append]; exact h2
    obtain ⟨ao, c', rfl, _, _, _⟩ := Own.form h2'
    obtain ⟨g', rfl, hg1, hg2⟩ := h2'.head (by simp)
    have e : (us ++ [u]).length = us.length + 1 := by simp
    rw [e] at h2'
    have h4 := hK g' c' w' (h2'.mono hB) ⟨h3.os, h3.tape, h3.output, h3.size, fun k hk _ => h3.block k hk (by simp)⟩ (.inr hg1)
    rw [e]
    exact h4
theorem BoolsIn.grown {w w' : World} {b n : Nat} {T : TypeId} {P : Nat → Bool} (h : BoolsIn w b T n P) {row : Option Nat} (hg : w.grownBy w' row) (hr : row ≠ some b) : BoolsIn w' b T n P := by
  obtain ⟨arr, h1, h2, h3⟩ := h
  exact ⟨arr, by rw [hg.block b (Array.getElem?_eq_some_iff.1 h1).1 (fun e => hr e.symm)]; exact h1, h2, h3⟩
/-- The points to which the points of l are carried, in order. -/
def Perms.img (p l : List Int) : List Int := l.map fun a => p.getD a.toNat 0
def Perms.imgTo (p l : List Int) (j : Nat) : List Int := ((List.range j).filter fun (i : Nat) => decide ((i : Int) ∈ Perms.img p l)).map fun (i : Nat) => (i : Int)
theorem Perms.imgTo_step (p l : List Int) (j : Nat) : Perms.imgTo p l (j + 1) = if (j : Int) ∈ Perms.img p l then Perms.imgTo p l j ++ [(j : Int)] else Perms.imgTo p l j := by
  unfold Perms.imgTo
  rw [List.range_succ, List.filter_append]
  by_cases h : (j : Int) ∈ Perms.img p l
  · simp [h]
  · simp [h]
theorem Perms.imgTo_len (p l : List Int) (j : Nat) : (Perms.imgTo p l j).length ≤ j := by
  unfold Perms.imgTo
  rw [List.length_map]
  have := List.length_filter_le (fun (i : Nat) => decide ((i : Int) ∈ Perms.img p l)) (List.range j)
  rw [List.length_range] at this
  exact this
set_option maxHeartbeats 1600000 in
theorem l04Image_c {vp vl : Value} {p l : List Int} {n : Nat} {w : World} {Q : Ending → World → Prop} (hp : IntsAt w vp p) (hl : IntsAt w vl l) (hR : Perms.inR n p) (hn : n ≤ 10) (hlr : ∀ x ∈ l, 0 ≤ x ∧ x < n)
    (hQ : ∀ v w', OwnInts w' w.heap.size v (Perms.imgTo p l n) → Below w.heap.size w w' → Q (.returned v) w') :
    Calls Tryz.prog 102 #[vp, vl] w Q := by
  have H := Lib.hid hQ; clear hQ
  have hp0 := Lib.hid hp
  have hl0 := Lib.hid hl
  obtain ⟨ap, cp, rfl, lp, lcp, ccp⟩ := hp.form
  obtain ⟨al, cl, rfl, ll, lcl, ccl⟩ := hl.form
  have hpl := hR.1
  have hR' := Lib.hid hR
  have hlr' := Lib.hid hlr
  rw [hpl] at hp lp lcp ⊢
  have hp1 : Hid (IntsAt w (.slice ap n cp) p) := Lib.hid hp
  clear hR hlr hp hpl hp0
  go_enter Tryz.func102, Tryz.ntmps102
  go_wp2_with (at_make; refine mk_bools rfl (.tmp 12) (.tmp 12) rfl rfl rfl n rfl (by omega) ?_; intro w1 hB1 hb1 hs1)
  go_loopg [16] l.length (fun g i wr => Below w.heap.size w wr ∧ ∃ j : Nat, i = .int .i64 j ∧ BoolsIn wr w.heap.size 4 n (fun i => decide ((i : Int) ∈ (Perms.img p l).take j)) ∧ w.heap.size < wr.heap.size ∧ j + g ≤ l.length ∧ l.length ≤ j + g)
  case atStart => exact ⟨hb1, 0, rfl, hB1.congr (fun i hi => by simp), hs1, by omega, by omega⟩
  case round =>
    obtain ⟨hb, j, rfl, hB, hsz, hk1, hk2⟩ := hrel
    by_cases hj : j < l.length
    · have i1 : (j : Int) < l.length := by omega
      obtain ⟨ba, oa, x, rfl, hx, hcx⟩ := hl0.out.cell hj
      have hcx' := below_cells hb _ _ hcx
      obtain ⟨hx0, hx1⟩ := hlr'.out x (List.mem_of_getElem? hx.out)
      obtain ⟨m, rfl⟩ : ∃ m : Nat, x = m := ⟨x.toNat, by omega⟩
      have hmn : m < n := by omega
      have hmp : m < p.length := by rw [hR'.out.1]; exact hmn
      obtain ⟨bp, op, y, rfl, hy, hcy⟩ := hp1.out.cell (k := m) hmp
      have hcy' := below_cells hb _ _ hcy
      obtain ⟨hy0, hy1⟩ := hR'.out.2 y (List.mem_of_getElem? hy.out)
      obtain ⟨q, rfl⟩ : ∃ q : Nat, y = q := ⟨y.toNat, by omega⟩
      have hqn : q < n := by omega
      have hmI : (m : Int) < n := by omega
      have hqI : (q : Int) < n := by omega
      have hcb := hB.cell (i := q) hqn
      have hfb := hB.frozen q
      have hst : Hid ((Perms.img p l).take (j + 1) = (Perms.img p l).take j ++ [(q : Int)]) := Lib.hid (by
        unfold Perms.img
        rw [List.take_add_one, List.getElem?_map, hx.out]
        simp [List.getD, hy.out])
      have hB2 : BoolsIn (wr.setCell ⟨w.heap.size, q, none⟩ (.bool true)) w.heap.size 4 n (fun i => decide ((i : Int) ∈ (Perms.img p l).take (j + 1))) := (hB.set q true).congr (fun i hi => by
        rw [hst.out]
        by_cases e : i = q
        · simp [e]
        · have e2 : ¬ (i : Int) = q := by omega
          simp [e, e2])
      have hB2' := Lib.hid hB2
      have hb2 := Below.setCell hb (p := ⟨w.heap.size, q, none⟩) (Nat.le_refl _) (.bool true)
      clear hB2 hmp
      go_wp2_with fail
      have hsz2 : w.heap.size < (wr.setCell ⟨w.heap.size, q, none⟩ (.bool true)).heap.size := by simp [World.setCell]; exact hsz
      go_roundg (gk - 1)
      case measure => omega
      case rel => exact ⟨hb2, j + 1, by go_num, hB2'.out, hsz2, by omega, by omega⟩
    · have hB3 : BoolsIn wr w.heap.size 4 n (fun i => decide ((i : Int) ∈ Perms.img p l)) := hB.congr (fun i hi => by
        rw [List.take_of_length_le (by unfold Perms.img; rw [List.length_map]; omega)])
      go_wp2_with fail
      have o0 := own_empty wr
      have b0 := below_alloc wr (.cells #[] 3)
      have hB4 := hB3.below b0
      have hbw0 := hb.trans (b0.mono hb.size)
      have hbs := hb.size
      obtain ⟨WRS, hWRS⟩ : ∃ z, z = wr.heap.size := ⟨_, rfl⟩
      have hWl : w.heap.size ≤ WRS ∧ w.heap.size < WRS := by omega
      have hWl2 : WRS ≤ (wr.alloc (.cells #[] 3)).heap.size := by simp; omega
      have o0' : OwnInts (wr.alloc (.cells #[] 3)) WRS (.slice (some ⟨wr.heap.size, 0, none⟩) 0 0) [] := OwnInts.mono o0 (by omega)
      clear hWRS
      go_loopg [8, 30] n (fun g u8 u30 w2 => ∃ j : Nat, u30 = .int .i64 j ∧ OwnInts w2 WRS u8 (Perms.imgTo p l j) ∧ BoolsIn w2 w.heap.size 4 n (fun i => decide ((i : Int) ∈ Perms.img p l)) ∧ Below w.heap.size w w2 ∧ WRS ≤ w2.heap.size ∧ j + g ≤ n ∧ n ≤ j + g)
      case atStart => exact ⟨0, rfl, o0', hB4, hbw0, hWl2, by omega, by omega⟩
      case round =>
        obtain ⟨i, rfl, oi, hBi, hbi, hsi, hi1, hi2⟩ := hrel
        obtain ⟨a8, c8, rfl, _, _, _⟩ := Own.form oi
        have hil := Perms.imgTo_len p l i
        by_cases hi : i < n
        · have hiI : (i : Int) < n := by omega
          have hcb := hBi.cell hi
          have hst := Perms.imgTo_step p l i
          by_cases hm : (i : Int) ∈ Perms.img p l
          · have hst2 := Lib.hid hst
            rw [if_pos hm] at hst
            have hst3 := Lib.hid hst
            rw [decide_eq_true hm] at hcb
            clear hm hst hst2
            go_wp2_with (at_builtin; refine app_int rfl (.tmp 36) (.tmp 38) rfl rfl (OwnInts.below oi (below_alloc wr _)) rfl (cell_new _ _ _) (by omega) (by simp; omega) ?_; intro v3 w3 o3 g3)
            rw [← hst3.out] at o3
            have hne : (Value.slice a8 (ints (Perms.imgTo p l i)).length c8).ownBlock ≠ some w.heap.size := fun e => by have := (Own.lt oi e).1; omega
            have ba := below_alloc wr (.cells #[.int .i64 (i : Int)] 3)
            have hB5 := (hBi.below ba).grown g3 hne
            have hb3 := (hbi.trans (ba.mono hbi.size)).grown g3 (by have := hbi.size; simp; omega) (fun b hb => by have := (Own.lt oi hb).1; omega)
            have hs3 := g3.size
            simp at hs3
            go_roundg (gk - 1)
            case measure => omega
            case rel => exact ⟨i + 1, by go_num, o3, hB5, hb3, by omega, by omega, by omega⟩
          · rw [if_neg hm] at hst
            have hst3 := Lib.hid hst
            have oi2 : Hid (OwnInts wr WRS (.slice a8 (ints (Perms.imgTo p l i)).length c8) (Perms.imgTo p l (i + 1))) := Lib.hid (by rw [hst3.out]; exact oi)
            rw [decide_eq_false hm] at hcb
            clear hm hst
            go_wp2_with fail
            go_roundg (gk - 1)
            case measure => omega
            case rel => exact ⟨i + 1, by go_num, oi2.out, hBi, hbi, hsi, by omega, by omega⟩
        · obtain rfl : i = n := by omega
          have h3 := Lib.hid (H.out _ _ (OwnInts.mono oi hWl.1) hbi)
          go_wp2_with fail
          exact h3.out
end Go.Proofs.YtdjdagcgodpgdaaGreat
