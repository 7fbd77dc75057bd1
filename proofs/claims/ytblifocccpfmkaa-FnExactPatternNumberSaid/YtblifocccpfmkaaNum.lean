/-
  Patterns by number, rigid ones; laws.
-/
import Derived.Test.YtblifocccpfmkaaBelow
set_option linter.unusedVariables false
namespace Go.Proofs.Ytblifocccpfmkaa
open Go.RowKit

/-- Each letter of an image is one of the coloring, and the other way round. -/
theorem Perms.act_mem {p l : List Int} (h : Perms.permB p = true) (hl : p.length = l.length) {x : Int} (hx : x ∈ l) : x ∈ Perms.act p l := by
  obtain ⟨i, hi⟩ := List.getElem?_of_mem hx
  obtain ⟨z, hz⟩ := Perms.at_some (l := p) rfl (i := i) (by rw [hl]; exact (List.getElem?_eq_some_iff.1 hi).1)
  exact List.mem_of_getElem? (Perms.act_at h hl hz hi)
theorem Perms.canonTo_is {g : List (List Int)} {l : List Int} : ∀ j, Perms.canonTo g l j = l ∨ ∃ p ∈ g, Perms.canonTo g l j = Perms.act p l
  | 0 => .inl rfl
  | j + 1 => by
    have ih := Perms.canonTo_is (g := g) (l := l) j
    simp only [Perms.canonTo]
    split
    · rename_i p hp
      split
      · exact .inr ⟨p, List.mem_of_getElem? hp, rfl⟩
      · exact ih
    · exact ih
theorem Perms.canon_mem {g : List (List Int)} {l : List Int} (h : Perms.fitsB g l = true) {x : Int} (hx : x ∈ l) : x ∈ Perms.canon g l := by
  obtain ⟨h1, h2, h3⟩ := Perms.fitsB_parts h
  have G := Perms.grpB_grp h1
  rcases Perms.canonTo_is (g := g) (l := l) g.length with e | ⟨p, hp, e⟩
  · unfold Perms.canon; rw [e]; exact hx
  · unfold Perms.canon; rw [e]; exact Perms.act_mem (G.perm p hp) (by rw [G.len p hp, h3]) hx
def Perms.numI (g : List (List Int)) (k : Int) (l : List Int) : Int := if Perms.smallB g k = true ∧ Perms.fitsB g l = true then Perms.idx (Perms.pats g k) (Perms.canon g l) else -1
theorem Perms.num_high {g : List (List Int)} {k : Int} {l : List Int} (h : Perms.fitsB g l = true) (hk : (l.all fun x => decide (x < k)) = false) : Perms.idx (Perms.pats g k) (Perms.canon g l) = -1 := by
  unfold Perms.idx
  rw [if_neg]
  intro hm
  obtain ⟨⟨_, hb⟩, _⟩ := Perms.pats_mem.1 hm
  have : (l.all fun x => decide (x < k)) = true := by
    rw [List.all_eq_true]
    intro x hx
    exact decide_eq_true (hb x (Perms.canon_mem h hx)).2
  rw [hk] at this
  cases this
def Perms.rigidTo (g : List (List Int)) (ps : List (List Int)) (j : Nat) : Nat := ((ps.take j).filter fun w => decide ((Perms.keep g w).length = 1)).length
theorem Perms.rigidTo_step {g ps : List (List Int)} {j : Nat} {x : List Int} (hx : ps[j]? = some x) : Perms.rigidTo g ps (j + 1) = Perms.rigidTo g ps j + (if (Perms.keep g x).length = 1 then 1 else 0) := by
  unfold Perms.rigidTo
  rw [List.take_add_one, hx, List.filter_append, List.length_append]
  by_cases h : (Perms.keep g x).length = 1 <;> simp [h]
theorem Perms.rigidTo_le (g ps : List (List Int)) (j : Nat) : Perms.rigidTo g ps j ≤ j := by
  unfold Perms.rigidTo
  have h := List.length_filter_le (fun w => decide ((Perms.keep g w).length = 1)) (ps.take j)
  rw [List.length_take] at h
  omega
def Perms.rigidI (g : List (List Int)) (k : Int) : Int := if Perms.smallB g k = true then (Perms.rigidTo g (Perms.pats g k) (Perms.pats g k).length : Int) else -1
theorem Perms.patsW_sum (g : List (List Int)) (k : Int) : (Perms.patsW g k).length + sumLen (Perms.patsW g k) ≤ 4611686018427 := by
  unfold Perms.patsW
  split
  · rename_i h
    have h1 := Perms.pats_len h
    have h2 := Perms.sumLen_rows (n := 10) (g := Perms.pats g k) fun p hp => by
      have := (Perms.pats_mem.1 hp).1.1
      have := Perms.row0_len (Perms.smallB_parts h).1
      omega
    omega
  · simp [sumLen]

set_option maxHeartbeats 1600000 in
theorem RigidPatterns_i {vg : Value} {g : List (List Int)} {k : Int} {w : World} {Q : Ending → World → Prop} (hg : RowsAt w vg g)
    (hQ : ∀ w', Below w.heap.size w w' → Q (.returned (.int .i64 (Perms.rigidI g k))) w') :
    Calls Try.prog 33 #[vg, .int .i64 k] w Q := by
  have H := Lib.hid hQ; clear hQ
  have hg0 := Lib.hid hg
  obtain ⟨aa, ca, rfl, la, lca, cca⟩ := hg.form
  go_enter Try.func33, Try.ntmps33
  go_wp2_with fail
  refine PatternsOf_i hg0.out ?_
  intro v1 w1 o1 b1
  by_cases hs0 : Perms.smallB g k = true
  rotate_left
  · have hf : Hid (Perms.smallB g k = false) := Lib.hid (by simpa using hs0)
    have hr : Hid (Perms.rigidI g k = -1) := Lib.hid (by unfold Perms.rigidI; rw [if_neg hs0])
    rw [hf.out]
    clear hs0
    go_wp2_with fail
    exact intq' (H.out _ b1) hr.out
  have hs := Lib.hid hs0
  have hpw : Hid (Perms.patsW g k = Perms.pats g k) := Lib.hid (by unfold Perms.patsW; rw [if_pos hs0])
  have hri : Hid (Perms.rigidI g k = (Perms.rigidTo g (Perms.pats g k) (Perms.pats g k).length : Int)) := Lib.hid (by unfold Perms.rigidI; rw [if_pos hs0])
  have hpl := Lib.hid (Perms.pats_len hs0)
  have hpf : Hid (∀ w ∈ Perms.pats g k, Perms.fitsB g w = true) := Lib.hid fun w hw => Perms.pats_fits hs0 hw
  rw [hpw.out] at o1
  rw [hs.out]
  obtain ⟨ps, hps⟩ : ∃ ps, ps = Perms.pats g k := ⟨_, rfl⟩
  rw [← hps] at o1 hri hpl hpf
  clear hs0 hps
  have hb1 := b1.size
  obtain ⟨a1, c1, rfl, l1, _, _⟩ := o1.form
  have hpl2 := hpl.out
  go_wp2_with fail
  go_loopg [7, 20] ps.length (fun gg m i wr => ∃ (j x : Nat), i = .int .i64 j ∧ m = .int .i64 x ∧ Hid (x = Perms.rigidTo g ps j) ∧ x ≤ j ∧ Below w1.heap.size w1 wr ∧ j + gg ≤ ps.length ∧ ps.length ≤ j + gg)
  case atStart => exact ⟨0, 0, rfl, rfl, Lib.hid (by simp [Perms.rigidTo]), by omega, Below.refl _ _, by omega, by omega⟩
  case round =>
    obtain ⟨j, x, rfl, rfl, hxe, hxj, hbr, hm1, hm2⟩ := hrel
    have hbw : Below w.heap.size w wr := b1.trans (hbr.mono hb1)
    by_cases hj : j < ps.length
    · have i2 : (j : Int) < ps.length := by omega
      obtain ⟨gw, rfl, _, _⟩ := (o1.below hbr).head (by omega)
      obtain ⟨u, xs, hxs, hcu, hxo, hxi⟩ := (o1.below hbr).cell hj
      have hfx := hpf.out xs (List.mem_of_getElem? hxs.out)
      have hfit := Lib.hid (Perms.fitsB_fit hfx)
      have hkw : Hid (Perms.keepW g xs = Perms.keep g xs) := Lib.hid (by unfold Perms.keepW; rw [if_pos hfx])
      have hst := Lib.hid (Perms.rigidTo_step (g := g) hxs.out)
      clear hfx
      obtain ⟨au, cu, rfl, lu, _, _⟩ := Own.form hxo
      go_wp2_with fail
      refine keepers_i (hg0.out.below hbw) (OwnInts.at hxo) hfit.out ?_
      intro v3 w3 o3 b3
      obtain ⟨a3, c3, rfl, l3, _, _⟩ := o3.form
      by_cases h1 : (Perms.keep g xs).length = 1
      · have ht : (((Perms.keep g xs).length : Int) == 1) = true := by rw [h1]; rfl
        have hst2 : Hid (Perms.rigidTo g ps (j + 1) = Perms.rigidTo g ps j + 1) := Lib.hid (by rw [hst.out, if_pos h1])
        clear h1
        go_wp2_with fail
        go_roundg (gk - 1)
        case measure => omega
        case rel => exact ⟨j + 1, x + 1, by go_num, by go_num, Lib.hid (by rw [hst2.out, ← hxe.out]), by omega, hbr.trans (b3.mono hbr.size), by omega, by omega⟩
      · have ht : (((Perms.keep g xs).length : Int) == 1) = false := by simp; omega
        have hst2 : Hid (Perms.rigidTo g ps (j + 1) = Perms.rigidTo g ps j) := Lib.hid (by rw [hst.out, if_neg h1]; rfl)
        clear h1
        go_wp2_with fail
        go_roundg (gk - 1)
        case measure => omega
        case rel => exact ⟨j + 1, x, by go_num, rfl, Lib.hid (by rw [hst2.out, ← hxe.out]), by omega, hbr.trans (b3.mono hbr.size), by omega, by omega⟩
    · have he : Hid (Perms.rigidI g k = x) := Lib.hid (by rw [hri.out, hxe.out, show j = ps.length from by omega])
      go_wp2_with fail
      exact intq' (H.out _ hbw) he.out
set_option maxHeartbeats 1600000 in
theorem RigidPatterns_s {vg : Value} {g : List (List Int)} {k : Int} {w : World} {Q : Ending → World → Prop} (hg : RowsAt w vg g)
    (hQ : ∀ w', Below w.heap.size w w' → Q (.returned (.int .i64 (Perms.rigidI g k))) w') :
    Calls Try.prog 32 #[vg, .int .i64 k] w Q := by
  have H := Lib.hid hQ; clear hQ
  have hg0 := Lib.hid hg
  obtain ⟨aa, ca, rfl, la, lca, cca⟩ := hg.form
  go_enter Try.func32, Try.ntmps32
  go_wp2_with fail
  refine PatternsOf_s hg0.out ?_
  intro v1 w1 o1 b1
  by_cases hs0 : Perms.smallB g k = true
  rotate_left
  · have hf : Hid (Perms.smallB g k = false) := Lib.hid (by simpa using hs0)
    have hr : Hid (Perms.rigidI g k = -1) := Lib.hid (by unfold Perms.rigidI; rw [if_neg hs0])
    rw [hf.out]
    clear hs0
    go_wp2_with fail
    exact intq' (H.out _ b1) hr.out
  have hs := Lib.hid hs0
  have hpw : Hid (Perms.patsW g k = Perms.pats g k) := Lib.hid (by unfold Perms.patsW; rw [if_pos hs0])
  have hri : Hid (Perms.rigidI g k = (Perms.rigidTo g (Perms.pats g k) (Perms.pats g k).length : Int)) := Lib.hid (by unfold Perms.rigidI; rw [if_pos hs0])
  have hpl := Lib.hid (Perms.pats_len hs0)
  have hpf : Hid (∀ w ∈ Perms.pats g k, Perms.fitsB g w = true) := Lib.hid fun w hw => Perms.pats_fits hs0 hw
  rw [hpw.out] at o1
  rw [hs.out]
  obtain ⟨ps, hps⟩ : ∃ ps, ps = Perms.pats g k := ⟨_, rfl⟩
  rw [← hps] at o1 hri hpl hpf
  clear hs0 hps
  have hb1 := b1.size
  obtain ⟨a1, c1, rfl, l1, _, _⟩ := o1.form
  have hpl2 := hpl.out
  go_wp2_with fail
  go_loopg [7, 20] ps.length (fun gg m i wr => ∃ (j x : Nat), i = .int .i64 j ∧ m = .int .i64 x ∧ Hid (x = Perms.rigidTo g ps j) ∧ x ≤ j ∧ Below w1.heap.size w1 wr ∧ j + gg ≤ ps.length ∧ ps.length ≤ j + gg)
  case atStart => exact ⟨0, 0, rfl, rfl, Lib.hid (by simp [Perms.rigidTo]), by omega, Below.refl _ _, by omega, by omega⟩
  case round =>
    obtain ⟨j, x, rfl, rfl, hxe, hxj, hbr, hm1, hm2⟩ := hrel
    have hbw : Below w.heap.size w wr := b1.trans (hbr.mono hb1)
    by_cases hj : j < ps.length
    · have i2 : (j : Int) < ps.length := by omega
      obtain ⟨gw, rfl, _, _⟩ := (o1.below hbr).head (by omega)
      obtain ⟨u, xs, hxs, hcu, hxo, hxi⟩ := (o1.below hbr).cell hj
      have hfx := hpf.out xs (List.mem_of_getElem? hxs.out)
      have hfit := Lib.hid (Perms.fitsB_fit hfx)
      have hkw : Hid (Perms.keepW g xs = Perms.keep g xs) := Lib.hid (by unfold Perms.keepW; rw [if_pos hfx])
      have hst := Lib.hid (Perms.rigidTo_step (g := g) hxs.out)
      clear hfx
      obtain ⟨au, cu, rfl, lu, _, _⟩ := Own.form hxo
      go_wp2_with fail
      refine KeepersOf_s (hg0.out.below hbw) (OwnInts.at hxo) ?_
      intro v3 w3 o3 b3
      rw [hkw.out] at o3
      obtain ⟨a3, c3, rfl, l3, _, _⟩ := o3.form
      by_cases h1 : (Perms.keep g xs).length = 1
      · have ht : (((Perms.keep g xs).length : Int) == 1) = true := by rw [h1]; rfl
        have hst2 : Hid (Perms.rigidTo g ps (j + 1) = Perms.rigidTo g ps j + 1) := Lib.hid (by rw [hst.out, if_pos h1])
        clear h1
        go_wp2_with fail
        go_roundg (gk - 1)
        case measure => omega
        case rel => exact ⟨j + 1, x + 1, by go_num, by go_num, Lib.hid (by rw [hst2.out, ← hxe.out]), by omega, hbr.trans (b3.mono hbr.size), by omega, by omega⟩
      · have ht : (((Perms.keep g xs).length : Int) == 1) = false := by simp; omega
        have hst2 : Hid (Perms.rigidTo g ps (j + 1) = Perms.rigidTo g ps j) := Lib.hid (by rw [hst.out, if_neg h1]; rfl)
        clear h1
        go_wp2_with fail
        go_roundg (gk - 1)
        case measure => omega
        case rel => exact ⟨j + 1, x, by go_num, rfl, Lib.hid (by rw [hst2.out, ← hxe.out]), by omega, hbr.trans (b3.mono hbr.size), by omega, by omega⟩
    · have he : Hid (Perms.rigidI g k = x) := Lib.hid (by rw [hri.out, hxe.out, show j = ps.length from by omega])
      go_wp2_with fail
      exact intq' (H.out _ hbw) he.out
set_option maxHeartbeats 1600000 in
theorem PatternNumber_i {vg vl : Value} {g : List (List Int)} {k : Int} {l : List Int} {w : World} {Q : Ending → World → Prop} (hg : RowsAt w vg g) (hl : IntsAt w vl l)
    (hQ : ∀ w', Below w.heap.size w w' → Q (.returned (.int .i64 (Perms.numI g k l))) w') :
    Calls Try.prog 35 #[vg, .int .i64 k, vl] w Q := by
  have H := Lib.hid hQ; clear hQ
  have hg0 := Lib.hid hg
  have hl0 := Lib.hid hl
  obtain ⟨aa, ca, rfl, la, lca, cca⟩ := hg.form
  obtain ⟨al, cl, rfl, ll, lcl, ccl⟩ := hl.form
  go_enter Try.func35, Try.ntmps35
  go_wp2_with fail
  refine PatternsOf_i hg0.out ?_
  intro v1 w1 o1 b1
  go_wp2_with fail
  refine CanonOf_i (hg0.out.below b1) (hl0.out.below b1) ?_
  intro v2 w2 o2 b2
  have hb12 : Below w.heap.size w w2 := b1.trans (b2.mono b1.size)
  have o1' := o1.below b2
  cases hs0 : Perms.smallB g k with
  | false =>
    have hr : Hid (Perms.numI g k l = -1) := Lib.hid (by unfold Perms.numI; rw [if_neg (by rw [hs0]; simp)])
    go_wp2_with fail
    exact intq' (H.out _ hb12) hr.out
  | true =>
    cases hf0 : Perms.fitsB g l with
    | false =>
      have hr : Hid (Perms.numI g k l = -1) := Lib.hid (by unfold Perms.numI; rw [if_neg (by rw [hf0]; simp)])
      go_wp2_with fail
      exact intq' (H.out _ hb12) hr.out
    | true =>
      have hs := Lib.hid hs0
      have hf := Lib.hid hf0
      have hr : Hid (Perms.numI g k l = Perms.idx (Perms.pats g k) (Perms.canon g l)) := Lib.hid (by unfold Perms.numI; rw [if_pos ⟨hs0, hf0⟩])
      have hpw : Hid (Perms.patsW g k = Perms.pats g k) := Lib.hid (by unfold Perms.patsW; rw [if_pos hs0])
      have hcw : Hid (Perms.canonW g l = Perms.canon g l) := Lib.hid (by unfold Perms.canonW; rw [if_pos hf0])
      rw [hpw.out] at o1'
      rw [hcw.out] at o2
      clear hs0 hf0
      go_wp2_with fail
      refine below_i (hl0.out.below hb12) ?_
      intro w3 b3
      have hb13 : Below w.heap.size w w3 := hb12.trans (b3.mono hb12.size)
      cases ha : l.all fun x => decide (x < k) with
      | false =>
        have hr2 : Hid (Perms.numI g k l = -1) := Lib.hid (by rw [hr.out]; exact Perms.num_high hf.out ha)
        clear ha
        go_wp2_with fail
        exact intq' (H.out _ hb13) hr2.out
      | true =>
        clear ha
        go_wp2_with fail
        refine find_i (o1'.below b3).at (OwnInts.at (OwnInts.below o2 b3)) (Perms.pats_asc g k) (Nat.le_trans (Perms.pats_len hs.out) (by omega)) ?_
        intro w4 d4
        go_wp2_with fail
        exact intq' (H.out _ (hb13.trans (d4.below _))) hr.out
set_option maxHeartbeats 1600000 in
theorem PatternNumber_s {vg vl : Value} {g : List (List Int)} {k : Int} {l : List Int} {w : World} {Q : Ending → World → Prop} (hg : RowsAt w vg g) (hl : IntsAt w vl l)
    (hQ : ∀ w', Below w.heap.size w w' → Q (.returned (.int .i64 (Perms.numI g k l))) w') :
    Calls Try.prog 34 #[vg, .int .i64 k, vl] w Q := by
  have H := Lib.hid hQ; clear hQ
  have hg0 := Lib.hid hg
  have hl0 := Lib.hid hl
  obtain ⟨aa, ca, rfl, la, lca, cca⟩ := hg.form
  obtain ⟨al, cl, rfl, ll, lcl, ccl⟩ := hl.form
  go_enter Try.func34, Try.ntmps34
  go_wp2_with fail
  refine PatternsOf_s hg0.out ?_
  intro v1 w1 o1 b1
  by_cases hs0 : Perms.smallB g k = true
  rotate_left
  · have hf : Hid (Perms.smallB g k = false) := Lib.hid (by simpa using hs0)
    have hr : Hid (Perms.numI g k l = -1) := Lib.hid (by unfold Perms.numI; rw [if_neg (fun h => hs0 h.1)])
    rw [hf.out]
    clear hs0
    go_wp2_with fail
    exact intq' (H.out _ b1) hr.out
  have hs := Lib.hid hs0
  have hpw : Hid (Perms.patsW g k = Perms.pats g k) := Lib.hid (by unfold Perms.patsW; rw [if_pos hs0])
  have hpl := Lib.hid (Perms.pats_len hs0)
  rw [hpw.out] at o1
  rw [hs.out]
  go_wp2_with fail
  refine fits_s (hg0.out.below b1) (hl0.out.below b1) ?_
  intro w2 b2
  have hb12 : Below w.heap.size w w2 := b1.trans (b2.mono b1.size)
  by_cases hf0 : Perms.fitsB g l = true
  rotate_left
  · have hf : Hid (Perms.fitsB g l = false) := Lib.hid (by simpa using hf0)
    have hr : Hid (Perms.numI g k l = -1) := Lib.hid (by unfold Perms.numI; rw [if_neg (fun h => hf0 h.2)])
    rw [hf.out]
    clear hf0 hs0
    go_wp2_with fail
    exact intq' (H.out _ hb12) hr.out
  have hf := Lib.hid hf0
  have hr : Hid (Perms.numI g k l = Perms.idx (Perms.pats g k) (Perms.canon g l)) := Lib.hid (by unfold Perms.numI; rw [if_pos ⟨hs0, hf0⟩])
  have hpa := Lib.hid (Perms.pats_asc g k)
  rw [hf.out]
  clear hs0 hf0
  go_wp2_with fail
  refine canon_s (hg0.out.below hb12) (hl0.out.below hb12) (Perms.fitsB_fit hf.out) ?_
  intro v3 w3 o3 b3
  have hb13 : Below w.heap.size w w3 := hb12.trans (b3.mono hb12.size)
  obtain ⟨ps, hps⟩ : ∃ ps, ps = Perms.pats g k := ⟨_, rfl⟩
  obtain ⟨c, hcc⟩ : ∃ c, c = Perms.canon g l := ⟨_, rfl⟩
  rw [← hps] at o1 hr hpl hpa
  rw [← hcc] at o3 hr
  clear hps hcc hpw
  have o1' := (o1.below b2).below b3
  obtain ⟨a1, c1, rfl, l1, _, _⟩ := o1'.form
  have hpl2 := hpl.out
  go_wp2_with fail
  go_loopg [31] ps.length (fun gg i wr => ∃ j : Nat, i = .int .i64 j ∧ Drawn w3 wr ∧ Hid (c ∉ ps.take j) ∧ j + gg ≤ ps.length ∧ ps.length ≤ j + gg)
  case atStart => exact ⟨0, rfl, Drawn.refl _, Lib.hid (by simp), by omega, by omega⟩
  case round =>
    obtain ⟨j, rfl, hd, hni, hm1, hm2⟩ := hrel
    by_cases hj : j < ps.length
    · have i2 : (j : Int) < ps.length := by omega
      obtain ⟨gw, rfl, _, _⟩ := (o1'.drawn hd).head (by omega)
      obtain ⟨u, xs, hxs, hcu, hxo, hxi⟩ := (o1'.drawn hd).cell hj
      obtain ⟨au, cu, rfl, lu, _, _⟩ := Own.form hxo
      by_cases he : c = xs
      · have hdc : Hid (decide (c = xs) = true) := Lib.hid (decide_eq_true he)
        have hr2 : Hid (Perms.numI g k l = j) := Lib.hid (by rw [hr.out]; exact Perms.idx_at hpa.out (by rw [hxs.out, he]))
        clear he
        go_wp2_with fail
        refine l03Same_c (OwnInts.at (OwnInts.drawn o3 hd)) (OwnInts.at hxo) ?_
        intro w4 d4
        rw [hdc.out]
        go_wp2_with fail
        exact intq' (H.out _ (hb13.trans ((hd.trans d4).below _))) hr2.out
      · have hdc : Hid (decide (c = xs) = false) := Lib.hid (decide_eq_false he)
        have hni2 : Hid (c ∉ ps.take (j + 1)) := Lib.hid (by
          rw [List.take_add_one, hxs.out]
          intro h
          rcases List.mem_append.1 h with h | h
          · exact hni.out h
          · simp at h; exact he h)
        clear he
        go_wp2_with fail
        refine l03Same_c (OwnInts.at (OwnInts.drawn o3 hd)) (OwnInts.at hxo) ?_
        intro w4 d4
        rw [hdc.out]
        go_wp2_with fail
        go_roundg (gk - 1)
        case measure => omega
        case rel => exact ⟨j + 1, by go_num, hd.trans d4, hni2, by omega, by omega⟩
    · have hr2 : Hid (Perms.numI g k l = -1) := Lib.hid (by
        have h := hni.out
        rw [List.take_of_length_le (by omega)] at h
        rw [hr.out]
        unfold Perms.idx
        rw [if_neg h])
      go_wp2_with fail
      exact intq' (H.out _ (hb13.trans (hd.below _))) hr2.out
set_option maxHeartbeats 3200000 in
theorem FnExactPatternsOf_l {g : List (List Int)} {k : Int} {v_g : Value} {w : World} {Q : Ending → World → Prop} (h_g : RowsAt w v_g g) (hQ : ∀ w', Below w.heap.size w w' → Q (.returned (.bool true)) w') :
    Calls Try.prog 8 #[v_g, .int .i64 k] w Q := by
  have H := Lib.hid hQ; clear hQ
  have h0_g := h_g
  obtain ⟨ao_g, ca_g, rfl, la_g, lc_g, cc_g⟩ := h0_g.form
  clear h0_g
  rcases Int.lt_or_le 1048576 ((g.length : Int) + sumLen g) with b_g | b_g
  · have e_g : Hid ((if (g.length : Int) + sumLen g ≤ 1048576 then 1048576 - (g.length : Int) - sumLen g else -1) = -1) := Lib.hid (if_neg (by omega))
    go_enter Try.func8, Try.ntmps8
    go_wp2_with fail
    refine szIntSS_c h_g ?_
    rw [e_g.out]
    go_wp2_with fail
    exact H.out _ (Below.refl _ _)
  have e_g : Hid ((if (g.length : Int) + sumLen g ≤ 1048576 then 1048576 - (g.length : Int) - sumLen g else -1) = 1048576 - (g.length : Int) - sumLen g) := Lib.hid (if_pos b_g)
  have e2_g : 0 ≤ 1048576 - (g.length : Int) - sumLen g := by omega
  go_enter Try.func8, Try.ntmps8
  go_wp2_with fail
  refine szIntSS_c h_g ?_
  rw [e_g.out]
  have bel := Below.refl w.heap.size w
  go_wp2_with fail
  refine toIntSS_c (h_g.below bel) (by omega) ?_; intro vt_g w1 ot_g b1
  have sz_ot_g := bel.size
  replace bel := bel.trans (b1.mono bel.size)
  have le_ot_g := Nat.le_refl w1.heap.size
  go_wp2_with fail
  refine PatternsOf_s ot_g.at ?_; intro vs0 w2 os0 b2
  have sz_os0 := bel.size
  have or_ot_g_os0 := le_ot_g
  replace bel := bel.trans (b2.mono bel.size)
  replace le_ot_g := Nat.le_trans le_ot_g b2.size
  replace ot_g := ot_g.below b2
  have le_os0 := Nat.le_refl w2.heap.size
  clear le_ot_g sz_ot_g ot_g
  go_wp2_with fail
  refine toIntSS_c (h_g.below bel) (by omega) ?_; intro vx_g w3 ox_g b3
  have sz_ox_g := bel.size
  have or_os0_ox_g := le_os0
  replace bel := bel.trans (b3.mono bel.size)
  replace le_os0 := Nat.le_trans le_os0 b3.size
  replace os0 := os0.below b3
  have le_ox_g := Nat.le_refl w3.heap.size
  go_wp2_with fail
  refine PatternsOf_i ox_g.at ?_; intro vg0 w4 og0 b4
  have sz_og0 := bel.size
  have or_os0_og0 := le_os0
  have or_ox_g_og0 := le_ox_g
  replace bel := bel.trans (b4.mono bel.size)
  replace le_os0 := Nat.le_trans le_os0 b4.size
  replace os0 := os0.below b4
  replace le_ox_g := Nat.le_trans le_ox_g b4.size
  replace ox_g := ox_g.below b4
  have le_og0 := Nat.le_refl w4.heap.size
  go_wp2_with fail
  refine eqIntSS_c og0.at os0.at ?_; intro w5 d5
  replace bel := bel.trans (d5.below _)
  replace le_os0 := Nat.le_trans le_os0 (d5.below 0).size
  replace os0 := os0.drawn d5
  replace le_ox_g := Nat.le_trans le_ox_g (d5.below 0).size
  replace ox_g := ox_g.drawn d5
  replace le_og0 := Nat.le_trans le_og0 (d5.below 0).size
  replace og0 := og0.drawn d5
  go_wp2_with fail
  refine toIntSS_c (h_g.below bel) (by omega) ?_; intro vu_g w6 ou_g b6
  have sz_ou_g := bel.size
  have or_os0_ou_g := le_os0
  have or_ox_g_ou_g := le_ox_g
  have or_og0_ou_g := le_og0
  replace bel := bel.trans (b6.mono bel.size)
  replace le_os0 := Nat.le_trans le_os0 b6.size
  replace os0 := os0.below b6
  replace le_ox_g := Nat.le_trans le_ox_g b6.size
  replace ox_g := ox_g.below b6
  replace le_og0 := Nat.le_trans le_og0 b6.size
  replace og0 := og0.below b6
  have le_ou_g := Nat.le_refl w6.heap.size
  go_wp2_with fail
  refine eqIntSS_c ox_g.at ou_g.at ?_; intro w7 d7
  replace bel := bel.trans (d7.below _)
  replace le_os0 := Nat.le_trans le_os0 (d7.below 0).size
  replace os0 := os0.drawn d7
  replace le_ox_g := Nat.le_trans le_ox_g (d7.below 0).size
  replace ox_g := ox_g.drawn d7
  replace le_og0 := Nat.le_trans le_og0 (d7.below 0).size
  replace og0 := og0.drawn d7
  replace le_ou_g := Nat.le_trans le_ou_g (d7.below 0).size
  replace ou_g := ou_g.drawn d7
  clear le_ou_g sz_ou_g ou_g
  have rb := Perms.patsW_sum g k
  go_wp2_with fail
  refine markIntSS_c ox_g (by omega) (by omega) (by omega) ?_; intro w8 m8 g8
  replace bel := bel.trans (g8.below sz_ox_g bel.size)
  replace le_os0 := Nat.le_trans le_os0 g8.size
  replace os0 := os0.touch g8 (.inl or_os0_ox_g)
  replace le_ox_g := Nat.le_trans le_ox_g g8.size
  replace ox_g := m8
  replace le_og0 := Nat.le_trans le_og0 g8.size
  replace og0 := og0.touch g8 (.inr or_ox_g_og0)
  go_wp2_with fail
  refine eqIntSS_c og0.at os0.at ?_; intro w9 d9
  replace bel := bel.trans (d9.below _)
  replace le_os0 := Nat.le_trans le_os0 (d9.below 0).size
  replace os0 := os0.drawn d9
  replace le_ox_g := Nat.le_trans le_ox_g (d9.below 0).size
  replace ox_g := ox_g.drawn d9
  replace le_og0 := Nat.le_trans le_og0 (d9.below 0).size
  replace og0 := og0.drawn d9
  go_wp2_with fail
  refine markIntSS_c og0 (by omega) (by omega) (by omega) ?_; intro w10 m10 g10
  replace bel := bel.trans (g10.below sz_og0 bel.size)
  replace le_os0 := Nat.le_trans le_os0 g10.size
  replace os0 := os0.touch g10 (.inl or_os0_og0)
  replace le_ox_g := Nat.le_trans le_ox_g g10.size
  replace ox_g := ox_g.touch g10 (.inl or_ox_g_og0)
  replace le_og0 := Nat.le_trans le_og0 g10.size
  replace og0 := m10
  go_wp2_with fail
  refine heldIntSS_c og0.at (by omega) (by omega) (by omega) ?_
  clear le_ox_g sz_ox_g ox_g
  go_wp2_with fail
  refine toIntSS_c (h_g.below bel) (by omega) ?_; intro vy_g w11 oy_g b11
  have sz_oy_g := bel.size
  have or_os0_oy_g := le_os0
  have or_og0_oy_g := le_og0
  replace bel := bel.trans (b11.mono bel.size)
  replace le_os0 := Nat.le_trans le_os0 b11.size
  replace os0 := os0.below b11
  replace le_og0 := Nat.le_trans le_og0 b11.size
  replace og0 := og0.below b11
  have le_oy_g := Nat.le_refl w11.heap.size
  go_wp2_with fail
  refine PatternsOf_i oy_g.at ?_; intro vh0 w12 oh0 b12
  have sz_oh0 := bel.size
  have or_os0_oh0 := le_os0
  have or_og0_oh0 := le_og0
  have or_oy_g_oh0 := le_oy_g
  replace bel := bel.trans (b12.mono bel.size)
  replace le_os0 := Nat.le_trans le_os0 b12.size
  replace os0 := os0.below b12
  replace le_og0 := Nat.le_trans le_og0 b12.size
  replace og0 := og0.below b12
  replace le_oy_g := Nat.le_trans le_oy_g b12.size
  replace oy_g := oy_g.below b12
  have le_oh0 := Nat.le_refl w12.heap.size
  clear le_oy_g sz_oy_g oy_g
  go_wp2_with fail
  refine eqIntSS_c oh0.at os0.at ?_; intro w13 d13
  replace bel := bel.trans (d13.below _)
  replace le_os0 := Nat.le_trans le_os0 (d13.below 0).size
  replace os0 := os0.drawn d13
  replace le_og0 := Nat.le_trans le_og0 (d13.below 0).size
  replace og0 := og0.drawn d13
  replace le_oh0 := Nat.le_trans le_oh0 (d13.below 0).size
  replace oh0 := oh0.drawn d13
  go_wp2_with fail
  refine heldIntSS_c og0.at (by omega) (by omega) (by omega) ?_
  go_wp2
  exact H.out _ bel
set_option maxHeartbeats 3200000 in
theorem FnExactRigidPatterns_l {g : List (List Int)} {k : Int} {v_g : Value} {w : World} {Q : Ending → World → Prop} (h_g : RowsAt w v_g g) (hQ : ∀ w', Below w.heap.size w w' → Q (.returned (.bool true)) w') :
    Calls Try.prog 9 #[v_g, .int .i64 k] w Q := by
  have H := Lib.hid hQ; clear hQ
  have h0_g := h_g
  obtain ⟨ao_g, ca_g, rfl, la_g, lc_g, cc_g⟩ := h0_g.form
  clear h0_g
  rcases Int.lt_or_le 1048576 ((g.length : Int) + sumLen g) with b_g | b_g
  · have e_g : Hid ((if (g.length : Int) + sumLen g ≤ 1048576 then 1048576 - (g.length : Int) - sumLen g else -1) = -1) := Lib.hid (if_neg (by omega))
    go_enter Try.func9, Try.ntmps9
    go_wp2_with fail
    refine szIntSS_c h_g ?_
    rw [e_g.out]
    go_wp2_with fail
    exact H.out _ (Below.refl _ _)
  have e_g : Hid ((if (g.length : Int) + sumLen g ≤ 1048576 then 1048576 - (g.length : Int) - sumLen g else -1) = 1048576 - (g.length : Int) - sumLen g) := Lib.hid (if_pos b_g)
  have e2_g : 0 ≤ 1048576 - (g.length : Int) - sumLen g := by omega
  go_enter Try.func9, Try.ntmps9
  go_wp2_with fail
  refine szIntSS_c h_g ?_
  rw [e_g.out]
  have bel := Below.refl w.heap.size w
  go_wp2_with fail
  refine toIntSS_c (h_g.below bel) (by omega) ?_; intro vt_g w1 ot_g b1
  have sz_ot_g := bel.size
  replace bel := bel.trans (b1.mono bel.size)
  have le_ot_g := Nat.le_refl w1.heap.size
  go_wp2_with fail
  refine RigidPatterns_s ot_g.at ?_; intro w2 b2
  replace bel := bel.trans (b2.mono bel.size)
  replace le_ot_g := Nat.le_trans le_ot_g b2.size
  replace ot_g := ot_g.below b2
  clear le_ot_g sz_ot_g ot_g
  go_wp2_with fail
  refine toIntSS_c (h_g.below bel) (by omega) ?_; intro vx_g w3 ox_g b3
  have sz_ox_g := bel.size
  replace bel := bel.trans (b3.mono bel.size)
  have le_ox_g := Nat.le_refl w3.heap.size
  go_wp2_with fail
  refine RigidPatterns_i ox_g.at ?_; intro w4 b4
  replace bel := bel.trans (b4.mono bel.size)
  replace le_ox_g := Nat.le_trans le_ox_g b4.size
  replace ox_g := ox_g.below b4
  go_wp2_with fail
  refine toIntSS_c (h_g.below bel) (by omega) ?_; intro vu_g w5 ou_g b5
  have sz_ou_g := bel.size
  have or_ox_g_ou_g := le_ox_g
  replace bel := bel.trans (b5.mono bel.size)
  replace le_ox_g := Nat.le_trans le_ox_g b5.size
  replace ox_g := ox_g.below b5
  have le_ou_g := Nat.le_refl w5.heap.size
  go_wp2_with fail
  refine eqIntSS_c ox_g.at ou_g.at ?_; intro w6 d6
  replace bel := bel.trans (d6.below _)
  replace le_ox_g := Nat.le_trans le_ox_g (d6.below 0).size
  replace ox_g := ox_g.drawn d6
  replace le_ou_g := Nat.le_trans le_ou_g (d6.below 0).size
  replace ou_g := ou_g.drawn d6
  clear le_ou_g sz_ou_g ou_g
  go_wp2
  exact H.out _ bel
set_option maxHeartbeats 3200000 in
theorem FnExactPatternNumber_l {g : List (List Int)} {k : Int} {l : List Int} {v_g : Value} {v_l : Value} {w : World} {Q : Ending → World → Prop} (h_g : RowsAt w v_g g) (h_l : IntsAt w v_l l) (hQ : ∀ w', Below w.heap.size w w' → Q (.returned (.bool true)) w') :
    Calls Try.prog 10 #[v_g, .int .i64 k, v_l] w Q := by
  have H := Lib.hid hQ; clear hQ
  have h0_g := h_g
  obtain ⟨ao_g, ca_g, rfl, la_g, lc_g, cc_g⟩ := h0_g.form
  clear h0_g
  have h0_l := h_l
  obtain ⟨ao_l, ca_l, rfl, la_l, lc_l, cc_l⟩ := h0_l.form
  clear h0_l
  rcases Int.lt_or_le 1048576 (l.length : Int) with b_l | b_l
  · go_enter Try.func10, Try.ntmps10
    go_wp2
    exact H.out _ (Below.refl _ _)
  rcases Int.lt_or_le 1048576 ((g.length : Int) + sumLen g) with b_g | b_g
  · have e_g : Hid ((if (g.length : Int) + sumLen g ≤ 1048576 then 1048576 - (g.length : Int) - sumLen g else -1) = -1) := Lib.hid (if_neg (by omega))
    go_enter Try.func10, Try.ntmps10
    go_wp2_with fail
    refine szIntSS_c h_g ?_
    rw [e_g.out]
    go_wp2_with fail
    exact H.out _ (Below.refl _ _)
  have e_g : Hid ((if (g.length : Int) + sumLen g ≤ 1048576 then 1048576 - (g.length : Int) - sumLen g else -1) = 1048576 - (g.length : Int) - sumLen g) := Lib.hid (if_pos b_g)
  have e2_g : 0 ≤ 1048576 - (g.length : Int) - sumLen g := by omega
  go_enter Try.func10, Try.ntmps10
  go_wp2_with fail
  refine szIntSS_c h_g ?_
  rw [e_g.out]
  have bel := Below.refl w.heap.size w
  go_wp2_with fail
  refine toIntSS_c (h_g.below bel) (by omega) ?_; intro vt_g w1 ot_g b1
  have sz_ot_g := bel.size
  replace bel := bel.trans (b1.mono bel.size)
  have le_ot_g := Nat.le_refl w1.heap.size
  go_wp2_with fail
  refine toIntS_c (h_l.below bel) (by omega) ?_; intro vt_l w2 ot_l b2
  have sz_ot_l := bel.size
  have or_ot_g_ot_l := le_ot_g
  replace bel := bel.trans (b2.mono bel.size)
  replace le_ot_g := Nat.le_trans le_ot_g b2.size
  replace ot_g := ot_g.below b2
  have le_ot_l := Nat.le_refl w2.heap.size
  have in_ot_l := Own.inBlk ot_l
  go_wp2_with fail
  refine PatternNumber_s ot_g.at ot_l.at ?_; intro w3 b3
  replace bel := bel.trans (b3.mono bel.size)
  replace le_ot_g := Nat.le_trans le_ot_g b3.size
  replace ot_g := ot_g.below b3
  replace le_ot_l := Nat.le_trans le_ot_l b3.size
  replace ot_l := ot_l.below b3
  clear le_ot_g sz_ot_g ot_g
  clear le_ot_l sz_ot_l ot_l in_ot_l
  go_wp2_with fail
  refine toIntSS_c (h_g.below bel) (by omega) ?_; intro vx_g w4 ox_g b4
  have sz_ox_g := bel.size
  replace bel := bel.trans (b4.mono bel.size)
  have le_ox_g := Nat.le_refl w4.heap.size
  go_wp2_with fail
  refine toIntS_c (h_l.below bel) (by omega) ?_; intro vx_l w5 ox_l b5
  have sz_ox_l := bel.size
  have or_ox_g_ox_l := le_ox_g
  replace bel := bel.trans (b5.mono bel.size)
  replace le_ox_g := Nat.le_trans le_ox_g b5.size
  replace ox_g := ox_g.below b5
  have le_ox_l := Nat.le_refl w5.heap.size
  have in_ox_l := Own.inBlk ox_l
  go_wp2_with fail
  refine PatternNumber_i ox_g.at ox_l.at ?_; intro w6 b6
  replace bel := bel.trans (b6.mono bel.size)
  replace le_ox_g := Nat.le_trans le_ox_g b6.size
  replace ox_g := ox_g.below b6
  replace le_ox_l := Nat.le_trans le_ox_l b6.size
  replace ox_l := ox_l.below b6
  go_wp2_with fail
  refine toIntSS_c (h_g.below bel) (by omega) ?_; intro vu_g w7 ou_g b7
  have sz_ou_g := bel.size
  have or_ox_g_ou_g := le_ox_g
  have or_ox_l_ou_g := le_ox_l
  replace bel := bel.trans (b7.mono bel.size)
  replace le_ox_g := Nat.le_trans le_ox_g b7.size
  replace ox_g := ox_g.below b7
  replace le_ox_l := Nat.le_trans le_ox_l b7.size
  replace ox_l := ox_l.below b7
  have le_ou_g := Nat.le_refl w7.heap.size
  go_wp2_with fail
  refine eqIntSS_c ox_g.at ou_g.at ?_; intro w8 d8
  replace bel := bel.trans (d8.below _)
  replace le_ox_g := Nat.le_trans le_ox_g (d8.below 0).size
  replace ox_g := ox_g.drawn d8
  replace le_ox_l := Nat.le_trans le_ox_l (d8.below 0).size
  replace ox_l := ox_l.drawn d8
  replace le_ou_g := Nat.le_trans le_ou_g (d8.below 0).size
  replace ou_g := ou_g.drawn d8
  clear le_ou_g sz_ou_g ou_g
  go_wp2_with fail
  refine toIntS_c (h_l.below bel) (by omega) ?_; intro vu_l w9 ou_l b9
  have sz_ou_l := bel.size
  have or_ox_g_ou_l := le_ox_g
  have or_ox_l_ou_l := le_ox_l
  replace bel := bel.trans (b9.mono bel.size)
  replace le_ox_g := Nat.le_trans le_ox_g b9.size
  replace ox_g := ox_g.below b9
  replace le_ox_l := Nat.le_trans le_ox_l b9.size
  replace ox_l := ox_l.below b9
  have le_ou_l := Nat.le_refl w9.heap.size
  have in_ou_l := Own.inBlk ou_l
  go_wp2_with fail
  refine eqIntS_c ox_l.at ou_l.at ?_; intro w10 d10
  replace bel := bel.trans (d10.below _)
  replace le_ox_g := Nat.le_trans le_ox_g (d10.below 0).size
  replace ox_g := ox_g.drawn d10
  replace le_ox_l := Nat.le_trans le_ox_l (d10.below 0).size
  replace ox_l := ox_l.drawn d10
  replace le_ou_l := Nat.le_trans le_ou_l (d10.below 0).size
  replace ou_l := ou_l.drawn d10
  clear le_ou_l sz_ou_l ou_l in_ou_l
  go_wp2
  exact H.out _ bel
end Go.Proofs.Ytblifocccpfmkaa
