/-
  Part 6 of 6 of what the law FnPatterns rests on.
-/
import Derived.Test.YtdibmjijpdliaaaMp5
set_option maxRecDepth 20000
/- The law FnPatterns: what it computes. -/
set_option linter.unusedVariables false
namespace Go.Proofs.Ytdibmjijpdliaaa
open Go.RowKit

set_option maxHeartbeats 800000 in
theorem ActOn_i {vp vl : Value} {p l : List Int} {w : World} {Q : Ending → World → Prop} (hp : IntsAt w vp p) (hl : IntsAt w vl l) (hpb : Perms.permB p = true) (hok : Words.okW l = true) (hpl : p.length = l.length)
    (hQ : ∀ v w', OwnInts w' w.heap.size v (Perms.act p l) → Below w.heap.size w w' → Q (.returned (.tuple #[v, .bool true])) w') :
    Calls Try.prog 16 #[vp, vl] w Q := by
  have H := Lib.hid hQ; clear hQ
  have hp0 := Lib.hid hp
  have hl0 := Lib.hid hl
  obtain ⟨ap, cp, rfl, p1, p2, p3⟩ := hp.form
  obtain ⟨al, cl, rfl, l1, l2, l3⟩ := hl.form
  have hr := Lib.hid (show ∀ x ∈ p, 0 ≤ x ∧ x < (l.length : Int) from by rw [← hpl]; exact Perms.permB_range hpb)
  have hlen := Perms.permB_len hpb
  have hpb' := Lib.hid hpb
  have hok' := Lib.hid hok
  have hpl' := Lib.hid hpl
  have e1 : (p.length : Int) = l.length := by omega
  have e2 : ((p.length : Int) != l.length) = false := by rw [e1]; simp
  have hl9 : l.length ≤ 1048576 := by omega
  clear hp hl hpb hok hpl e1
  go_enter Try.func16, Try.ntmps16
  go_wp2_with fail
  refine PermOk_i hp0.out ?_
  intro w1 b1
  rw [hpb'.out]
  have hp1 := Lib.hid (hp0.out.below b1)
  have hl1 := Lib.hid (hl0.out.below b1)
  go_wp2_with fail
  refine ColoringOk_i hl1.out ?_
  rw [hok'.out]
  go_wp2_with fail
  refine act_i hp1.out hl1.out hl9 hpl'.out hr.out ?_
  intro v2 w2 o2 b2
  have h3 := Lib.hid (H.out v2 w2 (Own.mono o2 b1.size) (b1.trans (b2.mono b1.size)))
  obtain ⟨a2, c2, rfl, _, _, _⟩ := Own.form o2
  go_wp2_with fail
  exact h3.out
/-- An element of the first j carries a to b. -/
def Perms.carTo (g : List (List Int)) (a b : List Int) (j : Nat) : Bool := (g.take j).any fun p => decide (Perms.act p a = b)
theorem Perms.carTo_step {g : List (List Int)} {a b p : List Int} {j : Nat} (hp : g[j]? = some p) : Perms.carTo g a b (j + 1) = (Perms.carTo g a b j || decide (Perms.act p a = b)) := by
  unfold Perms.carTo
  rw [List.take_add_one, hp, List.any_append]
  simp
theorem Perms.carTo_all {g : List (List Int)} {a b : List Int} (ha : Perms.fitsB g a = true) (hb : Perms.fitsB g b = true) : Perms.sameB g a b = Perms.carTo g a b g.length := by
  obtain ⟨h1, h2, h3⟩ := Perms.fitsB_parts ha
  obtain ⟨_, _, k3⟩ := Perms.fitsB_parts hb
  have G := Perms.grpB_grp h1
  unfold Perms.sameB Perms.carTo
  rw [ha, hb, List.take_length, Perms.canonW_fit ha, Perms.canonW_fit hb, Bool.eq_iff_iff]
  simp only [Bool.true_and, decide_eq_true_eq, List.any_eq_true]
  exact G.canon_same (Perms.grp_ne h1) h3 k3
structure Perms.PatF (g : List (List Int)) (a b x : List Int) : Prop where
  fa : Perms.fitsB g a = true
  fx : Perms.fitsB g x = true
  ca : Perms.canonW g a = x
  cx : Perms.canonW g x = x
  im : (Perms.imagesN g a : Int) * ((Perms.keepW g a).length : Int) = g.length
  kg : Perms.grpB (Perms.keepW g a) = true
  al : decide (Words.cmpL a x < 0) = false
  low : ∀ p ∈ g, decide (Words.cmpL (Perms.act p a) x < 0) = false
  same : ∀ p ∈ g, Perms.sameB g a (Perms.act p a) = true
  el : ∀ p ∈ g, Perms.permB p = true ∧ p.length = a.length
  car : Perms.sameB g a b = Perms.carTo g a b g.length
theorem Perms.patF {g : List (List Int)} {n : Nat} (h : Perms.grpB g = true) (hn : (Perms.row0 g).length = n) {a b : List Int} (ha : a.length = n) (har : ∀ x ∈ a, 0 ≤ x ∧ x < (3 : Int)) (hb : b.length = n) (hbr : ∀ x ∈ b, 0 ≤ x ∧ x < (2 : Int)) :
    Perms.PatF g a b (Perms.canon g a) := by
  have G := Perms.grpB_grp h
  have h0 := Perms.grp_ne h
  have hal : a.length = (Perms.row0 g).length := by omega
  have fa := Perms.fitsB_of h hal (show (3 : Int) ≤ 4 by omega) har
  have fb := Perms.fitsB_of h (show b.length = (Perms.row0 g).length by omega) (show (2 : Int) ≤ 4 by omega) hbr
  have hact : ∀ p ∈ g, Perms.fitsB g (Perms.act p a) = true := fun p hp =>
    Perms.fitsB_of h (by rw [Perms.act_len, hal]) (show (3 : Int) ≤ 4 by omega) fun y hy => har y (Perms.act_from (G.perm p hp) (by rw [G.len p hp, hal]) hy)
  have fx : Perms.fitsB g (Perms.canon g a) = true := by
    obtain ⟨p, hp, e⟩ := G.canon_in h0 hal
    rw [e]; exact hact p hp
  have hk : Perms.keepW g a = Perms.keep g a := by unfold Perms.keepW; rw [if_pos fa]
  refine ⟨fa, fx, Perms.canonW_fit fa, by rw [Perms.canonW_fit fx, G.canon_canon h0 hal], ?_, by rw [hk]; exact Perms.keep_grp h hal, decide_eq_false (Perms.canon_le g a), fun p hp => decide_eq_false (Perms.canon_min hp), fun p hp => ?_, fun p hp => ⟨G.perm p hp, by rw [G.len p hp, hal]⟩, Perms.carTo_all fa fb⟩
  · rw [hk]
    unfold Perms.imagesN
    rw [if_pos fa, ← Int.natCast_mul, ← G.orbit hal]
  · unfold Perms.sameB
    rw [fa, hact p hp, Perms.canonW_fit fa, Perms.canonW_fit (hact p hp), G.canon_act hal hp]
    simp
set_option maxHeartbeats 6400000 in
set_option maxRecDepth 60000 in
theorem FnPatterns_l {v : Value} {bs : List Int} {w : World} {Q : Ending → World → Prop} (hb : BytesAt w v bs) (hQ : ∀ w', Below w.heap.size w w' → Q (.returned (.bool true)) w') :
    Calls Try.prog 3 #[v] w Q := by
  have H := Lib.hid hQ; clear hQ
  have hb' := hb
  obtain ⟨ao, ca, rfl, la, lca, cca⟩ := hb'.form
  rw [show (bytes bs).length = bs.length from by simp [bytes]] at *
  by_cases hlen : (bs.length : Int) ≤ 1048576
  rotate_left
  · have hl2 : (1048576 : Int) < bs.length := by omega
    go_enter Try.func3, Try.ntmps3
    go_wp2_with fail
    exact H.out _ (Below.refl _ _)
  have hb0 := Lib.hid hb
  clear hb hb'
  go_enter Try.func3, Try.ntmps3
  go_wp2_with fail
  refine MakeGroup_c hb0.out (by omega) (by omega) ?_
  intro v1 g w1 hgr hn1 hn6 o1 b1
  obtain ⟨n, hn⟩ : ∃ n, (Perms.row0 g).length = n := ⟨_, rfl⟩
  rw [hn] at hn1 hn6
  obtain ⟨hl1, hl2, _, _⟩ := Perms.grpB_parts hgr
  have hb1 := Lib.hid (hb0.out.below b1)
  have hg1 := Lib.hid o1.at
  obtain ⟨ag, cg, rfl, _, _, _⟩ := o1.form
  obtain ⟨b0', f0', u0, x0, e0, hx0, hcx0, hux0⟩ := hg1.out.cell (k := 0) (by omega)
  cases e0
  have hx0l : x0.length = n := by
    rw [← hn]
    have := hx0.out
    simp [Perms.row0, List.getD, this]
  obtain ⟨ax0, kx0, rfl, _, _, _⟩ := hux0.form
  rw [hx0l, Nat.add_zero] at hcx0
  have hgr' := Lib.hid hgr
  have hn' := Lib.hid hn
  clear hx0 hux0 hx0l o1 hgr hn
  go_wp2_with fail
  refine MakeColors_c (n := n) hb1.out (by omega) (by omega) hn1 (by omega) (by omega) (by omega) ?_
  intro va a w2 hal har oa b2
  obtain ⟨aa, ka, rfl, _, _, _⟩ := Own.form oa
  rw [ints_len, hal] at oa ⊢
  have ha2 := Lib.hid (OwnInts.at oa)
  have hg2 := Lib.hid (hg1.out.below b2)
  have hb2 := Lib.hid (hb1.out.below b2)
  have bw2 := b1.trans (b2.mono b1.size)
  have har' := Lib.hid har
  clear oa har
  go_wp2_with fail
  refine MakeColors_c (n := n) hb2.out (by omega) (by omega) hn1 (by omega) (by omega) (by omega) ?_
  intro vb b w3 hbl hbr ob b3
  obtain ⟨ab, kb, rfl, _, _, _⟩ := Own.form ob
  rw [ints_len, hbl] at ob ⊢
  have hb3 := Lib.hid (OwnInts.at ob)
  have ha3 := Lib.hid (ha2.out.below b3)
  have hg3 := Lib.hid (hg2.out.below b3)
  have bw3 := bw2.trans (b3.mono bw2.size)
  obtain ⟨x, hx⟩ : ∃ x, x = Perms.canon g a := ⟨_, rfl⟩
  have F : Hid (Perms.PatF g a b x) := Lib.hid (by rw [hx]; exact Perms.patF hgr'.out hn'.out hal har'.out hbl hbr)
  have hxl : x.length = n := by rw [hx, Perms.canon_len, hal]
  clear ob hbr hx
  go_wp2_with fail
  refine CanonOf_i hg3.out ha3.out ?_
  intro v4 w4 o4 b4
  rw [F.out.ca] at o4
  rw [F.out.fa]
  obtain ⟨ax, cx, rfl, _, _, _⟩ := Own.form o4
  rw [ints_len, hxl] at o4 ⊢
  have hx4 := Lib.hid (OwnInts.at o4)
  have hb4 := Lib.hid (hb3.out.below b4)
  have ha4 := Lib.hid (ha3.out.below b4)
  have hg4 := Lib.hid (hg3.out.below b4)
  have bw4 := bw3.trans (b4.mono bw3.size)
  clear o4
  go_wp2_with fail
  refine CanonOf_i hg4.out hx4.out ?_
  intro v5 w5 o5 b5
  rw [F.out.cx] at o5
  rw [F.out.fx]
  obtain ⟨ay, cy, rfl, _, _, _⟩ := Own.form o5
  rw [ints_len, hxl] at o5 ⊢
  have hy5 := Lib.hid (OwnInts.at o5)
  have hx5 := Lib.hid (hx4.out.below b5)
  have hb5 := Lib.hid (hb4.out.below b5)
  have ha5 := Lib.hid (ha4.out.below b5)
  have hg5 := Lib.hid (hg4.out.below b5)
  have bw5 := bw4.trans (b5.mono bw4.size)
  clear o5
  go_wp2_with fail
  refine KeepersOf_i hg5.out ha5.out ?_
  intro v6 w6 o6 b6
  obtain ⟨K, hK⟩ : ∃ K, K = Perms.keepW g a := ⟨_, rfl⟩
  rw [← hK] at o6
  have hkg : Hid (Perms.grpB K = true) := Lib.hid (by rw [hK]; exact F.out.kg)
  have him : (Perms.imagesN g a : Int) * (K.length : Int) = g.length := by rw [hK]; exact F.out.im
  obtain ⟨ak, ck, rfl, _, _, _⟩ := o6.form
  have hk6 := Lib.hid o6.at
  have hy6 := Lib.hid (hy5.out.below b6)
  have hx6 := Lib.hid (hx5.out.below b6)
  have hb6 := Lib.hid (hb5.out.below b6)
  have ha6 := Lib.hid (ha5.out.below b6)
  have hg6 := Lib.hid (hg5.out.below b6)
  have bw6 := bw5.trans (b6.mono bw5.size)
  obtain ⟨I, hI⟩ : ∃ I, I = Perms.imagesN g a := ⟨_, rfl⟩
  rw [← hI] at him
  have hI' := Lib.hid hI
  have himw : IntKind.i64.wrap ((I : Int) * (K.length : Int)) = g.length := by rw [him]; exact IntWalk.i64_in _ (by omega)
  have him' := Lib.hid him
  clear o6 hK hI him
  go_wp2_with (first
    | (go_at_call 12; refine same_c hx6.out hy6.out ?_; intro w7 d7; rw [decide_eq_true (rfl : x = x)]; have hg7 := hg6.out.drawn d7; have ha7 := ha6.out.drawn d7; have hb7 := hb6.out.drawn d7; have hx7 := hx6.out.drawn d7; have hk7 := hk6.out.drawn d7; have bw7 := bw6.trans (d7.below _))
    | (go_at_call 13; refine CountImages_i hg7 ha7 ?_; intro w8 b8; rw [← hI'.out]; have hg8 := Lib.hid (hg7.below b8); have ha8 := Lib.hid (ha7.below b8); have hb8 := Lib.hid (hb7.below b8); have hx8 := Lib.hid (hx7.below b8); have hk8 := Lib.hid (hk7.below b8); have bw8 := bw7.trans (b8.mono bw7.size)))
  refine GroupOk_i hk8.out ?_
  intro w9 b9
  rw [hkg.out]
  have hx9 := Lib.hid (hx8.out.below b9)
  have hb9 := Lib.hid (hb8.out.below b9)
  have ha9 := Lib.hid (ha8.out.below b9)
  have hg9 := Lib.hid (hg8.out.below b9)
  have bw9 := bw8.trans (b9.mono bw8.size)
  have hal2 := Lib.hid F.out.al
  go_wp2_with (go_at_call 15; refine lessLaw_f hal2.out ha9.out hx9.out ?_)
  go_loopg [12, 83] g.length (fun gg u12 u83 wr => ∃ (j : Nat), u83 = .int .i64 j ∧ u12 = .bool (Perms.carTo g a b j) ∧ Below w9.heap.size w9 wr ∧ j + gg ≤ g.length ∧ g.length ≤ j + gg)
  case atStart => exact ⟨0, rfl, rfl, Below.refl _ _, by omega, by omega⟩
  case round =>
    obtain ⟨j, rfl, rfl, bj, hm1, hm2⟩ := hrel
    by_cases hj : j < g.length
    · have hjI : (j : Int) < g.length := by omega
      obtain ⟨b7, f7, u, p, e7, hp, hcp, hup⟩ := (hg9.out.below bj).cell hj
      cases e7
      obtain ⟨ap, cp, rfl, _, _, _⟩ := hup.form
      have hpm := List.mem_of_getElem? hp.out
      have hup' := Lib.hid hup
      have hel := Lib.hid (F.out.el p hpm)
      have hlow := Lib.hid (F.out.low p hpm)
      have hsm := Lib.hid (F.out.same p hpm)
      have hok := Lib.hid (Perms.fitsB_parts F.out.fa).2.1
      have haj := Lib.hid (ha9.out.below bj)
      have hxj := Lib.hid (hx9.out.below bj)
      have hbj := Lib.hid (hb9.out.below bj)
      have hgj := Lib.hid (hg9.out.below bj)
      have hst := Lib.hid (Perms.carTo_step (a := a) (b := b) hp.out)
      have haln : (ints (Perms.act p a)).length = n := by rw [ints_len, Perms.act_len, hal]
      have haln' := Lib.hid haln
      clear hup hpm haln
      go_wp2_with fail
      refine ActOn_i hup'.out haj.out hel.out.1 hok.out hel.out.2 ?_
      intro v10 w10 o10 b10
      obtain ⟨az, cz, rfl, _, _, _⟩ := Own.form o10
      rw [haln'.out] at o10 ⊢
      have hz10 := Lib.hid (OwnInts.at o10)
      have hx10 := Lib.hid (hxj.out.below b10)
      have ha10 := Lib.hid (haj.out.below b10)
      have hb10 := Lib.hid (hbj.out.below b10)
      have hg10 := Lib.hid (hgj.out.below b10)
      have bj10 := bj.trans (b10.mono bj.size)
      clear o10
      cases hcj : Perms.carTo g a b j with
      | true =>
        have hst2 : Hid (Perms.carTo g a b (j + 1) = true) := Lib.hid (by rw [hst.out, hcj]; rfl)
        clear hcj
        go_wp2_with (first
          | (go_at_call 15; refine lessLaw_f hlow.out hz10.out hx10.out ?_)
          | (go_at_call 17; refine SamePattern_i hg10.out ha10.out hz10.out ?_; intro w11 b11; rw [hsm.out]; have bj11 := bj10.trans (b11.mono bj10.size)))
        go_roundg (gk - 1)
        case measure => omega
        case rel => exact ⟨j + 1, by go_num, by rw [hst2.out], bj11, by omega, by omega⟩
      | false =>
        have hst2 : Hid (Perms.carTo g a b (j + 1) = decide (Perms.act p a = b)) := Lib.hid (by rw [hst.out, hcj]; rfl)
        clear hcj
        go_wp2_with (first
          | (go_at_call 15; refine lessLaw_f hlow.out hz10.out hx10.out ?_)
          | (go_at_call 17; refine SamePattern_i hg10.out ha10.out hz10.out ?_; intro w11 b11; rw [hsm.out]; have bj11 := bj10.trans (b11.mono bj10.size); have hz11 := hz10.out.below b11; have hb11 := hb10.out.below b11)
          | (go_at_call 12; refine same_c hz11 hb11 ?_; intro w12 d12; rw [← hst2.out]; have bj12 := bj11.trans (d12.below _)))
        go_roundg (gk - 1)
        case measure => omega
        case rel => exact ⟨j + 1, by go_num, rfl, bj12, by omega, by omega⟩
    · obtain rfl : j = g.length := by omega
      have hgj := Lib.hid (hg9.out.below bj)
      have haj := Lib.hid (ha9.out.below bj)
      have hbj := Lib.hid (hb9.out.below bj)
      have bwj := bw9.trans (bj.mono bw9.size)
      obtain ⟨r0, r1⟩ := Perms.rigidI_facts hgr'.out (by rw [hn'.out]; exact hn6)
      rw [hn'.out] at r1
      obtain ⟨r, hr⟩ : ∃ r, r = Perms.rigidI g 2 := ⟨_, rfl⟩
      rw [← hr] at r0 r1
      have hr' := Lib.hid hr
      have hcar := Lib.hid F.out.car
      clear hr
      go_wp2_with fail
      refine RigidPatterns_i hgj.out ?_
      intro w11 b11
      rw [← hr'.out]
      have hg11 := Lib.hid (hgj.out.below b11)
      have ha11 := Lib.hid (haj.out.below b11)
      have hb11 := Lib.hid (hbj.out.below b11)
      have bw11 := bwj.trans (b11.mono bwj.size)
      go_wp2_with (go_at_call 17; refine SamePattern_i hg11.out ha11.out hb11.out ?_; intro w12 b12; rw [hcar.out]; have bw12 := bw11.trans (b12.mono bw11.size))
      have hp6 : 2 ^ n ≤ 2 ^ 6 := Nat.pow_le_pow_right (by omega) hn6
      have hpI : (2 : Int) ^ n = ((2 ^ n : Nat) : Int) := (Int.natCast_pow 2 n).symm
      have hrg : 0 ≤ r * (g.length : Int) := Int.mul_nonneg r0 (by omega)
      have hw1 : wrap64 (r * (g.length : Int)) = r * (g.length : Int) := IntWalk.wrap64_in _ (by omega)
      have hw2 : wrap64 ((2 : Int) ^ n) = (2 : Int) ^ n := IntWalk.wrap64_in _ (by rw [hpI]; omega)
      have hfin : decide (wrap64 (r * (g.length : Int)) ≤ wrap64 ((2 : Int) ^ n)) = true := decide_eq_true (by rw [hw1, hw2, hpI]; exact r1)
      show Q (.returned (.bool (decide (wrap64 (r * (g.length : Int)) ≤ wrap64 ((2 : Int) ^ n))))) w12
      rw [hfin]
      exact H.out _ bw12
end Go.Proofs.Ytdibmjijpdliaaa
