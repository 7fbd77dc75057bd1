/-
  The place of a list in an ascending one, by halving.
-/
import Derived.Test.YtdjdagcgodpgdaaGreatPerms
import Derived.Test.YtdjdagcgodpgdaaGreatSlib
import Derived.Test.YtdjdagcgodpgdaaGreatMemS
set_option linter.unusedVariables false
namespace Go.Proofs.YtdjdagcgodpgdaaGreat
open Go.RowKit

set_option maxHeartbeats 1000000 in
theorem bsearch_c {vg vp : Value} {g : List (List Int)} {p : List Int} {w : World} {Q : Ending → World → Prop} (hg : RowsAt w vg g) (hp : IntsAt w vp p) (hs : Perms.Asc g) (hn : g.length ≤ 1048576)
    (hQ : ∀ (w' : World) (i : Int) (b : Bool), Drawn w w' → (b = false → Perms.idx g p = -1) → (b = true → Perms.idx g p = i) → Q (.returned (.tuple #[.int .i64 i, .bool b])) w') :
    Calls Tryz.prog 89 #[vg, vp, .func (.func 52) #[] #[]] w Q := by
  have H := Lib.hid hQ; clear hQ
  have hs' := Lib.hid hs
  clear hs
  obtain ⟨aa, ca, rfl, la, lca, cca⟩ := hg.form
  go_enter Tryz.func89, Tryz.ntmps89
  go_wp2_with fail
  go_loopg [9, 10] g.length (fun k a b wr => Drawn w wr ∧ ∃ i j : Nat, a = .int .i64 i ∧ b = .int .i64 j ∧ i ≤ j ∧ j ≤ g.length ∧ j ≤ i + k ∧ Hid (Perms.Cut g p i j))
  case atStart => exact ⟨Drawn.refl w, 0, g.length, rfl, rfl, by omega, by omega, by omega, Lib.hid (Perms.Cut.start g p)⟩
  case round =>
    obtain ⟨hw, i, j, rfl, rfl, hij, hjn, hk, hC⟩ := hrel
    have hgw := hg.drawn hw
    have hpw := hp.drawn hw
    by_cases hlt : i < j
    · obtain ⟨m, hm⟩ : ∃ m : Nat, m = (i + j) / 2 := ⟨_, rfl⟩
      have hm1 : i ≤ m := by omega
      have hm2 : m < j := by omega
      have hmI : ((i : Int) + j) / 2 = m := by omega
      clear hm
      obtain ⟨b, off, u, xs, rfl, hx, hc, hi⟩ := hgw.cell (k := m) (by omega)
      have i1 : (m : Int) < g.length := by omega
      by_cases hc0 : Words.cmpL xs p < 0
      · have hC' : Hid (Perms.Cut g p (m + 1) j) := Lib.hid (hC.out.up hs'.out hx.out hc0)
        go_wp2_with (go_at_call 52; refine Compare_c hi hpw ?_)
        go_roundg (gk - 1)
        case measure => omega
        case rel => exact ⟨hw, m + 1, j, by go_num, rfl, by omega, by omega, by omega, hC'⟩
      · have hC' : Hid (Perms.Cut g p i m) := Lib.hid (hC.out.down hs'.out hx.out hc0)
        go_wp2_with (go_at_call 52; refine Compare_c hi hpw ?_)
        go_roundg (gk - 1)
        case measure => omega
        case rel => exact ⟨hw, i, m, rfl, by go_num, by omega, by omega, by omega, hC'⟩
    · obtain rfl : i = j := by omega
      by_cases hin : i < g.length
      · obtain ⟨b, off, u, xs, rfl, hx, hc, hi⟩ := hgw.cell (k := i) hin
        have i1 : (i : Int) < g.length := by omega
        go_wp2_with (go_at_call 52; refine Compare_c hi hpw ?_)
        refine H.out _ _ _ hw ?_ ?_
        · intro hb
          refine hC.out.missed hs'.out (fun y hy e => ?_)
          rw [hx.out] at hy
          cases hy
          subst e
          rw [Words.cmpL_self] at hb
          simp at hb
        · intro hb
          have h0 : Words.cmpL xs p = 0 := by simpa using hb
          exact hC.out.found hs'.out (by rw [hx.out, Words.cmpL_eq h0])
      · have ef : Hid (Perms.idx g p = -1) := Lib.hid (hC.out.missed hs'.out (fun y hy => by rw [List.getElem?_eq_none (by omega)] at hy; cases hy))
        go_wp2_with fail
        exact H.out _ _ _ hw (fun _ => ef.out) (fun h => by cases h)
set_option maxHeartbeats 400000 in
theorem find_i {vg vp : Value} {g : List (List Int)} {p : List Int} {w : World} {Q : Ending → World → Prop} (hg : RowsAt w vg g) (hp : IntsAt w vp p) (hs : Perms.Asc g) (hn : g.length ≤ 1048576)
    (hQ : ∀ w', Drawn w w' → Q (.returned (.int .i64 (Perms.idx g p))) w') :
    Calls Tryz.prog 73 #[vg, vp] w Q := by
  have H := Lib.hid hQ; clear hQ
  go_enter Tryz.func73, Tryz.ntmps73
  go_wp2_with fail
  refine bsearch_c hg hp hs hn ?_
  intro w1 i b d1 hb0 hb1
  cases b with
  | false =>
    have e := Lib.hid (hb0 rfl)
    clear hb0 hb1
    go_wp2
    exact intq' (H.out _ d1) e.out
  | true =>
    have e := Lib.hid (hb1 rfl)
    clear hb0 hb1
    go_wp2
    exact intq' (H.out _ d1) e.out
end Go.Proofs.YtdjdagcgodpgdaaGreat
