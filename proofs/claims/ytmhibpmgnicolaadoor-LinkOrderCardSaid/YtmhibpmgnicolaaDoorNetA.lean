/-
  Which link: isMade, row, link, Counts, Room.
-/
import Derived.Test.YtmhibpmgnicolaaDoorNet
import Derived.BigQuiet
namespace Go.Proofs.YtmhibpmgnicolaaDoor
open Go.RowKit

theorem made_nil {w : World} : Calls Tryd.prog 28 #[.pointer none] w fun e w' => e = .returned (.bool false) ∧ Ge w w' := by
  go_enter Tryd.func28, Tryd.ntmps28
  go_wp2
  go_returns
  exact ⟨rfl, Ge.refl _⟩
theorem made_at {w : World} {p : Nat} {k : Int} (h0 : w.cell? ⟨p, 0, none⟩ = some (.int .i64 k)) : Calls Tryd.prog 28 #[.pointer (some ⟨p, 0, none⟩)] w fun e w' => e = .returned (.bool (decide (0 < k))) ∧ Ge w w' := by
  by_cases hk : 0 < k
  · have i1 : decide (0 < k) = true := decide_eq_true hk
    rw [i1]
    go_enter Tryd.func28, Tryd.ntmps28
    go_wp2
    go_returns
    exact ⟨rfl, Ge.refl _⟩
  · have i1 : decide (0 < k) = false := decide_eq_false hk
    rw [i1]
    go_enter Tryd.func28, Tryd.ntmps28
    go_wp2
    go_returns
    exact ⟨rfl, Ge.refl _⟩

theorem Ge.drewN {a b : World} (h : Ge a b) (n : Nat) : Ge a (b.drewN n) := h.trans ⟨rfl, rfl, rfl, Nat.le_refl _, fun _ _ => rfl⟩

/-- a net that no call made -/
def NoNet (w : World) (v : Value) : Prop := v = .pointer none ∨ ∃ p, v = .pointer (some ⟨p, 0, none⟩) ∧ w.cell? ⟨p, 0, none⟩ = some (.int .i64 0)
theorem NoNet.ge {w w' : World} {v : Value} (h : NoNet w v) (g : Ge w w') : NoNet w' v := by
  rcases h with h | ⟨p, h, hc⟩
  · exact .inl h
  · exact .inr ⟨p, h, (g.cell (cell_lt hc)).trans hc⟩
theorem made_no {w : World} {v : Value} (h : NoNet w v) : Calls Tryd.prog 28 #[v] w fun e w' => e = .returned (.bool false) ∧ Ge w w' := by
  rcases h with rfl | ⟨p, rfl, hc⟩
  · exact made_nil
  · exact made_at hc
theorem made_yes {B : Nat} {w : World} {p q : Nat} {O : Nat → Option Nat} {S : Nt} {C : Array Value} (h : NetC B w p q O S C) : Calls Tryd.prog 28 #[.pointer (some ⟨p, 0, none⟩)] w fun e w' => e = .returned (.bool true) ∧ Ge w w' := by
  have := made_at (h.net.cell 0)
  rw [show decide ((0 : Int) < (S.k : Int)) = true from decide_eq_true (by have := h.ok.k1; omega)] at this
  exact this

theorem row_no {w : World} {v : Value} (h : NoNet w v) (f t : Int) : Calls Tryd.prog 43 #[v, .int .i64 f, .int .i64 t] w fun e w' => e = .returned (.pointer none) ∧ Ge w w' := by
  have HM := Lib.hid (made_no h)
  go_enter Tryd.func43, Tryd.ntmps43
  go_wp2_with fail
  refine HM.out.mono ?_
  rintro e w1 ⟨rfl, g1⟩
  have HG := Lib.hid g1
  clear g1
  go_wp2
  go_returns
  exact ⟨rfl, HG.out⟩

set_option maxHeartbeats 4000000 in
theorem row_any {B : Nat} {w : World} {p q : Nat} {O : Nat → Option Nat} {S : Nt} {C : Array Value} (h : NetC B w p q O S C) (f t : Int) :
    Calls Tryd.prog 43 #[.pointer (some ⟨p, 0, none⟩), .int .i64 f, .int .i64 t] w fun e w' => e = .returned (.pointer (rowP q (S.idx f t))) ∧ Ge w w' := by
  have HM := Lib.hid (made_yes h)
  have HN := Lib.hid (fun w' (g : Ge w w') => (h.net.ge g).cell)
  have HL := Lib.hid (fun w' (g : Ge w w') => (h.net.ge g).lt)
  have hk2 := h.ok.k2
  have hC := h.row
  have HQ := Lib.hid (fun w' (g : Ge w w') => (hC.ge g).lt)
  have hlt : ∀ (j : Nat), S.idx f t = some j → j < S.k * S.k := fun j hj => Nt.idx_lt hj
  have hdef : S.idx f t = if 0 ≤ f ∧ f < S.k ∧ 0 ≤ t ∧ t < S.k ∧ f ≠ t then some (f.toNat * S.k + t.toNat) else none := rfl
  generalize S.idx f t = r at *
  generalize S.k * S.k = kk at *
  generalize S.k = k at *
  clear h hC
  by_cases h1 : f < 0
  · have hr : r = none := by rw [hdef, if_neg (by omega)]
    subst hr
    have u1 : decide (f < 0) = true := decide_eq_true h1
    clear hlt hdef h1
    go_enter Tryd.func43, Tryd.ntmps43
    go_wp2_with fail
    refine HM.out.mono ?_
    rintro e w1 ⟨rfl, g1⟩
    have HG := Lib.hid g1
    clear g1
    go_wp2
    go_returns
    exact ⟨rfl, HG.out⟩
  have u1 : decide (f < 0) = false := decide_eq_false h1
  by_cases h2 : (k : Int) ≤ f
  · have hr : r = none := by rw [hdef, if_neg (by omega)]
    subst hr
    have u2 : decide ((k : Int) ≤ f) = true := decide_eq_true h2
    clear hlt hdef h1 h2
    go_enter Tryd.func43, Tryd.ntmps43
    go_wp2_with fail
    refine HM.out.mono ?_
    rintro e w1 ⟨rfl, g1⟩
    have HG := Lib.hid g1
    have c0 := HN.out w1 g1
    have n0 := HL.out w1 g1
    clear g1
    go_wp2
    go_returns
    exact ⟨rfl, HG.out⟩
  have u2 : decide ((k : Int) ≤ f) = false := decide_eq_false h2
  by_cases h3 : t < 0
  · have hr : r = none := by rw [hdef, if_neg (by omega)]
    subst hr
    have u3 : decide (t < 0) = true := decide_eq_true h3
    clear hlt hdef h1 h2 h3
    go_enter Tryd.func43, Tryd.ntmps43
    go_wp2_with fail
    refine HM.out.mono ?_
    rintro e w1 ⟨rfl, g1⟩
    have HG := Lib.hid g1
    have c0 := HN.out w1 g1
    have n0 := HL.out w1 g1
    clear g1
    go_wp2
    go_returns
    exact ⟨rfl, HG.out⟩
  have u3 : decide (t < 0) = false := decide_eq_false h3
  by_cases h4 : (k : Int) ≤ t
  · have hr : r = none := by rw [hdef, if_neg (by omega)]
    subst hr
    have u4 : decide ((k : Int) ≤ t) = true := decide_eq_true h4
    clear hlt hdef h1 h2 h3 h4
    go_enter Tryd.func43, Tryd.ntmps43
    go_wp2_with fail
    refine HM.out.mono ?_
    rintro e w1 ⟨rfl, g1⟩
    have HG := Lib.hid g1
    have c0 := HN.out w1 g1
    have n0 := HL.out w1 g1
    clear g1
    go_wp2
    go_returns
    exact ⟨rfl, HG.out⟩
  have u4 : decide ((k : Int) ≤ t) = false := decide_eq_false h4
  by_cases h5 : f = t
  · have hr : r = none := by rw [hdef, if_neg (by omega)]
    subst hr
    have u5 : (f == t) = true := by simpa using h5
    clear hlt hdef h1 h2 h3 h4 h5
    go_enter Tryd.func43, Tryd.ntmps43
    go_wp2_with fail
    refine HM.out.mono ?_
    rintro e w1 ⟨rfl, g1⟩
    have HG := Lib.hid g1
    have c0 := HN.out w1 g1
    have n0 := HL.out w1 g1
    clear g1
    go_wp2
    go_returns
    exact ⟨rfl, HG.out⟩
  have u5 : (f == t) = false := by simpa using h5
  rw [if_pos (by omega)] at hdef
  have hjk := hlt _ hdef
  obtain ⟨fn, rfl⟩ : ∃ fn : Nat, f = fn := ⟨f.toNat, by omega⟩
  obtain ⟨tn, rfl⟩ : ∃ tn : Nat, t = tn := ⟨t.toNat, by omega⟩
  simp only [Int.toNat_natCast] at hdef hjk
  have hfk : fn * k ≤ 16 * 16 := Nat.mul_le_mul (by omega) (by omega)
  have e1 : IntKind.i64.wrap ((fn : Int) * (k : Int)) = ((fn * k : Nat) : Int) := by
    rw [← Int.natCast_mul]
    exact IntWalk.i64_in _ (by omega)
  have e2 : IntKind.i64.wrap (((fn * k : Nat) : Int) + (tn : Int)) = ((fn * k + tn : Nat) : Int) := by
    rw [IntWalk.i64_in _ (by omega)]
    omega
  have w2 : decide (k ≤ fn) = false := decide_eq_false (by omega)
  have w4 : decide (k ≤ tn) = false := decide_eq_false (by omega)
  have i1 : (0 : Int) ≤ ((fn * k + tn : Nat) : Int) := by omega
  have i2 : ((fn * k + tn : Nat) : Int) < (kk : Int) := by omega
  generalize fn * k = fk at *
  generalize hj : fk + tn = j at *
  clear hlt h1 h2 h3 h4 h5 hfk hj hjk hk2
  subst hdef
  go_enter Tryd.func43, Tryd.ntmps43
  go_wp2_with fail
  refine HM.out.mono ?_
  rintro e w1 ⟨rfl, g1⟩
  have HG := Lib.hid g1
  have c0 := HN.out w1 g1
  have n0 := HL.out w1 g1
  have n1 := HQ.out w1 g1
  clear g1
  go_wp2
  go_quiet (fail)
  go_wp2
  go_returns
  exact ⟨rfl, HG.out.drewN _⟩
end Go.Proofs.YtmhibpmgnicolaaDoor
