/-
  slices.Equal at the same numbers.
-/
import Derived.Test.YtonpoloahagddaaSeq
import Derived.Test.YtonpoloahagddaaDraw
namespace Go.Proofs.Ytonpoloahagddaa
open Go.RowKit
attribute [local go_sem] Dr.upT

set_option maxHeartbeats 4000000 in
theorem sequal_any {w : World} {a b : Value} {xs : List Int} (ha : IntsAt w a xs) (hb : IntsAt w b xs) (hl : xs.length ≤ 100000) :
    Calls Try.prog 31 #[a, b] w fun e w' => e = .returned (.bool true) ∧ Ge w w' := by
  obtain ⟨A, ca, rfl, hA⟩ := ha
  obtain ⟨B, cb, rfl, hB⟩ := hb
  have HA := Lib.hid hA
  have HB := Lib.hid hB
  clear hA hB
  have hn : ((xs.length : Int) != (xs.length : Int)) = false := by simp
  go_enter Try.func31, Try.ntmps31
  go_wp2
  go_loopw [13] (fun i wr => ∃ k : Nat, k ≤ xs.length ∧ i = .int .i64 (k : Int) ∧ Ge w wr) (fun i _ => xs.length - (intOf i).toNat)
  case atStart => exact ⟨0, by omega, rfl, Ge.refl _⟩
  case round =>
    obtain ⟨k, hk, rfl, hge⟩ := hrel
    have G := Lib.hid hge
    by_cases hlt : k < xs.length
    · obtain ⟨b1, o1, e1, hb1, hc1⟩ := HA.out (by intro e; rw [e] at hlt; simp at hlt)
      obtain ⟨b2, o2, e2, hb2, hc2⟩ := HB.out (by intro e; rw [e] at hlt; simp at hlt)
      subst e1 e2
      have H1 := Lib.hid (fun (w3 : World) (hw : Ge wr w3) => ((hge.trans hw).cell (p := ⟨b1, o1 + k, none⟩) hb1).trans (hc1 k hlt))
      have H2 := Lib.hid (fun (w3 : World) (hw : Ge wr w3) => ((hge.trans hw).cell (p := ⟨b2, o2 + k, none⟩) hb2).trans (hc2 k hlt))
      obtain ⟨x, hx⟩ : ∃ x, x = xs[k]?.getD 0 := ⟨_, rfl⟩
      rw [← hx] at H1 H2
      clear hc1 hc2 hge hx
      have i1 : (0 : Int) ≤ (k : Int) := by omega
      have i2 : (k : Int) < (xs.length : Int) := by omega
      go_wp2
      refine Dr.wp_region_T (by kernel_rfl) (by kernel_rfl) ?_
      iterate 8 (apply Dr.wpT_det; · (intro u w3 hw hF; clear hF; have kA := H1.out w3 hw; have kB := H2.out w3 hw; go_simp; first | exact ⟨Ge.refl _, rfl⟩ | exact Ge.refl _ | rfl))
      refine Dr.wpT_det (.bool false) ?_ ?_
      · intro u w3 hw hF
        clear hF
        go_simp
        first | exact Ge.refl _ | exact ⟨Ge.refl _, by simp⟩
      intro u w3 hw hF
      clear hF
      have G3 := Lib.hid (G.out.trans hw)
      clear hw
      simp only [Act.put, List.setIfInBounds_toArray, List.set_cons_zero, List.set_cons_succ]
      go_wp2
      exact ⟨⟨k + 1, by omega, by go_num, G3.out⟩, by simp [intOf]; omega⟩
    · clear hge
      go_wp2
      go_returns
      exact ⟨rfl, G.out⟩
end Go.Proofs.Ytonpoloahagddaa
