/-
  Same at the same parcels; few.
-/
import Derived.Test.YtidblliobkjeeaaDoorRParcels
import Derived.Test.YtidblliobkjeeaaDoorDraw
import Derived.Laws.StructEq
namespace Go.Proofs.YtidblliobkjeeaaDoor
open Go.RowKit
attribute [local go_sem] Dr.upT

theorem neq32_same (n : Int) (s : ByteArray) (w : World) : (binOp .neq 32 (.agg #[.int .i64 n, .string s]) (.agg #[.int .i64 n, .string s])).run Tryd.prog w = .ok (.bool false) w := by
  have hS : Tryd.prog.underlying 32 = some (.struct (Tryd.prog.fieldsOf 32)) := by kernel_rfl
  have hp : Tryd.prog.stoodInHeld 32 = false := by kernel_rfl
  rw [run_neq_struct, show (10000 : Nat) = 9999 + 1 from rfl, run_equalIn_agg w 9999 32 _ _ hS hp]
  simp only [Program.fieldsOf, Tryd.underlying32]
  go_simp

set_option maxRecDepth 100000 in
set_option maxHeartbeats 8000000 in
theorem same_any {w : World} {a b : Value} {ps : List (Int × List Rc)} (ha : ParcelsAt w a ps) (hb : ParcelsAt w b ps) (hl : ps.length ≤ 100000000) (hl2 : ∀ p ∈ ps, p.2.length ≤ 1000000) :
    Calls Tryd.prog 17 #[a, b] w fun e w' => e = .returned (.bool true) ∧ Ge w w' := by
  obtain ⟨A, ca, ua, rfl, hlea, hula, hca, hra⟩ := ha
  obtain ⟨B, cb, ub, rfl, hleb, hulb, hcb, hrb⟩ := hb
  have HCA := Lib.hid hca
  have HCB := Lib.hid hcb
  have HRA := Lib.hid hra
  have HRB := Lib.hid hrb
  have HL2 := Lib.hid hl2
  clear hca hcb hra hrb hl2
  have hn : ((ps.length : Int) != (ps.length : Int)) = false := by simp
  go_enter Tryd.func17, Tryd.ntmps17
  go_wp2
  go_loopw [5] (fun i wr => ∃ k : Nat, k ≤ ps.length ∧ i = .int .i64 (k : Int) ∧ Ge w wr) (fun i _ => ps.length - (intOf i).toNat)
  case atStart => exact ⟨0, by omega, rfl, Ge.refl _⟩
  case round =>
    obtain ⟨k, hk, rfl, hge⟩ := hrel
    have G := Lib.hid hge
    by_cases hlt : k < ps.length
    · obtain ⟨b1, o1, e1, hb1, hc1⟩ := HCA.out (by intro e; rw [e] at hlt; simp at hlt)
      obtain ⟨b2, o2, e2, hb2, hc2⟩ := HCB.out (by intro e; rw [e] at hlt; simp at hlt)
      subst e1 e2
      obtain ⟨⟨dst, recs⟩, hpk⟩ : ∃ p : Int × List Rc, ps[k]? = some p := ⟨_, List.getElem?_eq_getElem hlt⟩
      obtain ⟨u1, hu1⟩ : ∃ u, ua[k]? = some u := ⟨_, List.getElem?_eq_getElem (by omega)⟩
      obtain ⟨u2, hu2⟩ : ∃ u, ub[k]? = some u := ⟨_, List.getElem?_eq_getElem (by omega)⟩
      have hr1 := HRA.out k _ _ hpk hu1
      have hr2 := HRB.out k _ _ hpk hu2
      obtain ⟨q1, q2⟩ := hc1 k _ _ hpk hu1
      obtain ⟨q3, q4⟩ := hc2 k _ _ hpk hu2
      dsimp only at q1 q3 hr1 hr2
      have hrl : recs.length ≤ 1000000 := HL2.out _ (List.mem_of_getElem? hpk)
      obtain ⟨A1, d1, rfl, hle1, hx1⟩ := hr1
      obtain ⟨A2, d2, rfl, hle2, hx2⟩ := hr2
      have HX1 := Lib.hid hx1
      have HX2 := Lib.hid hx2
      have H1 := Lib.hid (fun (w3 : World) (hw : Ge wr w3) => ((hge.trans hw).cell (p := ⟨b1, o1 + k * 2, none⟩) hb1).trans q1)
      have H2 := Lib.hid (fun (w3 : World) (hw : Ge wr w3) => ((hge.trans hw).cell (p := ⟨b1, o1 + k * 2 + 1, none⟩) hb1).trans q2)
      have H3 := Lib.hid (fun (w3 : World) (hw : Ge wr w3) => ((hge.trans hw).cell (p := ⟨b2, o2 + k * 2, none⟩) hb2).trans q3)
      have H4 := Lib.hid (fun (w3 : World) (hw : Ge wr w3) => ((hge.trans hw).cell (p := ⟨b2, o2 + k * 2 + 1, none⟩) hb2).trans q4)
      have i1 : (0 : Int) ≤ (k : Int) := by omega
      have i2 : (k : Int) < (ps.length : Int) := by omega
      have hn2 : ((recs.length : Int) != (recs.length : Int)) = false := by simp
      have hn3 : (dst != dst) = false := by simp
      clear hc1 hc2 hpk hu1 hu2 q1 q2 q3 q4 hx1 hx2 hge
      go_wp2
      refine Dr.wp_region_T (by kernel_rfl) (by kernel_rfl) ?_
      iterate 26 (apply Dr.wpT_det; · (intro u w3 hw hF; clear hF; have k1 := H1.out w3 hw; have k2 := H2.out w3 hw; have k3 := H3.out w3 hw; have k4 := H4.out w3 hw; go_simp; first | exact ⟨Ge.refl _, rfl⟩ | exact Ge.refl _ | rfl))
      intro u w3 hw hF
      clear hF
      have G3 := Lib.hid (G.out.trans hw)
      have HW3 := Lib.hid hw
      clear hw
      simp only [Act.put, List.setIfInBounds_toArray, List.set_cons_zero, List.set_cons_succ]
      go_wp2
      obtain ⟨wo, hwo⟩ : ∃ x, x = wr := ⟨_, rfl⟩
      subst hwo
      go_loopw [6] (fun j wr => ∃ m : Nat, m ≤ recs.length ∧ j = .int .i64 (m : Int) ∧ Ge wo wr) (fun j _ => recs.length - (intOf j).toNat)
      case atStart => exact ⟨0, by omega, rfl, HW3.out⟩
      case round =>
        obtain ⟨m, hm, rfl, hge⟩ := hrel
        have G4 := Lib.hid hge
        have k2 := H2.out _ hge
        have k4 := H4.out _ hge
        by_cases hlm : m < recs.length
        · obtain ⟨c1, p1, e1, hc1, hx1⟩ := HX1.out (by intro e; rw [e] at hlm; simp at hlm)
          obtain ⟨c2, p2, e2, hc2, hx2⟩ := HX2.out (by intro e; rw [e] at hlm; simp at hlm)
          subst e1 e2
          obtain ⟨⟨key, s⟩, hr⟩ : ∃ r : Rc, recs[m]? = some r := ⟨_, List.getElem?_eq_getElem hlm⟩
          have J1 := Lib.hid (fun (w3 : World) (hw : Ge wr w3) => (((G.out.trans hge).trans hw).cell (p := ⟨c1, p1 + m * 2, none⟩) hc1).trans (hx1 m _ hr).1)
          have J2 := Lib.hid (fun (w3 : World) (hw : Ge wr w3) => (((G.out.trans hge).trans hw).cell (p := ⟨c1, p1 + m * 2 + 1, none⟩) hc1).trans (hx1 m _ hr).2)
          have J3 := Lib.hid (fun (w3 : World) (hw : Ge wr w3) => (((G.out.trans hge).trans hw).cell (p := ⟨c2, p2 + m * 2, none⟩) hc2).trans (hx2 m _ hr).1)
          have J4 := Lib.hid (fun (w3 : World) (hw : Ge wr w3) => (((G.out.trans hge).trans hw).cell (p := ⟨c2, p2 + m * 2 + 1, none⟩) hc2).trans (hx2 m _ hr).2)
          have K2 := Lib.hid (fun (w3 : World) (hw : Ge wr w3) => H2.out _ (hge.trans hw))
          have K4 := Lib.hid (fun (w3 : World) (hw : Ge wr w3) => H4.out _ (hge.trans hw))
          have hneq := neq32_same key s
          have j1 : (0 : Int) ≤ (m : Int) := by omega
          have j2 : (m : Int) < (recs.length : Int) := by omega
          clear hx1 hx2 hr hge
          go_wp2
          clear k2 k4
          refine Dr.wp_region_T (by kernel_rfl) (by kernel_rfl) ?_
          iterate 17 (apply Dr.wpT_det; · (intro u w3 hw hF; clear hF; have z1 := J1.out w3 hw; have z2 := J2.out w3 hw; have z3 := J3.out w3 hw; have z4 := J4.out w3 hw; have z5 := K2.out w3 hw; have z6 := K4.out w3 hw; go_simp; first | exact ⟨Ge.refl _, rfl⟩ | exact Ge.refl _ | rfl))
          intro u w5 hw hF
          clear hF
          have G5 := Lib.hid (G4.out.trans hw)
          clear hw
          simp only [Act.put, List.setIfInBounds_toArray, List.set_cons_zero, List.set_cons_succ]
          go_wp2
          first
            | exact ⟨⟨m + 1, by omega, by go_num, G5.out⟩, by simp [intOf]; omega⟩
            | (go_roundw; case rel => exact ⟨m + 1, by omega, by go_num, G5.out⟩; case measure => simp [intOf]; omega)
        · have hd : decide ((m : Int) < (recs.length : Int)) = false := by simp; omega
          clear hge
          go_wp2
          go_roundw
          case rel => exact ⟨k + 1, by omega, by go_num, G.out.trans G4.out⟩
          case measure => simp [intOf]; omega
    · clear hge
      go_wp2
      go_returns
      exact ⟨rfl, G.out⟩
end Go.Proofs.YtidblliobkjeeaaDoor
