/-
  Index of a record that is there: the first place.
-/
import Derived.Test.YtidblliobkjeeaaDoorRecs
import Derived.Test.YtidblliobkjeeaaDoorDraw
import Derived.Laws.StructEq
namespace Go.Proofs.YtidblliobkjeeaaDoor
open Go.RowKit
attribute [local go_sem] Dr.upT

theorem eql32 (n m : Int) (s t : ByteArray) (w : World) : (binOp .eql 32 (.agg #[.int .i64 n, .string s]) (.agg #[.int .i64 m, .string t])).run Tryd.prog w = .ok (.bool (decide (((n, s) : Rc) = (m, t)))) w := by
  have hS : Tryd.prog.underlying 32 = some (.struct (Tryd.prog.fieldsOf 32)) := by kernel_rfl
  have hp : Tryd.prog.stoodInHeld 32 = false := by kernel_rfl
  have hb : (s.toList = t.toList) = (s = t) := by
    rw [ByteArray.toList_eq, ByteArray.toList_eq]
    refine propext ⟨fun h => ?_, fun h => by rw [h]⟩
    cases s; cases t
    simp only [ByteArray.mk.injEq]
    exact Array.toList_inj.1 h
  rw [run_eql_struct, show (10000 : Nat) = 9999 + 1 from rfl, run_equalIn_agg w 9999 32 _ _ hS hp]
  simp only [Program.fieldsOf, Tryd.underlying32]
  go_simp
  try rw [hb]
  by_cases h1 : n = m <;> by_cases h2 : s = t <;> simp [h1, h2]

set_option maxRecDepth 100000 in
set_option maxHeartbeats 8000000 in
theorem index_rec {w : World} {v : Value} {rs : List Rc} (h : RecsAt w v rs) (hl : rs.length ≤ 100000000) {r : Rc} {k : Nat} (hk : rs[k]? = some r) (hfst : ∀ j, j < k → rs[j]? ≠ some r) :
    Calls Tryd.prog 13 #[v, .agg #[.int .i64 r.1, .string r.2]] w fun e w' => e = .returned (.int .i64 (k : Int)) ∧ Ge w w' := by
  obtain ⟨rn, rt⟩ := r
  obtain ⟨A, cap, rfl, hle, hc⟩ := h
  have HC := Lib.hid hc
  have HK := Lib.hid hk
  have HF := Lib.hid hfst
  have hkl : k < rs.length := (List.getElem?_eq_some_iff.1 hk).1
  clear hc hk hfst
  go_enter Tryd.func13, Tryd.ntmps13
  go_wp2
  have XB : Bx (w.alloc (.cells #[.int .i64 rn, .string rt] 32)) w.heap.size 32 #[.int .i64 rn, .string rt] := Bx.new _ _ _ rfl
  have HX := Lib.hid XB
  clear XB
  go_loopw [8] (fun i wr => ∃ m : Nat, m ≤ k ∧ i = .int .i64 (m : Int) ∧ Ge (w.alloc (.cells #[.int .i64 rn, .string rt] 32)) wr) (fun i _ => k + 1 - (intOf i).toNat)
  case atStart => exact ⟨0, by omega, rfl, Ge.refl _⟩
  case round =>
    obtain ⟨m, hm, rfl, hge⟩ := hrel
    obtain ⟨b, off, rfl, hb, hcell⟩ := HC.out (by intro e; rw [e] at hkl; simp at hkl)
    obtain ⟨⟨mn, mt⟩, hmr⟩ : ∃ x : Rc, rs[m]? = some x := ⟨_, List.getElem?_eq_getElem (by omega)⟩
    have hx := HX.out.ge hge
    have h1 := Lib.hid (fun (w3 : World) (hw : Ge wr w3) => (hx.ge hw).cell 0)
    have h2 := Lib.hid (fun (w3 : World) (hw : Ge wr w3) => (hx.ge hw).cell 1)
    have hgw : Ge w wr := Ge.trans ((Ge.refl w).alloc _) hge
    have h3 := Lib.hid (fun (w3 : World) (hw : Ge wr w3) => ((hgw.trans hw).cell (p := ⟨b, off + m * 2, none⟩) hb).trans (hcell m _ hmr).1)
    have h4 := Lib.hid (fun (w3 : World) (hw : Ge wr w3) => ((hgw.trans hw).cell (p := ⟨b, off + m * 2 + 1, none⟩) hb).trans (hcell m _ hmr).2)
    have HG := Lib.hid hge
    have HGW := Lib.hid hgw
    have HMR := Lib.hid hmr
    have i1 : (0 : Int) ≤ (m : Int) := by omega
    have i2 : (m : Int) < (rs.length : Int) := by omega
    have he := eql32 rn mn rt mt
    clear hcell hx hge hgw hmr
    by_cases hmk : m = k
    · have hq : decide (((rn, rt) : Rc) = (mn, mt)) = true := by
        have h5 := HMR.out
        rw [hmk, HK.out] at h5
        simpa using h5
      rw [hq] at he
      clear hq
      have HMK := Lib.hid hmk
      clear hmk
      go_wp2
      refine Dr.wp_region_T (by kernel_rfl) (by kernel_rfl) ?_
      iterate 6 (apply Dr.wpT_det; · (intro u w3 hw hF; clear hF; have k1 := h1.out w3 hw; have k2 := h2.out w3 hw; have k3 := h3.out w3 hw; have k4 := h4.out w3 hw; go_simp; first | exact ⟨Ge.refl _, rfl⟩ | exact Ge.refl _ | rfl))
      intro u w3 hw hF
      clear hF
      have G3 := Lib.hid (HGW.out.trans hw)
      clear hw
      simp only [Act.put, List.setIfInBounds_toArray, List.set_cons_zero, List.set_cons_succ]
      go_wp2
      go_returns
      exact ⟨by rw [HMK.out]; rfl, G3.out⟩
    · have hq : decide (((rn, rt) : Rc) = (mn, mt)) = false := by
        have h5 := HF.out m (by omega)
        rw [HMR.out] at h5
        simpa using fun a b => h5 (by rw [a, b])
      rw [hq] at he
      clear hq
      go_wp2
      refine Dr.wp_region_T (by kernel_rfl) (by kernel_rfl) ?_
      iterate 6 (apply Dr.wpT_det; · (intro u w3 hw hF; clear hF; have k1 := h1.out w3 hw; have k2 := h2.out w3 hw; have k3 := h3.out w3 hw; have k4 := h4.out w3 hw; go_simp; first | exact ⟨Ge.refl _, rfl⟩ | exact Ge.refl _ | rfl))
      intro u w3 hw hF
      clear hF
      have G3 := Lib.hid (HG.out.trans hw)
      clear hw
      simp only [Act.put, List.setIfInBounds_toArray, List.set_cons_zero, List.set_cons_succ]
      go_wp2
      go_roundw
      case rel => exact ⟨m + 1, by omega, by go_num, G3.out⟩
      case measure => simp [intOf]; omega
end Go.Proofs.YtidblliobkjeeaaDoor
