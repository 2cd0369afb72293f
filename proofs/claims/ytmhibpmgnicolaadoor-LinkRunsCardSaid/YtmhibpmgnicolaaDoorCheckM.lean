/-
  Check: whether a message may be.
-/
import Derived.Test.YtmhibpmgnicolaaDoorRest
import Derived.Test.YtmhibpmgnicolaaDoorMSame
namespace Go.Proofs.YtmhibpmgnicolaaDoor
open Go.RowKit
attribute [local go_sem] Dr.upT

/-- a whole message is loaded, in a region that draws -/
theorem wpT_msg {ops : Array Oper} {K : Act → World → Prop} {w0 : World} {j : Nat} {o : Oper} {rest : List Oper} {fr : (Nat → Value) → Act} {F : Nat → (Nat → Value) → World → Prop} (x : Operand) (b : Nat) (CS : Array Value)
    (ho : o.op = .load 45 x) (hx : ∀ u, (fr u).eval x = .pointer (some ⟨b, 0, none⟩)) (hB : ∀ w, Ge w0 w → Bx w b 45 CS) (hs : CS.size = 19) (hw : ∀ u, Region.wanted o (yielded ops (fr u).tmps) = true)
    (h2 : Dr.wpT Tryd.prog ops K w0 (j + 1) rest (fun u => (fr u).put o.dst (.agg CS)) (fun k u w => if k = j then True else F k u w)) :
    Dr.wpT Tryd.prog ops K w0 j (o :: rest) fr F := by
  refine Dr.wpT_det (.agg CS) (fun u w hg _ => ?_) h2
  rw [if_pos (hw u)]
  have hl := run_loadVar_row (P := Tryd.prog) w b 45 45 CS (0, 0) _ (hB w hg) Tryd.underlying45 rfl (by rw [hs]; exact i45)
  unfold execOp
  simp only [ho, hx, Instr.loadAt, Instr.sureAddr, Sem.run_bind, Sem.run_pure, Result.andThen_ok, hl]
  exact ⟨Ge.refl _, rfl⟩

theorem small_rest {m : Msg} (h : Small m) : Small (restM m).1 := by
  have z : ∀ n ∈ ([] : List Nod), n.ins.length ≤ 1000000 := fun _ h => by cases h
  unfold restM
  repeat' split
  all_goals first
    | exact h
    | exact ⟨Nat.zero_le _, h.c, h.d, h.p, h.n, h.mv, h.e⟩
    | exact ⟨h.r, Nat.zero_le _, h.d, h.p, h.n, h.mv, h.e⟩
    | exact ⟨h.r, h.c, Nat.zero_le _, Nat.zero_le _, z, Nat.zero_le _, h.e⟩
    | exact ⟨h.r, h.c, h.d, h.p, h.n, h.mv, Nat.zero_le _⟩

set_option maxRecDepth 100000 in
set_option maxHeartbeats 16000000 in
theorem check_msg {B : Nat} {w : World} (hT : Tabs w) {s : Sls} {m : Msg} (h : SlAt B w s m) (hs : Small m) (hB : B ≤ w.heap.size) :
    Calls Tryd.prog 25 #[.agg (encG m s).toArray] w fun e w' => e = .returned (.int .i64 (chkM m)) ∧ Ge w w' := by
  have hv : (encG m s).toArray[1]? = some (.int .i64 m.ver) := rfl
  have HBA := Lib.hid (fun w' => bare_any (w := w') s m)
  have HRE := Lib.hid (fun w' (g : Ge w w') => rest_any (hT.ge g) (h.ge g) hs (Nat.le_trans hB g.size))
  unfold RestOut at HRE
  have hsr := small_rest hs
  have HSA := Lib.hid (fun s' w' (g : SlAt B w' s' (restM m).1) => same g (nilS_at B w' m) hsr)
  have hch : chkM m = if (restM m).2 = true ∧ 0 ≤ m.ver ∧ (restM m).1 = bareM m then 0 else 130 := rfl
  rw [hch]
  have hCS : (encG m s).toArray.size = 19 := rfl
  have hCB : (encG (bareM m) nilS).toArray.size = 19 := rfl
  clear h hT hs hsr hch
  generalize (encG m s).toArray = CS at *
  generalize (encG (bareM m) nilS).toArray = CB at *
  generalize m.ver = ver at *
  generalize (restM m).2 = rq at *
  generalize hqq : (if rq = true ∧ 0 ≤ ver ∧ (restM m).1 = bareM m then (0 : Int) else 130) = qq
  have HQQ := Lib.hid hqq
  have HCS := Lib.hid hCS
  have HIC := Lib.hid (show (Tryd.prog.info? 45).map (·.size) = some CS.size by rw [hCS]; exact i45)
  obtain ⟨W2, hW2⟩ : ∃ x, x = w.alloc (.cells CS 45) := ⟨_, rfl⟩
  have X0 : Bx W2 w.heap.size 45 CS := by rw [hW2]; exact Bx.new w 45 _ rfl
  have GW := Lib.hid (show Ge w W2 by rw [hW2]; exact (Ge.refl w).alloc _)
  have HX0 := Lib.hid X0
  clear hqq hCS X0 hCB
  go_enter Tryd.func25, Tryd.ntmps25
  go_upto_region 1 with (fail)
  rw [← hW2]
  clear hW2
  go_wp2_with (refine wpList_load_row (by rfl) 45 (.tmp 1) (by rfl) w.heap.size (by rfl) 45 CS (0, 0) _ HX0.out Tryd.underlying45 rfl HIC.out ?_)
  refine (HRE.out _ GW.out).mono ?_
  rintro e w3 ⟨s', rfl, hsl, hg3⟩
  have hCE : (encG (restM m).1 s').toArray.size = 19 := rfl
  have HS3 := Lib.hid (fun w' (g : Ge w3 w') => HSA.out s' w' (hsl.ge g))
  have hone : (encG (restM m).1 s').toArray.all (fun v => v.oneCell') = true := by
    obtain ⟨A1, c1, e1⟩ := hsl.r.form
    obtain ⟨A2, c2, e2⟩ := hsl.c.form
    obtain ⟨A3, c3, e3⟩ := hsl.d.form
    obtain ⟨A4, c4, e4⟩ := hsl.p.form
    obtain ⟨A5, c5, e5⟩ := hsl.mv.form
    obtain ⟨A6, c6, e6⟩ := hsl.e.form
    simp [encG, e1, e2, e3, e4, e5, e6, Value.oneCell']
  have HG3 := Lib.hid hg3
  have HX3 := Lib.hid (HX0.out.ge hg3)
  generalize (encG (restM m).1 s').toArray = CE at *
  obtain ⟨W4, hW4⟩ : ∃ x, x = w3.alloc (.cells #[.int .i64 0, .int .i64 0, .int .i64 0, .int .i64 0, .int .i64 0, .int .i64 0, .int .i64 0, .int .i64 0, .int .i64 0, .int .i64 0, .slice none 0 0, .slice none 0 0, .slice none 0 0, .slice none 0 0, .slice none 0 0, .int .i64 0, .slice none 0 0, .bool false, .int .i64 0] 45) := ⟨_, rfl⟩
  have Z4 : Bx W4 w3.heap.size 45 #[.int .i64 0, .int .i64 0, .int .i64 0, .int .i64 0, .int .i64 0, .int .i64 0, .int .i64 0, .int .i64 0, .int .i64 0, .int .i64 0, .slice none 0 0, .slice none 0 0, .slice none 0 0, .slice none 0 0, .slice none 0 0, .int .i64 0, .slice none 0 0, .bool false, .int .i64 0] := by rw [hW4]; exact Bx.new w3 45 _ rfl
  have HZ4 := Lib.hid Z4
  have HG4 := Lib.hid (show Ge w3 W4 by rw [hW4]; exact (Ge.refl _).alloc _)
  have HTH := Lib.hid (show W4.there w3.heap.size 0 CE.size from by rw [hCE]; exact Z4.there)
  have HIE := Lib.hid (show (Tryd.prog.info? 45).map (·.size) = some CE.size by rw [hCE]; exact i45)
  have HONE := Lib.hid hone
  have HCE := Lib.hid hCE
  have HW4 := Lib.hid hW4
  clear hsl hg3 hone Z4 hCE hW4
  go_wp2_with (rw [← HW4.out]; refine wpList_store_mid (by rfl) 45 (.tmp 3) (.tmp 8) (by rfl) w3.heap.size 0 CE (by rfl) (by rfl) HTH.out HIE.out HONE.out ?_; generalize hW5 : W4.setCells w3.heap.size 0 CE.toList = W5; have HW5 := Lib.hid hW5; clear hW5)
  have X5 : Bx W5 w.heap.size 45 CS := by
    rw [← HW5.out]
    exact Bx.sets_ne (by have := HX3.out.lt; omega) _ _ (HX3.out.ge HG4.out)
  have Z5 : Bx W5 w3.heap.size 45 CE := by
    have := HZ4.out.fill CE.toList (by rw [Array.length_toList, HCE.out]; rfl)
    rw [HW5.out] at this
    exact this
  have G35 : Ge w3 W5 := by rw [← HW5.out]; exact below_sets (Nat.le_refl _) _ _ _ HG4.out
  have HX5 := Lib.hid X5
  have HZ5 := Lib.hid Z5
  have HG35 := Lib.hid G35
  have GW5 := Lib.hid ((GW.out.trans HG3.out).trans G35)
  have HC0 := Lib.hid (fun w7 (g : Ge W5 w7) => show w7.cell? ⟨w.heap.size, 1, none⟩ = some (.int .i64 ver) from ((X5.ge g).cell 1).trans hv)
  clear X5 Z5 G35
  rcases rq with _ | _
  · have RES := Lib.hid (show qq = 130 by rw [← HQQ.out]; simp)
    refine Dr.wp_region_T (by kernel_rfl) (by kernel_rfl) ?_
    iterate 14 (apply Dr.wpT_det; · (intro u w7 hw hF; clear hF; have k0 := HC0.out w7 hw; go_simp; first | exact ⟨Ge.refl _, rfl⟩ | exact Ge.refl _ | rfl))
    intro u w7 hw hF
    clear hF
    have G7 := Lib.hid (GW5.out.trans hw)
    clear hw
    simp only [Act.put, List.setIfInBounds_toArray, List.set_cons_zero, List.set_cons_succ]
    go_wp2
    go_returns
    exact ⟨by rw [RES.out]; rfl, G7.out⟩
  by_cases hver : ver < 0
  · have RES := Lib.hid (show qq = 130 by rw [← HQQ.out, if_neg (by omega)])
    have u1 : decide (ver < 0) = true := decide_eq_true hver
    clear hver
    refine Dr.wp_region_T (by kernel_rfl) (by kernel_rfl) ?_
    iterate 14 (apply Dr.wpT_det; · (intro u w7 hw hF; clear hF; have k0 := HC0.out w7 hw; go_simp; first | exact ⟨Ge.refl _, rfl⟩ | exact Ge.refl _ | rfl))
    intro u w7 hw hF
    clear hF
    have G7 := Lib.hid (GW5.out.trans hw)
    clear hw
    simp only [Act.put, List.setIfInBounds_toArray, List.set_cons_zero, List.set_cons_succ]
    go_wp2
    go_returns
    exact ⟨by rw [RES.out]; rfl, G7.out⟩
  have u1 : decide (ver < 0) = false := decide_eq_false hver
  have HV := Lib.hid hver
  clear hver
  rcases hd : decide ((restM m).1 = bareM m) with _ | _
  · have RES := Lib.hid (show qq = 130 by rw [← HQQ.out]; have h1 := of_decide_eq_false hd; have h2 := HV.out; simp [h1])
    have HD := Lib.hid hd
    clear hd
    rw [HD.out] at HS3
    refine Dr.wp_region_T (by kernel_rfl) (by kernel_rfl) ?_
    iterate 8 (apply Dr.wpT_det; · (intro u w7 hw hF; clear hF; have k0 := HC0.out w7 hw; go_simp; first | exact ⟨Ge.refl _, rfl⟩ | exact Ge.refl _ | rfl))
    refine wpT_msg (.tmp 3) w3.heap.size CE (by rfl) (by intro u; go_simp) (fun _ g => HZ5.out.ge g) HCE.out (by intro u; go_simp) ?_
    refine wpT_msg (.tmp 1) w.heap.size CS (by rfl) (by intro u; go_simp) (fun _ g => HX5.out.ge g) HCS.out (by intro u; go_simp) ?_
    refine Dr.wpT_det (.agg CB) ?_ ?_
    · intro u w7 hw hF
      clear hF
      go_simp
      exact HBA.out w7
    refine Dr.wpT_det (.bool false) ?_ ?_
    · intro u w7 hw hF
      clear hF
      go_simp
      exact HS3.out w7 (HG35.out.trans hw)
    iterate 2 (apply Dr.wpT_det; · (intro u w7 hw hF; clear hF; have k0 := HC0.out w7 hw; go_simp; first | exact ⟨Ge.refl _, rfl⟩ | exact Ge.refl _ | rfl))
    intro u w7 hw hF
    clear hF
    have G7 := Lib.hid (GW5.out.trans hw)
    clear hw
    simp only [Act.put, List.setIfInBounds_toArray, List.set_cons_zero, List.set_cons_succ]
    go_wp2
    go_returns
    exact ⟨by rw [RES.out]; rfl, G7.out⟩
  · have RES := Lib.hid (show qq = 0 by rw [← HQQ.out]; have h1 := of_decide_eq_true hd; have h2 := HV.out; rw [if_pos ⟨rfl, by omega, h1⟩])
    have HD := Lib.hid hd
    clear hd
    rw [HD.out] at HS3
    refine Dr.wp_region_T (by kernel_rfl) (by kernel_rfl) ?_
    iterate 8 (apply Dr.wpT_det; · (intro u w7 hw hF; clear hF; have k0 := HC0.out w7 hw; go_simp; first | exact ⟨Ge.refl _, rfl⟩ | exact Ge.refl _ | rfl))
    refine wpT_msg (.tmp 3) w3.heap.size CE (by rfl) (by intro u; go_simp) (fun _ g => HZ5.out.ge g) HCE.out (by intro u; go_simp) ?_
    refine wpT_msg (.tmp 1) w.heap.size CS (by rfl) (by intro u; go_simp) (fun _ g => HX5.out.ge g) HCS.out (by intro u; go_simp) ?_
    refine Dr.wpT_det (.agg CB) ?_ ?_
    · intro u w7 hw hF
      clear hF
      go_simp
      exact HBA.out w7
    refine Dr.wpT_det (.bool true) ?_ ?_
    · intro u w7 hw hF
      clear hF
      go_simp
      exact HS3.out w7 (HG35.out.trans hw)
    iterate 2 (apply Dr.wpT_det; · (intro u w7 hw hF; clear hF; have k0 := HC0.out w7 hw; go_simp; first | exact ⟨Ge.refl _, rfl⟩ | exact Ge.refl _ | rfl))
    intro u w7 hw hF
    clear hF
    have G7 := Lib.hid (GW5.out.trans hw)
    clear hw
    simp only [Act.put, List.setIfInBounds_toArray, List.set_cons_zero, List.set_cons_succ]
    go_wp2
    go_returns
    exact ⟨by rw [RES.out]; rfl, G7.out⟩
end Go.Proofs.YtmhibpmgnicolaaDoor
