/-
  Keys, the iterator: what it answers.
-/
import Derived.Test.YtidblliobkjeeaaDoorRVals
import Derived.Test.YtidblliobkjeeaaDoorDrawIn
namespace Go.Proofs.YtidblliobkjeeaaDoor
open Go.RowKit Go.Shelf

attribute [local go_sem] Oper.semAt_some Dr.upT

theorem keysL_snoc (worker workers : Int) (pre : List Rc) (x : Rc) :
    keysL worker workers (pre ++ [x]) = if keyC worker workers (keysL worker workers pre) x.1 = true then keysL worker workers pre ++ [x.1] else keysL worker workers pre := by
  unfold keysL
  rw [List.foldl_append]
  rfl
theorem keysL_len' (worker workers : Int) (rs : List Rc) : (keysL worker workers rs).length ≤ rs.length := by
  have := keysL_len worker workers rs rs.length
  rwa [List.take_length] at this
theorem Ge.others {a b : World} (h : Ge a b) : KeepsOthers a b := ⟨h.size, fun k _ hk _ => (h.block k (Array.getElem?_eq_some_iff.1 hk).1).trans hk⟩

set_option maxRecDepth 100000 in
set_option maxHeartbeats 8000000 in
theorem keysf_any {w : World} (worker workers : Int) {v : Value} {rs : List Rc} (hv : RecsAt w v rs) (hl : rs.length ≤ 1000000) :
    Calls Tryd.prog 24 #[.int .i64 worker, .int .i64 workers, v] w fun e w' => ∃ (Bt : Nat) (v' : Value), e = .returned (.func (.func 41) #[] #[.pointer (some ⟨Bt, 0, none⟩)]) ∧ Boxed w' Bt 50 v' ∧ IntsAt w' v' (keysL worker workers rs) ∧ Ge w w' := by
  obtain ⟨A, cap, rfl, hle, hcc⟩ := id hv
  obtain ⟨wa, hwa⟩ : ∃ wa, wa = ((w.alloc (.cells #[.int .i64 worker] 3)).alloc (.cells #[.int .i64 workers] 3)).alloc (.cells #[.slice none 0 0] 50) := ⟨_, rfl⟩
  have hga : Ge w wa := by rw [hwa]; exact (((Ge.refl w).alloc _).alloc _).alloc _
  have hsa : wa.heap.size = w.heap.size + 3 := by rw [hwa]; simp
  have hP0 : Boxed wa w.heap.size 3 (.int .i64 worker) := by rw [hwa]; exact ((Boxed.new w 3 _).alloc _).alloc _
  have hM0 : Boxed wa (w.heap.size + 1) 3 (.int .i64 workers) := by
    rw [hwa]
    have := (Boxed.new (w.alloc (.cells #[.int .i64 worker] 3)) 3 (.int .i64 workers)).alloc (.cells #[.slice none 0 0] 50)
    simpa using this
  have hX0 : Boxed wa (w.heap.size + 2) 50 (.slice none 0 0) := by
    rw [hwa]
    have := Boxed.new ((w.alloc (.cells #[.int .i64 worker] 3)).alloc (.cells #[.int .i64 workers] 3)) 50 (.slice none 0 0)
    simpa using this
  have hR0 : Boxed (wa.alloc (.cells #[.slice A rs.length cap] 28)) (w.heap.size + 3) 28 (.slice A rs.length cap) := by
    have := Boxed.new wa 28 (.slice A rs.length cap)
    rwa [hsa] at this
  have HF := Lib.hid (rvals_seq 2 (by omega) (w.heap.size + 3) w (wa.alloc (.cells #[.slice A rs.length cap] 28)) (hga.alloc _) (.slice A rs.length cap) rs hR0 w.heap.size (Nat.le_refl _) (by simp; omega) hv hl)
  have HG0 := Lib.hid (hga.alloc (.cells #[.slice A rs.length cap] 28))
  have HX0 := Lib.hid (hX0.alloc (.cells #[.slice A rs.length cap] 28))
  have HM0 := Lib.hid (hM0.alloc (.cells #[.slice A rs.length cap] 28))
  have HP0 := Lib.hid (hP0.alloc (.cells #[.slice A rs.length cap] 28))
  have HSA := Lib.hid hsa
  have HV := Lib.hid (rvals_in 2 A rs.length cap wa)
  clear hv hcc hga hX0 hM0 hP0 hR0
  refine (callsIn_wide (n := 3)).1 ?_
  refine callsIn_of_wp_marks Tryd.func24 rfl trivial ?_ rfl
  simp only [Tryd.ntmps24, List.size_toArray, List.length_cons, List.length_nil, Nat.reduceAdd, Nat.reduceSub, Array.replicate_succ, Array.replicate_zero, List.push_toArray, List.append_toArray, List.nil_append, List.cons_append]
  have HWA := Lib.hid hwa
  clear hwa hsa
  gi_wp2_with fail
  rw [← HWA.out]
  refine ⟨trivial, HV.out.mono ?_⟩
  rintro e w0 ⟨rfl, rfl⟩
  rw [HSA.out]
  gi_wp2_with fail
  refine wpIn_rangeFunc_ownH rfl (by omega) (gf := 39) (lb := #[.pointer (some ⟨w.heap.size + 3, 0, none⟩)]) rfl trivial (enters_of Tryd.func39 (by kernel_rfl) rfl) HF.out
    (fun h k => Below.trans h k) (fun W l o o' hl h1 h2 h3 => belowK_b (by have := HSA.out; simp; omega) W l o o' hl h1 h2 h3) (Below.refl _ _) (fun _ => rfl)
    (fun pre W => ((((∃ v, Boxed W (w.heap.size + 2) 50 v ∧ W.ownsRow (w.heap.size + 2) 2 1 v (keysL worker workers pre).length ((keysL worker workers pre).map (Value.int .i64)) ∧ True) ∧ Boxed W w.heap.size 3 (.int .i64 worker)) ∧ Boxed W (w.heap.size + 1) 3 (.int .i64 workers)) ∧ w.heap.size + 4 ≤ W.heap.size) ∧ Below w.heap.size w W)
    (fun _ _ _ => False)
    (OwnFrom.and (OwnFrom.and (OwnFrom.and (OwnFrom.and (Own.from (holdsRow_own (w.heap.size + 2) (w.heap.size + 2) 50 2 1 (fun pre : List Rc => (keysL worker workers pre).length) (fun pre => (keysL worker workers pre).map (Value.int .i64)) (fun _ _ => True)) _) (Own.from (boxed_own w.heap.size 3 (fun _ : List Rc => .int .i64 worker)) _)) (Own.from (boxed_own (w.heap.size + 1) 3 (fun _ : List Rc => .int .i64 workers)) _)) (fun _ _ _ _ hs hg _ => Nat.le_trans hs hg.size)) (ownFrom_below (Nat.le_refl _) (by have := HSA.out; simp; omega)))
    (fun c _ _ _ _ hs _ _ => hs)
    ⟨⟨⟨⟨⟨_, HX0.out, World.ownsRow_nil _ _ _ _, trivial⟩, HP0.out⟩, HM0.out⟩, by have := HSA.out; simp; omega⟩, HG0.out⟩
    (fun x a' W => ∃ bx, w.heap.size + 3 < bx ∧ Bx W bx 32 #[.int .i64 x.1, .string x.2] ∧ a' = { tmps := #[.int .i64 worker, .int .i64 workers, .slice A rs.length cap, .pointer (some ⟨w.heap.size, 0, none⟩), .pointer (some ⟨w.heap.size + 1, 0, none⟩), undef, .nilFunc, .pointer (some ⟨w.heap.size + 1 + 1, 0, none⟩), .pointer (some ⟨bx, 0, none⟩), .slice A rs.length cap, .func (.func 39) #[] #[.pointer (some ⟨w.heap.size + 3, 0, none⟩)], .agg #[.int .i64 x.1, .string x.2],
      undef, undef, undef, undef, undef, undef, undef, undef, undef, undef, undef, undef, undef, undef, undef, undef, undef, undef, undef, undef, undef, undef, undef, undef, undef], defers := [] })
    (fun x a' _ X Y row hs hg hr => by
      obtain ⟨bx, e1, e2, e3⟩ := hs
      exact ⟨bx, e1, (hg.block bx e2.lt (fun e => by obtain ⟨_, o, ho, hc⟩ := hr bx e.symm; rw [show X.heap[bx]? = _ from e2] at ho; cases ho; cases hc)).trans e2, e3⟩)
    ?assign ?body ?done ?stop
  case assign =>
    rintro l pre ⟨key, s⟩ W K ⟨⟨⟨⟨⟨v, hv, hrow, -⟩, hP⟩, hM⟩, hsz⟩, hB⟩ hK
    gi_wp2
    exact hK _ _ ((KeepsOthers.alloc _ _).from _) ((Below.refl _ W).alloc hB.size _) ⟨⟨⟨⟨⟨v, hv.alloc _, hrow.alloc _, trivial⟩, hP.alloc _⟩, hM.alloc _⟩, by simp; omega⟩, hB.alloc hB.size _⟩ ⟨W.heap.size, by omega, Bx.new W 32 _ rfl, rfl⟩
  case body =>
    rintro l pre ⟨key, s⟩ a' W hlW hLr ⟨⟨⟨⟨⟨v, hv, hrow, -⟩, hP⟩, hM⟩, hsz⟩, hB⟩ ⟨bx, hbx, hX, rfl⟩ hlt
    have X1 : ∀ W', Ge W W' → W'.cell? ⟨bx, 0, none⟩ = some (.int .i64 key) := fun W' h => (hX.ge h).cell 0
    have P1 : ∀ W', Ge W W' → W'.cell? ⟨w.heap.size, 0, none⟩ = some (.int .i64 worker) := fun W' h => Boxed.cell ((h.block w.heap.size hP.lt).trans hP)
    have M1 : ∀ W', Ge W W' → W'.cell? ⟨w.heap.size + 1, 0, none⟩ = some (.int .i64 workers) := fun W' h => Boxed.cell ((h.block (w.heap.size + 1) hM.lt).trans hM)
    have V1 : ∀ W', Ge W W' → W'.cell? ⟨w.heap.size + 2, 0, none⟩ = some v := fun W' h => Boxed.cell ((h.block (w.heap.size + 2) hv.lt).trans hv)
    have I1 : ∀ W', Ge W W' → IntsAt W' v (keysL worker workers pre) := fun W' h => OwnI.intsAt (base := w.heap.size + 2) (ownsRow_ge hrow h)
    have L1 : (keysL worker workers pre).length ≤ 1000000 := by have := keysL_len' worker workers pre; omega
    have hsn := keysL_snoc worker workers pre (key, s)
    have HX1 := Lib.hid X1
    have HP1 := Lib.hid P1
    have HM1 := Lib.hid M1
    have HV1 := Lib.hid V1
    have HI1 := Lib.hid I1
    have HL1 := Lib.hid L1
    have HSN := Lib.hid hsn
    have HR := Lib.hid (show _ ∧ _ ∧ _ ∧ _ ∧ _ from ⟨hv, hrow, hP, hM, hX⟩)
    have HSZ := Lib.hid hsz
    have HB := Lib.hid hB
    clear X1 P1 M1 V1 I1 L1 hsn hv hrow hP hM hsz hB hX hLr hlW hlt
    have HA := Lib.hid (fun W' => (may_any worker workers W').mono (fun e w2 (h : _ ∧ _) => (show e = .returned (.bool (mayB worker workers)) ∧ Ge W' w2 from ⟨h.1, by rw [h.2]; exact Ge.refl _⟩)))
    have HO := Lib.hid (fun W' => (of_any key workers W').mono (fun e w2 (h : _ ∧ _) => (show e = .returned (.int .i64 (ofV key workers)) ∧ Ge W' w2 from h)))
    have HC := Lib.hid (fun W' (hw : Ge W W') => (contains_any (HI1.out W' hw) (by have := HL1.out; omega) key).mono (fun e w2 (h : _ ∧ _) => (show e = .returned (.bool (memB (keysL worker workers pre) key)) ∧ Ge W' w2 from ⟨h.1, by rw [h.2]; exact Ge.refl _⟩)))
    unfold keyC at HSN
    generalize hq1 : mayB worker workers = q1 at *
    generalize ofV key workers = o at *
    generalize hq3 : memB (keysL worker workers pre) key = q3 at *
    have key1 : ∀ W3, Ge W W3 → (q1 && (o == worker) && !q3) = false → KeepsFrom (wa.alloc (.cells #[.slice A rs.length cap] 28)).heap.size W W3 ∧ Below w.heap.size W W3 ∧ ((((∃ v, Boxed W3 (w.heap.size + 2) 50 v ∧ W3.ownsRow (w.heap.size + 2) 2 1 v (keysL worker workers (pre ++ [(key, s)])).length ((keysL worker workers (pre ++ [(key, s)])).map (Value.int .i64)) ∧ True) ∧ Boxed W3 w.heap.size 3 (.int .i64 worker)) ∧ Boxed W3 (w.heap.size + 1) 3 (.int .i64 workers)) ∧ w.heap.size + 4 ≤ W3.heap.size) ∧ Below w.heap.size w W3 := by
      intro W3 hg hk
      obtain ⟨hv, hrow, hP, hM, hX⟩ := HR.out
      have hsz := HSZ.out
      have h3 := hg.size
      rw [HSN.out, if_neg (by rw [hk]; simp)]
      exact ⟨hg.others.from _, hg.mono (by omega), ⟨⟨⟨⟨v, (hg.block _ hv.lt).trans hv, ownsRow_ge hrow hg, trivial⟩, (hg.block _ hP.lt).trans hP⟩, (hg.block _ hM.lt).trans hM⟩, by omega⟩, HB.out.trans (hg.mono (by omega))⟩
    have KEY1 := Lib.hid key1
    clear key1
    gi_wp2_with fail
    refine Dr.wpIn_region_T (w0 := W) (by kernel_rfl) (by kernel_rfl) (by kernel_rfl) ?_
    rcases q1 with _ | _
    · skip
      iterate 2 (apply Dr.wpT_det; · (intro u w3 hw hF; clear hF; have z1 := HX1.out w3 hw; have z2 := HP1.out w3 hw; have z3 := HM1.out w3 hw; have z4 := HV1.out w3 hw; go_simp; first | exact ⟨Ge.refl _, rfl⟩ | exact Ge.refl _ | rfl))
      refine Dr.wpT_det (.bool false) ?_ ?_
      · intro u w3 hw hF
        clear hF
        go_simp
        exact HA.out _
      iterate 15 (apply Dr.wpT_det; · (intro u w3 hw hF; clear hF; have z1 := HX1.out w3 hw; have z2 := HP1.out w3 hw; have z3 := HM1.out w3 hw; have z4 := HV1.out w3 hw; go_simp; first | exact ⟨Ge.refl _, rfl⟩ | exact Ge.refl _ | rfl))
      intro u w3 hw hF
      clear hF
      simp only [Act.put, List.setIfInBounds_toArray, List.set_cons_zero, List.set_cons_succ]
      have HW3 := Lib.hid hw
      clear hw
      gi_wp2
      exact KEY1.out w3 HW3.out (by simp)
    by_cases hoq : o = worker
    rotate_left
    · have hoq2 : (o == worker) = false := by simpa using hoq
      iterate 2 (apply Dr.wpT_det; · (intro u w3 hw hF; clear hF; have z1 := HX1.out w3 hw; have z2 := HP1.out w3 hw; have z3 := HM1.out w3 hw; have z4 := HV1.out w3 hw; go_simp; first | exact ⟨Ge.refl _, rfl⟩ | exact Ge.refl _ | rfl))
      refine Dr.wpT_det (.bool true) ?_ ?_
      · intro u w3 hw hF
        clear hF
        go_simp
        exact HA.out _
      iterate 4 (apply Dr.wpT_det; · (intro u w3 hw hF; clear hF; have z1 := HX1.out w3 hw; have z2 := HP1.out w3 hw; have z3 := HM1.out w3 hw; have z4 := HV1.out w3 hw; go_simp; first | exact ⟨Ge.refl _, rfl⟩ | exact Ge.refl _ | rfl))
      refine Dr.wpT_det (.int .i64 o) ?_ ?_
      · intro u w3 hw hF
        clear hF
        go_simp
        exact HO.out _
      iterate 10 (apply Dr.wpT_det; · (intro u w3 hw hF; clear hF; have z1 := HX1.out w3 hw; have z2 := HP1.out w3 hw; have z3 := HM1.out w3 hw; have z4 := HV1.out w3 hw; go_simp; first | exact ⟨Ge.refl _, rfl⟩ | exact Ge.refl _ | rfl))
      intro u w3 hw hF
      clear hF
      simp only [Act.put, List.setIfInBounds_toArray, List.set_cons_zero, List.set_cons_succ]
      have HW3 := Lib.hid hw
      clear hw
      gi_wp2
      exact KEY1.out w3 HW3.out (by simp [hoq])
    subst hoq
    have hoq2 : (o == o) = true := by simp
    rcases q3 with _ | _
    rotate_left
    · skip
      iterate 2 (apply Dr.wpT_det; · (intro u w3 hw hF; clear hF; have z1 := HX1.out w3 hw; have z2 := HP1.out w3 hw; have z3 := HM1.out w3 hw; have z4 := HV1.out w3 hw; go_simp; first | exact ⟨Ge.refl _, rfl⟩ | exact Ge.refl _ | rfl))
      refine Dr.wpT_det (.bool true) ?_ ?_
      · intro u w3 hw hF
        clear hF
        go_simp
        exact HA.out _
      iterate 4 (apply Dr.wpT_det; · (intro u w3 hw hF; clear hF; have z1 := HX1.out w3 hw; have z2 := HP1.out w3 hw; have z3 := HM1.out w3 hw; have z4 := HV1.out w3 hw; go_simp; first | exact ⟨Ge.refl _, rfl⟩ | exact Ge.refl _ | rfl))
      refine Dr.wpT_det (.int .i64 o) ?_ ?_
      · intro u w3 hw hF
        clear hF
        go_simp
        exact HO.out _
      iterate 7 (apply Dr.wpT_det; · (intro u w3 hw hF; clear hF; have z1 := HX1.out w3 hw; have z2 := HP1.out w3 hw; have z3 := HM1.out w3 hw; have z4 := HV1.out w3 hw; go_simp; first | exact ⟨Ge.refl _, rfl⟩ | exact Ge.refl _ | rfl))
      refine Dr.wpT_det (.bool true) ?_ ?_
      · intro u w3 hw hF
        clear hF
        go_simp
        exact HC.out _ hw
      iterate 2 (apply Dr.wpT_det; · (intro u w3 hw hF; clear hF; have z1 := HX1.out w3 hw; have z2 := HP1.out w3 hw; have z3 := HM1.out w3 hw; have z4 := HV1.out w3 hw; go_simp; first | exact ⟨Ge.refl _, rfl⟩ | exact Ge.refl _ | rfl))
      intro u w3 hw hF
      clear hF
      simp only [Act.put, List.setIfInBounds_toArray, List.set_cons_zero, List.set_cons_succ]
      have HW3 := Lib.hid hw
      clear hw
      gi_wp2
      exact KEY1.out w3 HW3.out (by simp)
    · skip
      iterate 2 (apply Dr.wpT_det; · (intro u w3 hw hF; clear hF; have z1 := HX1.out w3 hw; have z2 := HP1.out w3 hw; have z3 := HM1.out w3 hw; have z4 := HV1.out w3 hw; go_simp; first | exact ⟨Ge.refl _, rfl⟩ | exact Ge.refl _ | rfl))
      refine Dr.wpT_det (.bool true) ?_ ?_
      · intro u w3 hw hF
        clear hF
        go_simp
        exact HA.out _
      iterate 4 (apply Dr.wpT_det; · (intro u w3 hw hF; clear hF; have z1 := HX1.out w3 hw; have z2 := HP1.out w3 hw; have z3 := HM1.out w3 hw; have z4 := HV1.out w3 hw; go_simp; first | exact ⟨Ge.refl _, rfl⟩ | exact Ge.refl _ | rfl))
      refine Dr.wpT_det (.int .i64 o) ?_ ?_
      · intro u w3 hw hF
        clear hF
        go_simp
        exact HO.out _
      iterate 7 (apply Dr.wpT_det; · (intro u w3 hw hF; clear hF; have z1 := HX1.out w3 hw; have z2 := HP1.out w3 hw; have z3 := HM1.out w3 hw; have z4 := HV1.out w3 hw; go_simp; first | exact ⟨Ge.refl _, rfl⟩ | exact Ge.refl _ | rfl))
      refine Dr.wpT_det (.bool false) ?_ ?_
      · intro u w3 hw hF
        clear hF
        go_simp
        exact HC.out _ hw
      iterate 2 (apply Dr.wpT_det; · (intro u w3 hw hF; clear hF; have z1 := HX1.out w3 hw; have z2 := HP1.out w3 hw; have z3 := HM1.out w3 hw; have z4 := HV1.out w3 hw; go_simp; first | exact ⟨Ge.refl _, rfl⟩ | exact Ge.refl _ | rfl))
      intro u w3 hw hF
      clear hF
      simp only [Act.put, List.setIfInBounds_toArray, List.set_cons_zero, List.set_cons_succ]
      have HW3 := Lib.hid hw
      clear hw
      obtain ⟨hv0, hrow0, hP0, hM0, hX0⟩ := HR.out
      have hw := HW3.out
      have hv : Boxed w3 (w.heap.size + 2) 50 v := (hw.block _ hv0.lt).trans hv0
      have hrow := ownsRow_ge hrow0 hw
      have hX := hX0.ge hw
      have hcx := hX.cell 0
      have hcl := hv.cell
      have hlv := hv.lt
      have hP : Boxed w3 w.heap.size 3 (.int .i64 o) := (hw.block _ hP0.lt).trans hP0
      have hM : Boxed w3 (w.heap.size + 1) 3 (.int .i64 workers) := (hw.block _ hM0.lt).trans hM0
      have hL := HL1.out
      have hsn := HSN.out
      rw [if_pos (by simp)] at hsn
      have hs3 := hw.size
      have hszz := HSZ.out
      have hbb := HB.out
      generalize keysL o workers pre = ks at *
      obtain ⟨A2, cap2, hvv⟩ : ∃ A cap, v = .slice A ks.length cap := by
        rcases hrow.2 with ⟨rfl, hn⟩ | ⟨g, cap, cur, rfl, _⟩
        · exact ⟨none, 0, by rw [hn]⟩
        · exact ⟨_, cap, rfl⟩
      subst hvv
      obtain ⟨i0, hi, hz0, hz1, hz2⟩ := info_parts info2
      have kkk : ∀ (v' : Value) (w1 : World),
          w1.ownsRow (w.heap.size + 2) 2 1 v' (ks.length + 1) (ks.map (Value.int .i64) ++ [.int .i64 key]) → (w3.alloc (.cells #[.int .i64 key] 2)).grownBy w1 (Value.slice A2 ks.length cap2).ownBlock →
          w1.cell? ⟨w.heap.size + 2, 0, none⟩ = some (.slice A2 ks.length cap2) ∧ w1.frozen? ⟨w.heap.size + 2, 0, none⟩ = false ∧
          (KeepsFrom (wa.alloc (.cells #[.slice A rs.length cap] 28)).heap.size W (w1.setCell ⟨w.heap.size + 2, 0, none⟩ v') ∧ Below w.heap.size W (w1.setCell ⟨w.heap.size + 2, 0, none⟩ v') ∧
          ((((∃ v, Boxed (w1.setCell ⟨w.heap.size + 2, 0, none⟩ v') (w.heap.size + 2) 50 v ∧ (w1.setCell ⟨w.heap.size + 2, 0, none⟩ v').ownsRow (w.heap.size + 2) 2 1 v (keysL o workers (pre ++ [(key, s)])).length ((keysL o workers (pre ++ [(key, s)])).map (Value.int .i64)) ∧ True) ∧ Boxed (w1.setCell ⟨w.heap.size + 2, 0, none⟩ v') w.heap.size 3 (.int .i64 o)) ∧ Boxed (w1.setCell ⟨w.heap.size + 2, 0, none⟩ v') (w.heap.size + 1) 3 (.int .i64 workers)) ∧ w.heap.size + 4 ≤ (w1.setCell ⟨w.heap.size + 2, 0, none⟩ v').heap.size) ∧ Below w.heap.size w (w1.setCell ⟨w.heap.size + 2, 0, none⟩ v')) := by
        intro v' w1 hown hgrow
        obtain ⟨a1, a2, a3, a4, a5⟩ := hv.appended (by decide) hrow (by omega) (Nat.le_refl _) hown hgrow
        refine ⟨a1.cell, a1.frozen, (hw.others.trans a4).from _, (hw.mono (by omega)).trans (a5.mono (by omega)), ⟨⟨⟨⟨v', a2, ?_, trivial⟩, ?_⟩, ?_⟩, ?_⟩, hbb.trans ((hw.mono (by omega)).trans (a5.mono (by omega)))⟩
        · rw [hsn]; simpa using a3
        · exact (a5.block w.heap.size (by omega)).trans hP
        · exact (a5.block (w.heap.size + 1) (by omega)).trans hM
        · have := a5.size
          omega
      have hnew : ∀ (j : Nat) (u : Value), [Value.int .i64 key][j]? = some u → (w3.alloc (.cells #[.int .i64 key] 2)).cell? ((⟨w3.heap.size, 0, none⟩ : Addr).add j) = some u := by
        intro j u hu
        rcases j with _ | j
        · simp at hu
          subst hu
          rw [addr_add]
          exact (Bx.new w3 2 #[.int .i64 key] rfl).cell 0
        · simp at hu
      have KEY := Lib.hid kkk
      have HNEW := Lib.hid hnew
      have HROWS := Lib.hid (hrow.alloc (.cells #[.int .i64 key] 2))
      have C3 : w.heap.size + 2 ≤ (w3.alloc (.cells #[.int .i64 key] 2)).heap.size := by simp; omega
      have HC3 := Lib.hid C3
      clear kkk hnew hv hrow C3 hM hP hX hv0 hrow0 hP0 hM0 hX0 hw hsn hbb hszz
      gi_wp2_with (gi_at_builtin; refine wpListIn_append_own _ rfl (.tmp 30) (.tmp 33) 50 rfl (w.heap.size + 2) 2 i0 (.int .i64 0) 1 8 Tryd.underlying50 hi hz0 hz1 hz2 rfl (by decide) _ ks.length _ rfl HROWS.out ⟨w3.heap.size, 0, none⟩ 1 1 [.int .i64 key] rfl rfl HNEW.out (fun u hu => by simp at hu; rw [hu]; rfl) (by simp only [maxLen]; omega) (by omega) HC3.out ?_; intro v' w1 hown hgrow _hn; obtain ⟨k1, k2, k3⟩ := KEY.out v' w1 hown hgrow; have K3 := Lib.hid k3; obtain ⟨g', cap', rfl⟩ := ownsRow_succ hown; clear k3 hown hgrow _hn)
      exact K3.out
  case done =>
    rintro D ys W hD rfl ⟨⟨⟨⟨⟨v, hv, hrow, -⟩, hP⟩, hM⟩, hsz⟩, hB⟩ hK
    have hcl := hv.cell
    have hlv := hv.lt
    obtain ⟨A2, cap2, hvv⟩ : ∃ A cap, v = .slice A (keysL worker workers ys).length cap := by
      rcases hrow.2 with ⟨rfl, hn⟩ | ⟨g, cap, cur, rfl, _⟩
      · exact ⟨none, 0, by rw [hn]⟩
      · exact ⟨_, cap, rfl⟩
    subst hvv
    have HW := Lib.hid (vals_in 2 A2 (keysL worker workers ys).length cap2 W)
    gi_wp2_with fail
    refine ⟨trivial, HW.out.mono ?_⟩
    rintro e w9 ⟨rfl, rfl⟩
    gi_wp2
    have hK' : (W.alloc (.cells #[.slice A2 (keysL worker workers ys).length cap2] 50)).heap[D]? = some (.deferred (some [])) := by
      rw [Below.heap_alloc _ _ D (Array.getElem?_eq_some_iff.1 hK).1]; exact hK
    have hD' : w.heap.size ≤ D := by have := HSA.out; simp at hD; omega
    refine ⟨by simp, .inl ⟨_, _, rfl, run_takeDeferred hK', ?_⟩⟩
    refine ⟨_, results_tmp rfl _ _ _, W.heap.size, _, rfl, ?_, OwnI.intsAt (base := w.heap.size + 2) (ownsRow_putObj (hrow.alloc _) _ hK' rfl), (hB.alloc hB.size _).trans (belowK_b (w := w) (Nat.le_refl _) _ D _ _ hD' hK' rfl rfl)⟩
    exact (boxed_own W.heap.size 50 (fun _ : Unit => _)) () _ _ (some D) (Boxed.new W 50 _) (grownBy_putObj' _ D _) (fun r e => by cases e; exact ⟨_, hK', rfl⟩)
  case stop =>
    rintro D c pre W hD _ hf hK
    exact hf.elim
end Go.Proofs.YtidblliobkjeeaaDoor
