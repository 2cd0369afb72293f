/-
  loops(t): what Loops goes through.
-/
import Derived.Test.YtedccllpbajbfaaText
import Derived.Test.YtedccllpbajbfaaRText
import Derived.Maps.AppendAt
namespace Go.Proofs.Ytedccllpbajbfaa
open Go.RowKit Go.Shelf

attribute [local go_sem] Oper.semAt_some

/-- the numbers count up -/
def okP (pre : List Cn) : Bool := decide (pre.map (fun x => x.1.1) = List.range pre.length)
theorem okP_snoc (pre : List Cn) (x : Cn) : okP (pre ++ [x]) = (okP pre && (x.1.1 == pre.length)) := by
  unfold okP
  rw [List.map_append, List.length_append]
  simp only [List.map_cons, List.map_nil, List.length_cons, List.length_nil, Nat.zero_add, List.range_succ]
  by_cases h1 : pre.map (fun x => x.1.1) = List.range pre.length
  · rw [h1]
    by_cases h2 : x.1.1 = pre.length
    · simp [h2]
    · simp [h2]
  · have : ¬ (pre.map (fun x => x.1.1) ++ [x.1.1] = List.range pre.length ++ [pre.length]) := by
      intro e
      exact h1 (List.append_inj_left e (by simp))
    simp [h1, this]
theorem okP_upto {t : Tm} (hc : Chk t) (d : Nat) : okP (upto (cn t hc) d) = true := by
  unfold okP
  rw [upto_length]
  simp [upto, cn, Function.comp_def]

theorem region_np {F : Fence} {n : Nat} {P : Program} {c : Code} {K : Act → World → Prop} {Q : Exit → Act → World → Prop} {a : Act} {w : World} (h : c.wpIn F n P (Exit.then K (fun _ _ _ => False)) a w) : c.wpIn F n P (Exit.then K Q) a w :=
  Code.wpIn_mono (fun e a' w' h' => by
    cases e with
    | normal => exact h'
    | _ => exact False.elim h') h

theorem nat_beq (a b : Nat) : (true && (a == b)) = ((a : Int) == (b : Int)) := by
  rw [Bool.true_and]
  by_cases h : a = b
  · subst h; simp
  · rw [beq_eq_false_iff_ne.2 h, beq_eq_false_iff_ne.2 (by omega)]

theorem lp_upto {t : Tm} (hc : Chk t) (d : Nat) (hd : t.d = (d : Int)) : lpL t = (upto (cn t hc) d).map (fun x => x.1.2) := by
  have h4 := hc.2.2.2.1
  unfold lpL
  rw [if_pos hc, hd]
  have : d = 0 ∨ d = 1 ∨ d = 2 ∨ d = 3 ∨ d = 4 := by omega
  rcases this with rfl | rfl | rfl | rfl | rfl <;> simp [upto, cn, cntAt, List.range_succ]

theorem nil49 (B : Nat) (w : World) : (binOp .eql 48 (.func (.func 49) #[] #[.pointer (some ⟨B, 0, none⟩)]) .nilFunc).run Try.prog w = .ok (.bool false) w := by kernel_rfl

set_option maxRecDepth 100000 in
set_option maxHeartbeats 4000000 in
theorem lawLoops_yes (t : Tm) (hc : Chk t) (w : World) :
    Calls Try.prog 28 #[.agg #[.int .i64 t.e, .int .i64 t.d, .int .i64 t.l0, .int .i64 t.l1, .int .i64 t.l2, .int .i64 t.l3]] w fun e w' =>
      ∃ v, e = .returned (.tuple #[v, .bool true]) ∧ IntsAt w' v (lpL t) ∧ Ge w w' := by
  have HC := Lib.hid hc
  obtain ⟨d, hd⟩ : ∃ d : Nat, t.d = (d : Int) := ⟨t.d.toNat, by have := hc.2.2.1; omega⟩
  have hd4 : d ≤ 4 := by have := hc.2.2.2.1; omega
  clear hc
  refine (callsIn_wide (n := 3)).1 ?_
  refine callsIn_of_wp_marks Try.func28 rfl trivial ?_ rfl
  simp only [Try.ntmps28, List.size_toArray, List.length_cons, List.length_nil, Nat.reduceAdd, Nat.reduceSub, Array.replicate_succ, Array.replicate_zero, List.push_toArray, List.append_toArray, List.nil_append, List.cons_append]
  have HD := Lib.hid hd
  clear hd
  have f39 : Fence.wide.fn 39 := trivial
  gi_wp2_with fail
  refine (loops_in 2 t _).mono ?_
  rintro e w2 ⟨rfl, rfl⟩
  have hnil := nil49
  gi_wp2_with fail
  have hW0 : Below w.heap.size w ((((w.alloc (.cells #[.int .i64 t.e, .int .i64 t.d, .int .i64 t.l0, .int .i64 t.l1, .int .i64 t.l2, .int .i64 t.l3] 24)).alloc (.cells #[.int .i64 t.e, .int .i64 t.d, .int .i64 t.l0, .int .i64 t.l1, .int .i64 t.l2, .int .i64 t.l3] 24)).alloc (.cells #[.slice none 0 0] 30)).alloc (.cells #[.bool true] 4)) :=
    ((((Below.refl _ w).alloc (Nat.le_refl _) _).alloc (by simp) _).alloc (by simp; omega) _).alloc (by simp; omega) _
  obtain ⟨W0, hW0e⟩ : ∃ W0, W0 = ((((w.alloc (.cells #[.int .i64 t.e, .int .i64 t.d, .int .i64 t.l0, .int .i64 t.l1, .int .i64 t.l2, .int .i64 t.l3] 24)).alloc (.cells #[.int .i64 t.e, .int .i64 t.d, .int .i64 t.l0, .int .i64 t.l1, .int .i64 t.l2, .int .i64 t.l3] 24)).alloc (.cells #[.slice none 0 0] 30)).alloc (.cells #[.bool true] 4)) := ⟨_, rfl⟩
  have hs0 : W0.heap.size = w.heap.size + 4 := by rw [hW0e]; simp
  have hcl0 : ∀ k, k < 6 → W0.cell? ⟨w.heap.size + 1, k, none⟩ = some (.int .i64 ([t.e, (d : Int), t.l0, t.l1, t.l2, t.l3][k]?.getD 0)) := by
    intro k hk
    have X : Bx W0 (w.heap.size + 1) 24 #[.int .i64 t.e, .int .i64 t.d, .int .i64 t.l0, .int .i64 t.l1, .int .i64 t.l2, .int .i64 t.l3] := by rw [hW0e]; exact ((Bx.new _ _ _ (by simp)).alloc _).alloc _
    rw [X.cell, ← HD.out]
    rcases k with _ | _ | _ | _ | _ | _ | k <;> first | rfl | omega
  have hv0 : Boxed W0 (w.heap.size + 1 + 1) 30 (.slice none 0 0) := by
    rw [hW0e]
    have h := (Boxed.new ((w.alloc (.cells #[.int .i64 t.e, .int .i64 t.d, .int .i64 t.l0, .int .i64 t.l1, .int .i64 t.l2, .int .i64 t.l3] 24)).alloc (.cells #[.int .i64 t.e, .int .i64 t.d, .int .i64 t.l0, .int .i64 t.l1, .int .i64 t.l2, .int .i64 t.l3] 24)) 30 (.slice none 0 0)).alloc (.cells #[.bool true] 4)
    simpa using h
  have hk0 : Boxed W0 (w.heap.size + 1 + 1 + 1) 4 (.bool true) := by
    rw [hW0e]
    have h := Boxed.new (((w.alloc (.cells #[.int .i64 t.e, .int .i64 t.d, .int .i64 t.l0, .int .i64 t.l1, .int .i64 t.l2, .int .i64 t.l3] 24)).alloc (.cells #[.int .i64 t.e, .int .i64 t.d, .int .i64 t.l0, .int .i64 t.l1, .int .i64 t.l2, .int .i64 t.l3] 24)).alloc (.cells #[.slice none 0 0] 30)) 4 (.bool true)
    simpa using h
  rw [← hW0e] at hW0 ⊢
  have HS0 := Lib.hid hs0
  clear hW0e hs0
  have hs0 : w.heap.size + 4 ≤ W0.heap.size := by have := HS0.out; omega
  refine wpIn_rangeFunc_ownF rfl (by omega) (gf := 49) (lb := #[.pointer (some ⟨w.heap.size + 1, 0, none⟩)]) rfl trivial (enters_of Try.func49 (by kernel_rfl) rfl)
    (loops_stops_yes 2 (by omega) (w.heap.size + 1) t d HD.out HC.out W0 (by omega) hcl0) (fun h k => KeepB.trans h k) (fun W l o o' hl h1 h2 h3 => KeepB.putObj (by omega) W l o o' hl h1 h2 h3) (Below.refl _ _) (fun _ => rfl)
    (fun pre W => (((∃ v, Boxed W (w.heap.size + 1 + 1) 30 v ∧ W.ownsRow (w.heap.size + 1 + 1) 2 1 v pre.length (pre.map fun x => Value.int .i64 x.1.2) ∧ True) ∧ Boxed W (w.heap.size + 1 + 1 + 1) 4 (.bool (okP pre))) ∧ w.heap.size + 4 ≤ W.heap.size) ∧ Below w.heap.size w W)
    (fun _ _ _ => False)
    (OwnFrom.and (OwnFrom.and (OwnFrom.and (Own.from (holdsRow_own (w.heap.size + 1 + 1) (w.heap.size + 1 + 1) 30 2 1 (fun pre : List Cn => pre.length) (fun pre => pre.map fun x => Value.int .i64 x.1.2) (fun _ _ => True)) _) (Own.from (boxOwn (w.heap.size + 1 + 1 + 1) 4 (fun pre : List Cn => .bool (okP pre))) _)) (fun _ _ _ _ hs hg _ => Nat.le_trans hs hg.size)) (ownFrom_below (Nat.le_refl _) (by omega)))
    (fun _ _ _ _ _ hs _ _ => hs)
    ⟨⟨⟨⟨_, hv0, World.ownsRow_nil _ _ _ _, trivial⟩, hk0⟩, hs0⟩, hW0⟩
    (fun x => { tmps := #[.agg #[.int .i64 t.e, .int .i64 t.d, .int .i64 t.l0, .int .i64 t.l1, .int .i64 t.l2, .int .i64 t.l3], .pointer (some ⟨w.heap.size, 0, none⟩), .slice none 0 0, .bool false, Value.func (.func 49) #[] #[.pointer (some ⟨w.heap.size + 1, 0, none⟩)], .pointer (some ⟨w.heap.size + 1 + 1, 0, none⟩), .pointer (some ⟨w.heap.size + 1 + 1 + 1, 0, none⟩), .int .i64 (x.1.1 : Int), .int .i64 x.1.2,
      .agg #[.int .i64 t.e, .int .i64 t.d, .int .i64 t.l0, .int .i64 t.l1, .int .i64 t.l2, .int .i64 t.l3], Value.func (.func 49) #[] #[.pointer (some ⟨w.heap.size + 1, 0, none⟩)], Value.func (.func 49) #[] #[.pointer (some ⟨w.heap.size + 1, 0, none⟩)], .bool false, Value.func (.func 49) #[] #[.pointer (some ⟨w.heap.size + 1, 0, none⟩)], .int .i64 (x.1.1 : Int), .int .i64 x.1.2, undef, undef, undef, undef, undef, undef, undef, undef, undef, undef, undef, undef, undef], defers := [] }) ?assign ?body ?done ?stop
  case assign =>
    intro l x W K hK
    gi_wp2
    exact hK
  case body =>
    rintro l pre x W ⟨⟨⟨⟨v, hv, hrow, -⟩, hko⟩, hszW⟩, hB⟩ hlen
    have hcl := hv.cell
    have hco := hko.cell
    have hfo := hko.frozen
    have hlv := hv.lt
    have hlo := hko.lt
    obtain ⟨A, cap, hvv⟩ : ∃ A cap, v = .slice A pre.length cap := by
      rcases hrow.2 with ⟨rfl, hn⟩ | ⟨g, cap, cur, rfl, _⟩
      · exact ⟨none, 0, by rw [hn]⟩
      · exact ⟨_, cap, rfl⟩
    subst hvv
    obtain ⟨i0, hi, hz0, hz1, hz2⟩ := info_parts info2
    have key : ∀ q : Bool, okP (pre ++ [x]) = q → ∀ (v' : Value) (w1 : World),
        w1.ownsRow (w.heap.size + 1 + 1) 2 1 v' (pre.length + 1) ((pre.map fun x => Value.int .i64 x.1.2) ++ [.int .i64 x.1.2]) → ((W.setCell ⟨w.heap.size + 1 + 1 + 1, 0, none⟩ (.bool q)).alloc (.cells #[.int .i64 x.1.2] 2)).grownBy w1 (Value.slice A pre.length cap).ownBlock →
        w1.cell? ⟨w.heap.size + 1 + 1, 0, none⟩ = some (.slice A pre.length cap) ∧ w1.frozen? ⟨w.heap.size + 1 + 1, 0, none⟩ = false ∧ KeepsOthers W (w1.setCell ⟨w.heap.size + 1 + 1, 0, none⟩ v') ∧ KeepB (w.heap.size + 1) W (w1.setCell ⟨w.heap.size + 1 + 1, 0, none⟩ v') ∧
        ((((∃ v, Boxed (w1.setCell ⟨w.heap.size + 1 + 1, 0, none⟩ v') (w.heap.size + 1 + 1) 30 v ∧ (w1.setCell ⟨w.heap.size + 1 + 1, 0, none⟩ v').ownsRow (w.heap.size + 1 + 1) 2 1 v (pre ++ [x]).length ((pre ++ [x]).map fun x => Value.int .i64 x.1.2) ∧ True) ∧ Boxed (w1.setCell ⟨w.heap.size + 1 + 1, 0, none⟩ v') (w.heap.size + 1 + 1 + 1) 4 (.bool (okP (pre ++ [x])))) ∧ w.heap.size + 4 ≤ (w1.setCell ⟨w.heap.size + 1 + 1, 0, none⟩ v').heap.size) ∧ Below w.heap.size w (w1.setCell ⟨w.heap.size + 1 + 1, 0, none⟩ v')) := by
      intro q hq v' w1 hown hgrow
      have hv1 : Boxed (W.setCell ⟨w.heap.size + 1 + 1 + 1, 0, none⟩ (.bool q)) (w.heap.size + 1 + 1) 30 (.slice A pre.length cap) := hv.other (by omega) _
      have hrow1 : (W.setCell ⟨w.heap.size + 1 + 1 + 1, 0, none⟩ (.bool q)).ownsRow (w.heap.size + 1 + 1) 2 1 (.slice A pre.length cap) pre.length (pre.map fun x => Value.int .i64 x.1.2) :=
        hrow.kept (grownBy_setCell' W (w.heap.size + 1 + 1 + 1) _) (.inr (Ne.symm (hko.not_row (by decide) hrow)))
      have hko1 : Boxed (W.setCell ⟨w.heap.size + 1 + 1 + 1, 0, none⟩ (.bool q)) (w.heap.size + 1 + 1 + 1) 4 (.bool q) := hko.set _
      have hsW : (W.setCell ⟨w.heap.size + 1 + 1 + 1, 0, none⟩ (.bool q)).heap.size = W.heap.size := by simp [World.setCell]
      obtain ⟨a1, a2, a3, a4, a5⟩ := hv1.appended (by decide) hrow1 (by rw [hsW]; omega) (Nat.le_refl _) hown hgrow
      have hko2 : Boxed w1 (w.heap.size + 1 + 1 + 1) 4 (.bool q) := (hko1.alloc _).kept hgrow (hko1.not_row (by decide) hrow1)
      have hbW : Below (w.heap.size + 1 + 1) W (W.setCell ⟨w.heap.size + 1 + 1 + 1, 0, none⟩ (.bool q)) := (Below.refl _ W).setCell (p := ⟨w.heap.size + 1 + 1 + 1, 0, none⟩) (by show w.heap.size + 1 + 1 ≤ w.heap.size + 1 + 1 + 1; omega) _
      have hbb : Below (w.heap.size + 1 + 1) W (w1.setCell ⟨w.heap.size + 1 + 1, 0, none⟩ v') := hbW.trans a5
      refine ⟨a1.cell, a1.frozen, (KeepsOthers.setCell _ _ _).trans a4, KeepB.below hbb (by omega), ⟨⟨⟨⟨v', a2, ?_, trivial⟩, ?_⟩, ?_⟩, ?_⟩⟩
      · simpa using a3
      · rw [hq]; exact hko2.other (by omega) _
      · have := a5.size
        rw [hsW] at this
        omega
      · exact hB.trans (hbb.mono (by omega))
    have hnew : ∀ (q : Bool) (j : Nat) (u : Value), [Value.int .i64 x.1.2][j]? = some u → ((W.setCell ⟨w.heap.size + 1 + 1 + 1, 0, none⟩ (.bool q)).alloc (.cells #[.int .i64 x.1.2] 2)).cell? ((⟨W.heap.size, 0, none⟩ : Addr).add j) = some u := by
      intro q j u hu
      rcases j with _ | j
      · simp at hu
        subst hu
        rw [addr_add]
        exact (Bx.new (W.setCell ⟨w.heap.size + 1 + 1 + 1, 0, none⟩ (.bool q)) 2 #[.int .i64 x.1.2] (by simp [World.setCell])).cell 0
      · simp at hu
    have hrows : ∀ q : Bool, ((W.setCell ⟨w.heap.size + 1 + 1 + 1, 0, none⟩ (.bool q)).alloc (.cells #[.int .i64 x.1.2] 2)).ownsRow (w.heap.size + 1 + 1) 2 1 (.slice A pre.length cap) pre.length (pre.map fun x => Value.int .i64 x.1.2) := fun q =>
      (hrow.kept (grownBy_setCell' W (w.heap.size + 1 + 1 + 1) _) (.inr (Ne.symm (hko.not_row (by decide) hrow)))).alloc _
    have C3 : ∀ q : Bool, w.heap.size + 1 + 1 ≤ ((W.setCell ⟨w.heap.size + 1 + 1 + 1, 0, none⟩ (.bool q)).alloc (.cells #[.int .i64 x.1.2] 2)).heap.size := fun q => by simp [World.setCell]; omega
    have KEY := Lib.hid key
    have HNEW := Lib.hid hnew
    have HROWS := Lib.hid hrows
    have HC3 := Lib.hid C3
    have HSN := Lib.hid (okP_snoc pre x)
    clear key hnew hrows C3 hv hrow hko
    cases hq : okP pre
    · rw [hq] at hco HSN
      clear hq
      gi_wp2_with (gi_at_builtin; refine wpListIn_append_own _ rfl (.tmp 23) (.tmp 25) 30 rfl (w.heap.size + 1 + 1) 2 i0 (.int .i64 0) 1 8 Try.underlying30 hi hz0 hz1 hz2 rfl (by decide) _ pre.length _ rfl (HROWS.out false) ⟨W.heap.size, 0, none⟩ 1 1 [.int .i64 x.1.2] rfl rfl (HNEW.out false) (fun u hu => by simp at hu; rw [hu]; rfl) (by simp only [maxLen]; omega) (by omega) (HC3.out false) ?_; intro v' w1 hown hgrow _hn; obtain ⟨k1, k2, k3, k4, k5⟩ := KEY.out false (by rw [HSN.out]; rfl) v' w1 hown hgrow; have K3 := Lib.hid k3; have K4 := Lib.hid k4; have K5 := Lib.hid k5; obtain ⟨g', cap', rfl⟩ := ownsRow_succ hown; clear k3 k4 k5 hown hgrow _hn)
      exact ⟨K3.out, K4.out, K5.out⟩
    · rw [hq] at hco HSN
      clear hq
      gi_wp2_with (gi_at_builtin; refine wpListIn_append_own _ rfl (.tmp 23) (.tmp 25) 30 rfl (w.heap.size + 1 + 1) 2 i0 (.int .i64 0) 1 8 Try.underlying30 hi hz0 hz1 hz2 rfl (by decide) _ pre.length _ rfl (HROWS.out ((x.1.1 : Int) == (pre.length : Int))) ⟨W.heap.size, 0, none⟩ 1 1 [.int .i64 x.1.2] rfl rfl (HNEW.out ((x.1.1 : Int) == (pre.length : Int))) (fun u hu => by simp at hu; rw [hu]; rfl) (by simp only [maxLen]; omega) (by omega) (HC3.out ((x.1.1 : Int) == (pre.length : Int))) ?_; intro v' w1 hown hgrow _hn; obtain ⟨k1, k2, k3, k4, k5⟩ := KEY.out ((x.1.1 : Int) == (pre.length : Int)) (by rw [HSN.out]; exact nat_beq _ _) v' w1 hown hgrow; have K3 := Lib.hid k3; have K4 := Lib.hid k4; have K5 := Lib.hid k5; obtain ⟨g', cap', rfl⟩ := ownsRow_succ hown; clear k3 k4 k5 hown hgrow _hn)
      exact ⟨K3.out, K4.out, K5.out⟩
  case done =>
    rintro D ys W hD rfl ⟨⟨⟨⟨v, hv, hrow, -⟩, hko⟩, hszW⟩, hB⟩ hK
    rw [okP_upto] at hko
    have hcl := hv.cell
    have hco := hko.cell
    have hmx : Try.prog.follows .mixedOrders = true := by kernel_rfl
    gi_wp2
    refine region_np ?_
    gi_region_with_o (fail)
    all_goals
      gi_wp2
      refine ⟨by simp, .inl ⟨_, _, rfl, run_takeDeferred hK, ?_⟩⟩
      refine ⟨_, results_tmp2 rfl _ _ _, v, rfl, ?_, (Below.drew hB).trans (belowK_b (w := w) (Nat.le_refl _) W.drew D _ _ (by omega) (show W.drew.heap[D]? = some (.deferred (some [])) from hK) rfl rfl)⟩
      have h2 := ownsRow_putObj (show W.drew.ownsRow _ _ _ _ _ _ from hrow) (.deferred none) (show W.drew.heap[D]? = some (.deferred (some [])) from hK) rfl
      have h3 : OwnI (W.drew.putObj D (.deferred none)) (w.heap.size + 1 + 1) v (lpL t) := by
        unfold OwnI
        rw [lp_upto HC.out d HD.out, List.length_map, List.map_map]
        exact h2
      exact h3.intsAt
  case stop =>
    rintro D c pre W _ _ h _
    exact h.elim

set_option maxRecDepth 100000 in
set_option maxHeartbeats 2000000 in
theorem loops_stops_no (n : Nat) (hn : 1 ≤ n) (Bt : Nat) (t : Tm) (hc : ¬ Chk t) (w : World) (hB : Bt < w.heap.size)
    (hcell : ∀ k, k < 6 → w.cell? ⟨Bt, k, none⟩ = some (.int .i64 ([t.e, t.d, t.l0, t.l1, t.l2, t.l3][k]?.getD 0))) :
    SeqStopsK Fence.wide n Try.prog 49 #[.pointer (some ⟨Bt, 0, none⟩)] (fun x : Cn => #[.int .i64 (x.1.1 : Int), .int .i64 x.1.2]) (KeepB Bt) (fun ys => ys = [])
      (fun _ => False) 0 w := fun l J Jx W hW hJ _ hY h0 => by
  have hc' : ∀ k, k < 6 → W.cell? ⟨Bt, k, none⟩ = some (.int .i64 ([t.e, t.d, t.l0, t.l1, t.l2, t.l3][k]?.getD 0)) := fun k hk => (hW.cell (p := ⟨Bt, k, none⟩) hB).trans (hcell k hk)
  have c0 : W.cell? ⟨Bt, 0, none⟩ = some (.int .i64 t.e) := hc' 0 (by omega)
  have c1 : W.cell? ⟨Bt, 1, none⟩ = some (.int .i64 t.d) := hc' 1 (by omega)
  have c2 : W.cell? ⟨Bt, 2, none⟩ = some (.int .i64 t.l0) := hc' 2 (by omega)
  have c3 : W.cell? ⟨Bt, 3, none⟩ = some (.int .i64 t.l1) := hc' 3 (by omega)
  have c4 : W.cell? ⟨Bt, 4, none⟩ = some (.int .i64 t.l2) := hc' 4 (by omega)
  have c5 : W.cell? ⟨Bt, 5, none⟩ = some (.int .i64 t.l3) := hc' 5 (by omega)
  have hlt : Bt < W.heap.size := Nat.lt_of_lt_of_le hB hW.size
  have H := Lib.hid (fun w => (callsIn_wide (n := n - 1)).2 (check_no hc w))
  have h0' := hJ _ _ _ none h0 (World.grownBy_alloc W (.cells #[.int .i64 t.e, .int .i64 t.d, .int .i64 t.l0, .int .i64 t.l1, .int .i64 t.l2, .int .i64 t.l3] 24) none) (by simp)
  have H0 := Lib.hid h0'
  have h49 : Fence.wide.fn 49 := trivial
  have h34 : Fence.wide.fn 34 := trivial
  clear hc' hcell h0' hY h0 hc
  show CallsIn Fence.wide n Try.prog 49 #[.func (.yield l) #[] #[], .pointer (some ⟨Bt, 0, none⟩)] W _
  refine callsIn_of_wp Try.func49 rfl h49 ?_ rfl
  simp only [Try.ntmps49, List.size_toArray, List.length_cons, List.length_nil, Nat.reduceAdd, Nat.reduceSub, Array.replicate_succ, Array.replicate_zero, List.push_toArray, List.append_toArray, List.nil_append, List.cons_append]
  gi_wp2_with fail
  refine (H.out _).mono ?_
  rintro e w1 ⟨rfl, rfl⟩
  gi_wp2
  refine bodyPost_ret (results_none rfl _ _ _) rfl ?_
  exact ⟨⟨_, rfl⟩, .inl ⟨_, rfl, H0.out⟩⟩

set_option maxRecDepth 100000 in
set_option maxHeartbeats 4000000 in
theorem lawLoops_no (t : Tm) (hc : ¬ Chk t) (w : World) :
    Calls Try.prog 28 #[.agg #[.int .i64 t.e, .int .i64 t.d, .int .i64 t.l0, .int .i64 t.l1, .int .i64 t.l2, .int .i64 t.l3]] w fun e w' =>
      ∃ v, e = .returned (.tuple #[v, .bool true]) ∧ IntsAt w' v (lpL t) ∧ Ge w w' := by
  have HC := Lib.hid hc
  clear hc
  refine (callsIn_wide (n := 3)).1 ?_
  refine callsIn_of_wp_marks Try.func28 rfl trivial ?_ rfl
  simp only [Try.ntmps28, List.size_toArray, List.length_cons, List.length_nil, Nat.reduceAdd, Nat.reduceSub, Array.replicate_succ, Array.replicate_zero, List.push_toArray, List.append_toArray, List.nil_append, List.cons_append]
  have f39 : Fence.wide.fn 39 := trivial
  gi_wp2_with fail
  refine (loops_in 2 t _).mono ?_
  rintro e w2 ⟨rfl, rfl⟩
  have hnil := nil49
  gi_wp2_with fail
  have hW0 : Below w.heap.size w ((((w.alloc (.cells #[.int .i64 t.e, .int .i64 t.d, .int .i64 t.l0, .int .i64 t.l1, .int .i64 t.l2, .int .i64 t.l3] 24)).alloc (.cells #[.int .i64 t.e, .int .i64 t.d, .int .i64 t.l0, .int .i64 t.l1, .int .i64 t.l2, .int .i64 t.l3] 24)).alloc (.cells #[.slice none 0 0] 30)).alloc (.cells #[.bool true] 4)) :=
    ((((Below.refl _ w).alloc (Nat.le_refl _) _).alloc (by simp) _).alloc (by simp; omega) _).alloc (by simp; omega) _
  obtain ⟨W0, hW0e⟩ : ∃ W0, W0 = ((((w.alloc (.cells #[.int .i64 t.e, .int .i64 t.d, .int .i64 t.l0, .int .i64 t.l1, .int .i64 t.l2, .int .i64 t.l3] 24)).alloc (.cells #[.int .i64 t.e, .int .i64 t.d, .int .i64 t.l0, .int .i64 t.l1, .int .i64 t.l2, .int .i64 t.l3] 24)).alloc (.cells #[.slice none 0 0] 30)).alloc (.cells #[.bool true] 4)) := ⟨_, rfl⟩
  have hs0 : W0.heap.size = w.heap.size + 4 := by rw [hW0e]; simp
  have hcl0 : ∀ k, k < 6 → W0.cell? ⟨w.heap.size + 1, k, none⟩ = some (.int .i64 ([t.e, t.d, t.l0, t.l1, t.l2, t.l3][k]?.getD 0)) := by
    intro k hk
    have X : Bx W0 (w.heap.size + 1) 24 #[.int .i64 t.e, .int .i64 t.d, .int .i64 t.l0, .int .i64 t.l1, .int .i64 t.l2, .int .i64 t.l3] := by rw [hW0e]; exact ((Bx.new _ _ _ (by simp)).alloc _).alloc _
    rw [X.cell]
    rcases k with _ | _ | _ | _ | _ | _ | k <;> first | rfl | omega
  have hv0 : Boxed W0 (w.heap.size + 1 + 1) 30 (.slice none 0 0) := by
    rw [hW0e]
    have h := (Boxed.new ((w.alloc (.cells #[.int .i64 t.e, .int .i64 t.d, .int .i64 t.l0, .int .i64 t.l1, .int .i64 t.l2, .int .i64 t.l3] 24)).alloc (.cells #[.int .i64 t.e, .int .i64 t.d, .int .i64 t.l0, .int .i64 t.l1, .int .i64 t.l2, .int .i64 t.l3] 24)) 30 (.slice none 0 0)).alloc (.cells #[.bool true] 4)
    simpa using h
  have hk0 : Boxed W0 (w.heap.size + 1 + 1 + 1) 4 (.bool true) := by
    rw [hW0e]
    have h := Boxed.new (((w.alloc (.cells #[.int .i64 t.e, .int .i64 t.d, .int .i64 t.l0, .int .i64 t.l1, .int .i64 t.l2, .int .i64 t.l3] 24)).alloc (.cells #[.int .i64 t.e, .int .i64 t.d, .int .i64 t.l0, .int .i64 t.l1, .int .i64 t.l2, .int .i64 t.l3] 24)).alloc (.cells #[.slice none 0 0] 30)) 4 (.bool true)
    simpa using h
  rw [← hW0e] at hW0 ⊢
  have HS0 := Lib.hid hs0
  clear hW0e hs0
  have hs0 : w.heap.size + 4 ≤ W0.heap.size := by have := HS0.out; omega
  refine wpIn_rangeFunc_ownF rfl (by omega) (gf := 49) (lb := #[.pointer (some ⟨w.heap.size + 1, 0, none⟩)]) rfl trivial (enters_of Try.func49 (by kernel_rfl) rfl)
    (loops_stops_no 2 (by omega) (w.heap.size + 1) t HC.out W0 (by omega) hcl0) (fun h k => KeepB.trans h k) (fun W l o o' hl h1 h2 h3 => KeepB.putObj (by omega) W l o o' hl h1 h2 h3) (Below.refl _ _) (fun _ => rfl)
    (fun pre W => (((∃ v, Boxed W (w.heap.size + 1 + 1) 30 v ∧ W.ownsRow (w.heap.size + 1 + 1) 2 1 v pre.length (pre.map fun x => Value.int .i64 x.1.2) ∧ True) ∧ Boxed W (w.heap.size + 1 + 1 + 1) 4 (.bool (okP pre))) ∧ w.heap.size + 4 ≤ W.heap.size) ∧ Below w.heap.size w W)
    (fun _ _ _ => False)
    (OwnFrom.and (OwnFrom.and (OwnFrom.and (Own.from (holdsRow_own (w.heap.size + 1 + 1) (w.heap.size + 1 + 1) 30 2 1 (fun pre : List Cn => pre.length) (fun pre => pre.map fun x => Value.int .i64 x.1.2) (fun _ _ => True)) _) (Own.from (boxOwn (w.heap.size + 1 + 1 + 1) 4 (fun pre : List Cn => .bool (okP pre))) _)) (fun _ _ _ _ hs hg _ => Nat.le_trans hs hg.size)) (ownFrom_below (Nat.le_refl _) (by omega)))
    (fun _ _ _ _ _ hs _ _ => hs)
    ⟨⟨⟨⟨_, hv0, World.ownsRow_nil _ _ _ _, trivial⟩, hk0⟩, hs0⟩, hW0⟩
    (fun x => { tmps := #[.agg #[.int .i64 t.e, .int .i64 t.d, .int .i64 t.l0, .int .i64 t.l1, .int .i64 t.l2, .int .i64 t.l3], .pointer (some ⟨w.heap.size, 0, none⟩), .slice none 0 0, .bool false, Value.func (.func 49) #[] #[.pointer (some ⟨w.heap.size + 1, 0, none⟩)], .pointer (some ⟨w.heap.size + 1 + 1, 0, none⟩), .pointer (some ⟨w.heap.size + 1 + 1 + 1, 0, none⟩), .int .i64 (x.1.1 : Int), .int .i64 x.1.2,
      .agg #[.int .i64 t.e, .int .i64 t.d, .int .i64 t.l0, .int .i64 t.l1, .int .i64 t.l2, .int .i64 t.l3], Value.func (.func 49) #[] #[.pointer (some ⟨w.heap.size + 1, 0, none⟩)], Value.func (.func 49) #[] #[.pointer (some ⟨w.heap.size + 1, 0, none⟩)], .bool false, Value.func (.func 49) #[] #[.pointer (some ⟨w.heap.size + 1, 0, none⟩)], .int .i64 (x.1.1 : Int), .int .i64 x.1.2, undef, undef, undef, undef, undef, undef, undef, undef, undef, undef, undef, undef, undef], defers := [] }) ?assign ?body ?done ?stop
  case assign =>
    intro l x W K hK
    gi_wp2
    exact hK
  case body =>
    rintro l pre x W _ hlen
    exact absurd hlen (by omega)
  case done =>
    rintro D ys W hD rfl ⟨⟨⟨⟨v, hv, hrow, -⟩, hko⟩, hszW⟩, hB⟩ hK
    rw [show okP [] = true from rfl] at hko
    have hcl := hv.cell
    have hco := hko.cell
    have hmx : Try.prog.follows .mixedOrders = true := by kernel_rfl
    gi_wp2
    refine region_np ?_
    gi_region_with_o (fail)
    all_goals
      gi_wp2
      refine ⟨by simp, .inl ⟨_, _, rfl, run_takeDeferred hK, ?_⟩⟩
      refine ⟨_, results_tmp2 rfl _ _ _, v, rfl, ?_, (Below.drew hB).trans (belowK_b (w := w) (Nat.le_refl _) W.drew D _ _ (by omega) (show W.drew.heap[D]? = some (.deferred (some [])) from hK) rfl rfl)⟩
      have h2 := ownsRow_putObj (show W.drew.ownsRow _ _ _ _ _ _ from hrow) (.deferred none) (show W.drew.heap[D]? = some (.deferred (some [])) from hK) rfl
      have h3 : OwnI (W.drew.putObj D (.deferred none)) (w.heap.size + 1 + 1) v (lpL t) := by
        unfold OwnI
        rw [show lpL t = [] from if_neg HC.out]
        exact h2
      exact h3.intsAt
  case stop =>
    rintro D c pre W _ _ h _
    exact h.elim

theorem lawLoops_any (t : Tm) (w : World) :
    Calls Try.prog 28 #[.agg #[.int .i64 t.e, .int .i64 t.d, .int .i64 t.l0, .int .i64 t.l1, .int .i64 t.l2, .int .i64 t.l3]] w fun e w' =>
      ∃ v, e = .returned (.tuple #[v, .bool true]) ∧ IntsAt w' v (lpL t) ∧ Ge w w' := by
  by_cases hc : Chk t
  · exact lawLoops_yes t hc w
  · exact lawLoops_no t hc w
end Go.Proofs.Ytedccllpbajbfaa
