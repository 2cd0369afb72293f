/-
  An iterator over numbers; what is told of it.
-/
import Derived.Test.YtidblliobkjeeaaDoorRKeys
import Derived.RangeFuncNested
import Derived.RangeFuncBound
import Derived.RangeFuncCalls
import Derived.RangeFuncLeaves
import Derived.Shelf.Abstract
import Derived.Shelf.RegionOpen
import Derived.WalkKit
import Derived.OwnWalkIn
import Derived.TacticsInMore
import Derived.LoopNIn
import Derived.LoopIn
namespace Go.Proofs.YtidblliobkjeeaaDoor
open Go.RowKit Go.Shelf

attribute [local go_sem] Oper.semAt_some

theorem vals_in (n : Nat) (A : Option Addr) (m cap : Nat) (w : World) :
    CallsIn Fence.wide n Tryd.prog 36 #[.slice A m cap] w fun e w' => e = .returned (.func (.func 41) #[] #[.pointer (some ⟨w.heap.size, 0, none⟩)]) ∧ w' = w.alloc (.cells #[.slice A m cap] 50) := by
  refine callsIn_of_wp Tryd.func36 rfl trivial ?_ rfl
  simp only [Tryd.ntmps36, List.size_toArray, List.length_cons, List.length_nil, Nat.reduceAdd, Nat.reduceSub, Array.replicate_succ, Array.replicate_zero, List.push_toArray, List.append_toArray, List.nil_append, List.cons_append]
  gi_wp2
  go_ret
  exact ⟨rfl, rfl⟩

set_option maxRecDepth 100000 in
set_option maxHeartbeats 2000000 in
theorem vals_seq (n : Nat) (hn : 1 ≤ n) (Bt : Nat) (w w0 : World) (hg0 : Ge w w0) (v : Value) (xs : List Int) (hX : Boxed w Bt 50 v) (hv : IntsAt w v xs) (hxl : xs.length ≤ 100000000) :
    SeqStopsK Fence.wide n Tryd.prog 41 #[.pointer (some ⟨Bt, 0, none⟩)] (fun x : Int => #[.int .i64 x]) (Below w.heap.size) (fun ys => ys = xs) (fun pre => ∃ k, k < xs.length ∧ pre = xs.take (k + 1)) xs.length w0 := fun l J Jx W hW hJ _ hY h0 => by
  replace hW : Ge w W := hg0.trans hW
  have X : Boxed W Bt 50 v := (hW.block Bt hX.lt).trans hX
  have c := X.cell
  have lt := X.lt
  obtain ⟨A, cap, rfl, hle, hc⟩ := hv
  have HC := Lib.hid hc
  have HY := Lib.hid hY
  have HW := Lib.hid hW
  clear hY hJ hc hX hW
  show CallsIn Fence.wide n Tryd.prog 41 #[.func (.yield l) #[] #[], .pointer (some ⟨Bt, 0, none⟩)] W _
  refine callsIn_of_wp Tryd.func41 rfl trivial ?_ rfl
  simp only [Tryd.ntmps41, List.size_toArray, List.length_cons, List.length_nil, Nat.reduceAdd, Nat.reduceSub, Array.replicate_succ, Array.replicate_zero, List.push_toArray, List.append_toArray, List.nil_append, List.cons_append]
  gi_wp2
  gi_loopw [7] (fun i wr => ∃ k : Nat, k ≤ xs.length ∧ i = .int .i64 (k : Int) ∧ Below w.heap.size w wr ∧ J (xs.take k) wr) (fun i _ => xs.length - (intOf i).toNat)
  case atStart => exact ⟨0, by omega, rfl, HW.out, h0⟩
  case round =>
    obtain ⟨k, hk, rfl, hg, hj⟩ := hrel
    clear X c lt
    have HJ0 := Lib.hid hj
    have HG := Lib.hid hg
    by_cases hlt : k < xs.length
    · obtain ⟨b, off, rfl, hb, hcell⟩ := HC.out (by intro e; rw [e] at hlt; simp at hlt)
      obtain ⟨z, hz⟩ : ∃ z, xs[k]? = some z := ⟨_, List.getElem?_eq_getElem hlt⟩
      have kc := (hg.cell (p := ⟨b, off + k, none⟩) hb).trans (hcell k z hz)
      have hsn : xs.take (k + 1) = xs.take k ++ [z] := by
        rw [List.take_succ_eq_append_getElem hlt]
        rw [List.getElem?_eq_getElem hlt] at hz
        rw [Option.some.inj hz]
      have HSN := Lib.hid hsn
      obtain ⟨fn, tmps, assign, body, hy, hR⟩ := HY.out (xs.take k) z wr hj (by simp; omega)
      have HR := Lib.hid hR
      clear hcell hsn hz hR hg hj
      gi_wp2
      refine HR.out.mono ?_
      rintro e W3 (⟨rfl, hJ3, hk3⟩ | ⟨rfl, hJx⟩)
      · have H3 := Lib.hid hJ3
        have G3 := Lib.hid (HG.out.trans hk3)
        clear hJ3 hk3
        gi_wp2
        go_roundw
        case rel => exact ⟨k + 1, by omega, by go_num, G3.out, by rw [HSN.out]; exact H3.out⟩
        case measure => simp [intOf]; omega
      · have H3 := Lib.hid hJx
        clear hJx
        gi_wp2
        refine bodyPost_ret (results_none rfl _ _ _) rfl ?_
        exact ⟨⟨_, rfl⟩, .inr ⟨_, ⟨k, hlt, rfl⟩, by rw [HSN.out]; exact H3.out⟩⟩
    · have hkx : k = xs.length := by omega
      clear hg hj
      gi_wp2
      go_end0
      refine ⟨⟨_, rfl⟩, .inl ⟨_, rfl, ?_⟩⟩
      have := HJ0.out
      rw [hkx, List.take_length] at this
      exact this

theorem nil41 (B : Nat) (w : World) : (binOp .eql 55 (.func (.func 41) #[] #[.pointer (some ⟨B, 0, none⟩)]) .nilFunc).run Tryd.prog w = .ok (.bool false) w := by kernel_rfl

set_option maxRecDepth 100000 in
set_option maxHeartbeats 4000000 in
theorem told_any {w : World} {Bt : Nat} {v : Value} {xs : List Int} (most : Nat) (hm : most ≤ 100000) (hX : Boxed w Bt 50 v) (hv : IntsAt w v xs) (hxl : xs.length ≤ 1000000) :
    Calls Tryd.prog 23 #[.func (.func 41) #[] #[.pointer (some ⟨Bt, 0, none⟩)], .int .i64 (most : Int)] w fun e w' => ∃ v', e = .returned v' ∧ IntsAt w' v' (xs.take most) ∧ Ge w w' := by
  obtain ⟨w0, hw0⟩ : ∃ w0, w0 = (w.alloc (.cells #[.int .i64 (most : Int)] 3)).alloc (.cells #[.slice none 0 0] 50) := ⟨_, rfl⟩
  have hg0 : Ge w w0 := by rw [hw0]; exact ((Ge.refl w).alloc _).alloc _
  have hs0 : w.heap.size + 2 ≤ w0.heap.size := by rw [hw0]; simp
  have hM0 : Boxed w0 w.heap.size 3 (.int .i64 (most : Int)) := by rw [hw0]; exact (Boxed.new w 3 _).alloc _
  have hX0 : Boxed w0 (w.heap.size + 1) 50 (.slice none 0 0) := by
    rw [hw0]
    have := Boxed.new (w.alloc (.cells #[.int .i64 (most : Int)] 3)) 50 (.slice none 0 0)
    simpa using this
  have HF := Lib.hid (vals_seq 2 (by omega) Bt w w0 hg0 v xs hX hv (by omega))
  have HG0 := Lib.hid hg0
  have hnil := nil41
  clear hX hv hg0
  refine (callsIn_wide (n := 3)).1 ?_
  refine callsIn_of_wp_marks Tryd.func23 rfl trivial ?_ rfl
  simp only [Tryd.ntmps23, List.size_toArray, List.length_cons, List.length_nil, Nat.reduceAdd, Nat.reduceSub, Array.replicate_succ, Array.replicate_zero, List.push_toArray, List.append_toArray, List.nil_append, List.cons_append]
  have HW0 := Lib.hid hw0
  clear hw0
  gi_wp2_with fail
  rw [← HW0.out]
  refine wpIn_rangeFunc_ownF rfl (by omega) (gf := 41) (lb := #[.pointer (some ⟨Bt, 0, none⟩)]) rfl trivial (enters_of Tryd.func41 (by kernel_rfl) rfl) HF.out
    (fun h k => Below.trans h k) (fun W l o o' hl h1 h2 h3 => belowK_b (by omega) W l o o' hl h1 h2 h3) (Below.refl _ _) (fun _ => rfl)
    (fun pre W => ((((∃ v, Boxed W (w.heap.size + 1) 50 v ∧ W.ownsRow (w.heap.size + 1) 2 1 v pre.length (pre.map (Value.int .i64)) ∧ True) ∧ Boxed W w.heap.size 3 (.int .i64 (most : Int))) ∧ pre.length ≤ most) ∧ w.heap.size + 2 ≤ W.heap.size) ∧ Below w.heap.size w W)
    (fun c pre W => ((∃ v, Boxed W (w.heap.size + 1) 50 v ∧ W.ownsRow (w.heap.size + 1) 2 1 v pre.dropLast.length (pre.dropLast.map (Value.int .i64)) ∧ True) ∧ (c = .exit 0 ∧ pre.dropLast.length = most)) ∧ Below w.heap.size w W)
    (OwnFrom.and (OwnFrom.and (OwnFrom.and (OwnFrom.and (Own.from (holdsRow_own (w.heap.size + 1) (w.heap.size + 1) 50 2 1 (fun pre : List Int => pre.length) (fun pre => pre.map (Value.int .i64)) (fun _ _ => True)) _) (Own.from (boxed_own w.heap.size 3 (fun _ : List Int => .int .i64 (most : Int))) _)) (ownFrom_pure _ (fun pre : List Int => pre.length ≤ most))) (fun _ _ _ _ hs hg _ => Nat.le_trans hs hg.size)) (ownFrom_below (Nat.le_refl _) (by omega)))
    (fun c => OwnFrom.and (OwnFrom.and (Own.from (holdsRow_own (w.heap.size + 1) (w.heap.size + 1) 50 2 1 (fun pre : List Int => pre.dropLast.length) (fun pre => pre.dropLast.map (Value.int .i64)) (fun _ _ => True)) _) (ownFrom_pure _ (fun pre : List Int => c = .exit 0 ∧ pre.dropLast.length = most))) (ownFrom_below (Nat.le_refl _) (by omega)))
    ⟨⟨⟨⟨⟨_, hX0, World.ownsRow_nil _ _ _ _, trivial⟩, hM0⟩, by simp⟩, hs0⟩, HG0.out⟩
    (fun x => { tmps := #[.func (.func 41) #[] #[.pointer (some ⟨Bt, 0, none⟩)], .int .i64 (most : Int), undef, .pointer (some ⟨w.heap.size, 0, none⟩), .slice none 0 0, .pointer (some ⟨w.heap.size + 1, 0, none⟩), .int .i64 x,
      .func (.func 41) #[] #[.pointer (some ⟨Bt, 0, none⟩)], .bool false, .func (.func 41) #[] #[.pointer (some ⟨Bt, 0, none⟩)], .int .i64 x, undef, undef, undef, undef, undef, undef, undef, undef, undef], defers := [] }) ?assign ?body ?done ?stop
  case assign =>
    intro l x W K hK
    gi_wp2
    exact hK
  case body =>
    rintro l pre x W ⟨⟨⟨⟨⟨v, hv, hrow, -⟩, hM⟩, hpm⟩, hszW⟩, hB⟩ hlen
    have hcl := hv.cell
    have hlv := hv.lt
    have hcm := hM.cell
    have hlm := hM.lt
    obtain ⟨A2, cap, hvv⟩ : ∃ A cap, v = .slice A pre.length cap := by
      rcases hrow.2 with ⟨rfl, hn⟩ | ⟨g, cap, cur, rfl, _⟩
      · exact ⟨none, 0, by rw [hn]⟩
      · exact ⟨_, cap, rfl⟩
    subst hvv
    by_cases hlt : pre.length < most
    · obtain ⟨i0, hi, hz0, hz1, hz2⟩ := info_parts info2
      have hd : decide ((most : Int) ≤ (pre.length : Int)) = false := by simp; omega
      have hd2 : decide (most ≤ pre.length) = false := by simp; omega
      have key : ∀ (v' : Value) (w1 : World),
          w1.ownsRow (w.heap.size + 1) 2 1 v' (pre.length + 1) (pre.map (Value.int .i64) ++ [.int .i64 x]) → (W.alloc (.cells #[.int .i64 x] 2)).grownBy w1 (Value.slice A2 pre.length cap).ownBlock →
          w1.cell? ⟨w.heap.size + 1, 0, none⟩ = some (.slice A2 pre.length cap) ∧ w1.frozen? ⟨w.heap.size + 1, 0, none⟩ = false ∧ KeepsOthers W (w1.setCell ⟨w.heap.size + 1, 0, none⟩ v') ∧ Below w.heap.size W (w1.setCell ⟨w.heap.size + 1, 0, none⟩ v') ∧
          (((((∃ v, Boxed (w1.setCell ⟨w.heap.size + 1, 0, none⟩ v') (w.heap.size + 1) 50 v ∧ (w1.setCell ⟨w.heap.size + 1, 0, none⟩ v').ownsRow (w.heap.size + 1) 2 1 v (pre ++ [x]).length ((pre ++ [x]).map (Value.int .i64)) ∧ True) ∧ Boxed (w1.setCell ⟨w.heap.size + 1, 0, none⟩ v') w.heap.size 3 (.int .i64 (most : Int))) ∧ (pre ++ [x]).length ≤ most) ∧ w.heap.size + 2 ≤ (w1.setCell ⟨w.heap.size + 1, 0, none⟩ v').heap.size) ∧ Below w.heap.size w (w1.setCell ⟨w.heap.size + 1, 0, none⟩ v')) := by
        intro v' w1 hown hgrow
        obtain ⟨a1, a2, a3, a4, a5⟩ := hv.appended (by decide) hrow (by omega) (Nat.le_refl _) hown hgrow
        refine ⟨a1.cell, a1.frozen, a4, a5.mono (by omega), ⟨⟨⟨⟨⟨v', a2, ?_, trivial⟩, ?_⟩, ?_⟩, ?_⟩, hB.trans (a5.mono (by omega))⟩⟩
        · simpa using a3
        · exact (a5.block w.heap.size (by omega)).trans hM
        · simp; omega
        · have := a5.size
          omega
      have hnew : ∀ (j : Nat) (u : Value), [Value.int .i64 x][j]? = some u → (W.alloc (.cells #[.int .i64 x] 2)).cell? ((⟨W.heap.size, 0, none⟩ : Addr).add j) = some u := by
        intro j u hu
        rcases j with _ | j
        · simp at hu
          subst hu
          rw [addr_add]
          exact (Bx.new W 2 #[.int .i64 x] rfl).cell 0
        · simp at hu
      have KEY := Lib.hid key
      have HNEW := Lib.hid hnew
      have HROWS := Lib.hid (hrow.alloc (.cells #[.int .i64 x] 2))
      have C3 : w.heap.size + 1 ≤ (W.alloc (.cells #[.int .i64 x] 2)).heap.size := by simp; omega
      have HC3 := Lib.hid C3
      clear key hnew hv hrow C3 hM
      gi_wp2_with (gi_at_builtin; refine wpListIn_append_own _ rfl (.tmp 15) (.tmp 17) 50 rfl (w.heap.size + 1) 2 i0 (.int .i64 0) 1 8 Tryd.underlying50 hi hz0 hz1 hz2 rfl (by decide) _ pre.length _ rfl HROWS.out ⟨W.heap.size, 0, none⟩ 1 1 [.int .i64 x] rfl rfl HNEW.out (fun u hu => by simp at hu; rw [hu]; rfl) (by simp only [maxLen]; omega) (by omega) HC3.out ?_; intro v' w1 hown hgrow _hn; obtain ⟨k1, k2, k3, k4, k5⟩ := KEY.out v' w1 hown hgrow; have K3 := Lib.hid k3; have K4 := Lib.hid k4; have K5 := Lib.hid k5; obtain ⟨g', cap', rfl⟩ := ownsRow_succ hown; clear k3 k4 k5 hown hgrow _hn)
      exact ⟨K3.out, K4.out, K5.out⟩
    · have hd : decide ((most : Int) ≤ (pre.length : Int)) = true := by simp; omega
      have hd2 : decide (most ≤ pre.length) = true := by simp; omega
      have HV := Lib.hid hv
      have HR := Lib.hid hrow
      have HB := Lib.hid hB
      have hpe : pre.length = most := by omega
      have HPE := Lib.hid hpe
      clear hv hrow hB hM hpe hlt
      gi_wp2
      refine ⟨KeepsOthers.refl _, ⟨⟨_, HV.out, ?_, trivial⟩, rfl, ?_⟩, HB.out⟩
      · simpa using HR.out
      · simpa using HPE.out
  case done =>
    rintro D ys W hD rfl ⟨⟨⟨⟨⟨v, hv, hrow, -⟩, hM⟩, hpm⟩, hszW⟩, hB⟩ hK
    have hcl := hv.cell
    have hlv := hv.lt
    gi_wp2
    refine ⟨by simp, .inl ⟨_, _, rfl, run_takeDeferred hK, ?_⟩⟩
    refine ⟨_, results_tmp rfl _ _ _, v, rfl, ?_, hB.trans (belowK_b (w := w) (Nat.le_refl _) W D _ _ (by omega) hK rfl rfl)⟩
    rw [List.take_of_length_le hpm]
    exact OwnI.intsAt (base := w.heap.size + 1) (ownsRow_putObj hrow _ hK rfl)
  case stop =>
    rintro D c pre W hD ⟨k, hk, rfl⟩ ⟨⟨⟨v, hv, hrow, -⟩, rfl, hpm⟩, hB⟩ hK
    have hcl := hv.cell
    have hlv := hv.lt
    have hdl : (xs.take (k + 1)).dropLast = xs.take most := by
      have h1 : (xs.take (k + 1)).dropLast = xs.take k := by
        rw [List.dropLast_eq_take, List.take_take, List.length_take]
        congr 1
        omega
      rw [h1] at hpm ⊢
      have : k = most := by rw [← hpm, List.length_take]; omega
      rw [this]
    rw [hdl] at hrow
    gi_wp2
    refine ⟨by simp, .inl ⟨_, _, rfl, run_takeDeferred hK, ?_⟩⟩
    refine ⟨_, results_tmp rfl _ _ _, v, rfl, OwnI.intsAt (base := w.heap.size + 1) (ownsRow_putObj hrow _ hK rfl), hB.trans (belowK_b (w := w) (Nat.le_refl _) W D _ _ (by omega) hK rfl rfl)⟩
end Go.Proofs.YtidblliobkjeeaaDoor
