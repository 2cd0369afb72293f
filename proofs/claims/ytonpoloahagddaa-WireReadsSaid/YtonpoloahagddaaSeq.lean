/-
  The iterator of Numbers goes through the list; Collect of it.
-/
import Derived.Test.YtonpoloahagddaaNums
namespace Go.Proofs.Ytonpoloahagddaa
open Go.RowKit Go.Shelf

attribute [local go_sem] Oper.semAt_some

/-- v reads as these numbers -/
def IntsAt (w : World) (v : Value) (xs : List Int) : Prop := ∃ (A : Option Addr) (cap : Nat), v = .slice A xs.length cap ∧
  (xs ≠ [] → ∃ b off, A = some ⟨b, off, none⟩ ∧ b < w.heap.size ∧ ∀ j, j < xs.length → w.cell? ⟨b, off + j, none⟩ = some (.int .i64 (xs[j]?.getD 0)))
theorem IntsAt.ge {w w' : World} {v : Value} {xs : List Int} (h : IntsAt w v xs) (hg : Ge w w') : IntsAt w' v xs := by
  obtain ⟨A, cap, rfl, hc⟩ := h
  refine ⟨A, cap, rfl, fun hne => ?_⟩
  obtain ⟨b, off, rfl, hb, hcell⟩ := hc hne
  exact ⟨b, off, rfl, Nat.lt_of_lt_of_le hb hg.size, fun j hj => (hg.cell (p := ⟨b, off + j, none⟩) hb).trans (hcell j hj)⟩
theorem OwnI.intsAt {w : World} {base : Nat} {v : Value} {xs : List Int} (h : OwnI w base v xs) : IntsAt w v xs := by
  obtain ⟨h1, h2⟩ := h
  rcases h2 with ⟨rfl, hn⟩ | ⟨g, cap, cur, rfl, hg, hh, hle, hm, hs, ht⟩
  · have : xs = [] := List.eq_nil_of_length_eq_zero hn
    subst this
    exact ⟨none, 0, rfl, fun h => absurd rfl h⟩
  · refine ⟨some ⟨g, 0, none⟩, cap, rfl, fun _ => ⟨g, 0, rfl, (Array.getElem?_eq_some_iff.1 hh).1, fun j hj => ?_⟩⟩
    have e : cur[j]? = some (.int .i64 (xs[j]?.getD 0)) := by
      have : (cur.toList.take (xs.length * 1))[j]? = (xs.map (Value.int .i64))[j]? := by rw [ht]
      rw [List.getElem?_take, if_pos (by omega), Array.getElem?_toList] at this
      rw [this]
      simp [hj]
    simp only [World.cell?, hh]
    simpa using e

set_option maxRecDepth 100000 in
set_option maxHeartbeats 2000000 in
theorem nums_seq (n : Nat) (hn : 1 ≤ n) (Bt : Nat) (w w0 : World) (hg0 : Ge w w0) (v : Value) (xs : List Int) (hX : Boxed w Bt 28 v) (hv : IntsAt w v xs) (hxl : xs.length ≤ 100000000000) :
    SeqStopsK Fence.wide n Try.prog 43 #[.pointer (some ⟨Bt, 0, none⟩)] (fun x : Int => #[.int .i64 x]) (Below w.heap.size) (fun ys => ys = xs) (fun _ => True) xs.length w0 := fun l J Jx W hW hJ _ hY h0 => by
  replace hW : Ge w W := hg0.trans hW
  have X : Boxed W Bt 28 v := (hW.block Bt hX.lt).trans hX
  have c := X.cell
  have lt := X.lt
  obtain ⟨A, cap, rfl, hc⟩ := hv
  have HC := Lib.hid hc
  have HY := Lib.hid hY
  have HJ := Lib.hid hJ
  have HW := Lib.hid hW
  clear hY hJ hc hX hW
  show CallsIn Fence.wide n Try.prog 43 #[.func (.yield l) #[] #[], .pointer (some ⟨Bt, 0, none⟩)] W _
  refine callsIn_of_wp Try.func43 rfl trivial ?_ rfl
  simp only [Try.ntmps43, List.size_toArray, List.length_cons, List.length_nil, Nat.reduceAdd, Nat.reduceSub, Array.replicate_succ, Array.replicate_zero, List.push_toArray, List.append_toArray, List.nil_append, List.cons_append]
  gi_wp2
  gi_loopw [7] (fun i wr => ∃ k : Nat, k ≤ xs.length ∧ i = .int .i64 (k : Int) ∧ Below w.heap.size w wr ∧ J (xs.take k) wr) (fun i _ => xs.length - (intOf i).toNat)
  case atStart => exact ⟨0, by omega, rfl, HW.out, h0⟩
  case round =>
    obtain ⟨k, hk, rfl, hg, hj⟩ := hrel
    clear X c lt
    have HJ0 := Lib.hid hj
    have HG := Lib.hid hg
    by_cases hlt : k < xs.length
    · obtain ⟨b, off, rfl, hb, hcell⟩ := HC.out (by intro e; rw [e] at hlt; simp at hlt)
      have kc := (hg.cell (p := ⟨b, off + k, none⟩) hb).trans (hcell k hlt)
      have hsn : xs.take (k + 1) = xs.take k ++ [xs[k]?.getD 0] := by
        rw [List.take_succ_eq_append_getElem hlt]; simp [hlt]
      have HSN := Lib.hid hsn
      obtain ⟨z, hz⟩ : ∃ z, z = xs[k]?.getD 0 := ⟨_, rfl⟩
      rw [← hz] at kc HSN
      obtain ⟨fn, tmps, assign, body, hy, hR⟩ := HY.out (xs.take k) z wr hj (by simp; omega)
      have HR := Lib.hid hR
      clear hcell hsn hz hR hg hj
      gi_wp2
      refine HR.out.mono ?_
      rintro e W3 (⟨rfl, hJ3, hk3⟩ | ⟨rfl, hJx⟩)
      · have H3 := Lib.hid hJ3
        have G3 := Lib.hid (HG.out.trans hk3)
        clear hJ3 hk3
        gi_wp2
        go_roundw
        case rel => exact ⟨k + 1, by omega, by go_num, G3.out, by rw [HSN.out]; exact H3.out⟩
        case measure => simp [intOf]; omega
      · have H3 := Lib.hid hJx
        clear hJx
        gi_wp2
        refine bodyPost_ret (results_none rfl _ _ _) rfl ?_
        exact ⟨⟨_, rfl⟩, .inr ⟨_, trivial, H3.out⟩⟩
    · have hkx : k = xs.length := by omega
      clear hg hj
      gi_wp2
      go_end0
      refine ⟨⟨_, rfl⟩, .inl ⟨_, rfl, ?_⟩⟩
      have := HJ0.out
      rw [hkx, List.take_length] at this
      exact this

set_option maxRecDepth 100000 in
set_option maxHeartbeats 4000000 in
theorem appendSeq_any {w : World} {Bt : Nat} {v : Value} {xs : List Int} (hX : Boxed w Bt 28 v) (hv : IntsAt w v xs) (hxl : xs.length ≤ 100000000000) :
    Calls Try.prog 46 #[.slice none 0 0, .func (.func 43) #[] #[.pointer (some ⟨Bt, 0, none⟩)]] w fun e w' => ∃ v', e = .returned v' ∧ IntsAt w' v' xs ∧ Ge w w' := by
  obtain ⟨w0, hw0⟩ : ∃ w0, w0 = w.alloc (.cells #[.slice none 0 0] 28) := ⟨_, rfl⟩
  have hg0 : Ge w w0 := by rw [hw0]; exact (Ge.refl w).alloc _
  have hs0 : w.heap.size + 1 ≤ w0.heap.size := by rw [hw0]; simp
  have hX0 : Boxed w0 w.heap.size 28 (.slice none 0 0) := by rw [hw0]; exact Boxed.new w 28 _
  have HF := Lib.hid (nums_seq 2 (by omega) Bt w w0 hg0 v xs hX hv hxl)
  have HG0 := Lib.hid hg0
  clear hX hv hg0
  refine (callsIn_wide (n := 3)).1 ?_
  refine callsIn_of_wp_marks Try.func46 rfl trivial ?_ rfl
  simp only [Try.ntmps46, List.size_toArray, List.length_cons, List.length_nil, Nat.reduceAdd, Nat.reduceSub, Array.replicate_succ, Array.replicate_zero, List.push_toArray, List.append_toArray, List.nil_append, List.cons_append]
  have HW0 := Lib.hid hw0
  clear hw0
  gi_wp2_with fail
  rw [← HW0.out]
  refine wpIn_rangeFunc_ownF rfl (by omega) (gf := 43) (lb := #[.pointer (some ⟨Bt, 0, none⟩)]) rfl trivial (enters_of Try.func43 (by kernel_rfl) rfl) HF.out
    (fun h k => Below.trans h k) (fun W l o o' hl h1 h2 h3 => belowK_b (by omega) W l o o' hl h1 h2 h3) (Below.refl _ _) (fun _ => rfl)
    (fun pre W => ((∃ v, Boxed W w.heap.size 28 v ∧ W.ownsRow w.heap.size 2 1 v pre.length (pre.map (Value.int .i64)) ∧ True) ∧ w.heap.size + 1 ≤ W.heap.size) ∧ Below w.heap.size w W)
    (fun _ _ _ => False)
    (OwnFrom.and (OwnFrom.and (Own.from (holdsRow_own w.heap.size w.heap.size 28 2 1 (fun pre : List Int => pre.length) (fun pre => pre.map (Value.int .i64)) (fun _ _ => True)) _) (fun _ _ _ _ hs hg _ => Nat.le_trans hs hg.size)) (ownFrom_below (Nat.le_refl _) (by omega)))
    (fun _ _ _ _ _ hs _ _ => hs)
    ⟨⟨⟨_, hX0, World.ownsRow_nil _ _ _ _, trivial⟩, hs0⟩, HG0.out⟩
    (fun x => { tmps := #[.slice none 0 0, .func (.func 43) #[] #[.pointer (some ⟨Bt, 0, none⟩)], .pointer (some ⟨w.heap.size, 0, none⟩), undef, .slice none 0 0, .int .i64 x, .func (.func 43) #[] #[.pointer (some ⟨Bt, 0, none⟩)], .int .i64 x, undef, undef, undef, undef, undef], defers := [] }) ?assign ?body ?done ?stop
  case assign =>
    intro l x W K hK
    gi_wp2
    exact hK
  case body =>
    rintro l pre x W ⟨⟨⟨v, hv, hrow, -⟩, hszW⟩, hB⟩ hlen
    have hcl := hv.cell
    have hlv := hv.lt
    obtain ⟨A2, cap, hvv⟩ : ∃ A cap, v = .slice A pre.length cap := by
      rcases hrow.2 with ⟨rfl, hn⟩ | ⟨g, cap, cur, rfl, _⟩
      · exact ⟨none, 0, by rw [hn]⟩
      · exact ⟨_, cap, rfl⟩
    subst hvv
    obtain ⟨i0, hi, hz0, hz1, hz2⟩ := info_parts info2
    have key : ∀ (v' : Value) (w1 : World),
        w1.ownsRow w.heap.size 2 1 v' (pre.length + 1) (pre.map (Value.int .i64) ++ [.int .i64 x]) → (W.alloc (.cells #[.int .i64 x] 2)).grownBy w1 (Value.slice A2 pre.length cap).ownBlock →
        w1.cell? ⟨w.heap.size, 0, none⟩ = some (.slice A2 pre.length cap) ∧ w1.frozen? ⟨w.heap.size, 0, none⟩ = false ∧ KeepsOthers W (w1.setCell ⟨w.heap.size, 0, none⟩ v') ∧ Below w.heap.size W (w1.setCell ⟨w.heap.size, 0, none⟩ v') ∧
        (((∃ v, Boxed (w1.setCell ⟨w.heap.size, 0, none⟩ v') w.heap.size 28 v ∧ (w1.setCell ⟨w.heap.size, 0, none⟩ v').ownsRow w.heap.size 2 1 v (pre ++ [x]).length ((pre ++ [x]).map (Value.int .i64)) ∧ True) ∧ w.heap.size + 1 ≤ (w1.setCell ⟨w.heap.size, 0, none⟩ v').heap.size) ∧ Below w.heap.size w (w1.setCell ⟨w.heap.size, 0, none⟩ v')) := by
      intro v' w1 hown hgrow
      obtain ⟨a1, a2, a3, a4, a5⟩ := hv.appended (by decide) hrow (by omega) (Nat.le_refl _) hown hgrow
      refine ⟨a1.cell, a1.frozen, a4, a5, ⟨⟨⟨v', a2, ?_, trivial⟩, ?_⟩, hB.trans a5⟩⟩
      · simpa using a3
      · have := a5.size
        omega
    have hnew : ∀ (j : Nat) (u : Value), [Value.int .i64 x][j]? = some u → (W.alloc (.cells #[.int .i64 x] 2)).cell? ((⟨W.heap.size, 0, none⟩ : Addr).add j) = some u := by
      intro j u hu
      rcases j with _ | j
      · simp at hu
        subst hu
        rw [addr_add]
        exact (Bx.new W 2 #[.int .i64 x] rfl).cell 0
      · simp at hu
    have KEY := Lib.hid key
    have HNEW := Lib.hid hnew
    have HROWS := Lib.hid (hrow.alloc (.cells #[.int .i64 x] 2))
    have C3 : w.heap.size ≤ (W.alloc (.cells #[.int .i64 x] 2)).heap.size := by simp; omega
    have HC3 := Lib.hid C3
    clear key hnew hv hrow C3
    gi_wp2_with (gi_at_builtin; refine wpListIn_append_own _ rfl (.tmp 8) (.tmp 10) 28 rfl w.heap.size 2 i0 (.int .i64 0) 1 8 Try.underlying28 hi hz0 hz1 hz2 rfl (by decide) _ pre.length _ rfl HROWS.out ⟨W.heap.size, 0, none⟩ 1 1 [.int .i64 x] rfl rfl HNEW.out (fun u hu => by simp at hu; rw [hu]; rfl) (by simp only [maxLen]; omega) (by omega) HC3.out ?_; intro v' w1 hown hgrow _hn; obtain ⟨k1, k2, k3, k4, k5⟩ := KEY.out v' w1 hown hgrow; have K3 := Lib.hid k3; have K4 := Lib.hid k4; have K5 := Lib.hid k5; obtain ⟨g', cap', rfl⟩ := ownsRow_succ hown; clear k3 k4 k5 hown hgrow _hn)
    exact ⟨K3.out, K4.out, K5.out⟩
  case done =>
    rintro D ys W hD rfl ⟨⟨⟨v, hv, hrow, -⟩, hszW⟩, hB⟩ hK
    have hcl := hv.cell
    have hlv := hv.lt
    gi_wp2
    refine ⟨by simp, .inl ⟨_, _, rfl, run_takeDeferred hK, ?_⟩⟩
    refine ⟨_, results_tmp rfl _ _ _, v, rfl, OwnI.intsAt (base := w.heap.size) (ownsRow_putObj hrow _ hK rfl), hB.trans (belowK_b (w := w) (Nat.le_refl _) W D _ _ (by omega) hK rfl rfl)⟩
  case stop =>
    rintro D c pre W _ _ h _
    exact h.elim

theorem collect_any {w : World} {Bt : Nat} {v : Value} {xs : List Int} (hX : Boxed w Bt 28 v) (hv : IntsAt w v xs) (hxl : xs.length ≤ 100000000000) :
    Calls Try.prog 32 #[.func (.func 43) #[] #[.pointer (some ⟨Bt, 0, none⟩)]] w fun e w' => ∃ v', e = .returned v' ∧ IntsAt w' v' xs ∧ Ge w w' := by
  have H := Lib.hid (appendSeq_any hX hv hxl)
  clear hX hv
  go_enter Try.func32, Try.ntmps32
  go_wp2_with fail
  refine H.out.mono ?_
  rintro e w1 ⟨v', rfl, hi, hg⟩
  have HI := Lib.hid hi
  clear hi
  go_wp2
  go_returns
  exact ⟨v', rfl, HI.out, hg⟩
end Go.Proofs.Ytonpoloahagddaa
