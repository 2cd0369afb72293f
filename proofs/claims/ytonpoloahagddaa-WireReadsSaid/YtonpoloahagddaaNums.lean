/-
  Numbers of a reader that a call made: the list that it lays down.
-/
import Derived.Test.YtonpoloahagddaaForms
import Derived.Maps.AppendAt
namespace Go.Proofs.Ytonpoloahagddaa
open Go.RowKit Go.Shelf

attribute [local go_sem] Oper.semAt_some

def OwnI (w : World) (base : Nat) (v : Value) (xs : List Int) : Prop := w.ownsRow base 2 1 v xs.length (xs.map (Value.int .i64))
theorem info2 : (Try.prog.info? 2).map (fun i => (i.zero, i.size, i.bytes)) = some (some (.int .i64 0), 1, 8) := by kernel_rfl
theorem ownsRow_low {w : World} {base base' : Nat} {e : TypeId} {size : Nat} {v : Value} {k : Nat} {xs : List Value} (h : w.ownsRow base e size v k xs) (hb : base' ≤ base) : w.ownsRow base' e size v k xs := by
  refine ⟨h.1, ?_⟩
  rcases h.2 with h2 | ⟨g, cap, cur, hv, hg, r⟩
  · exact Or.inl h2
  · exact Or.inr ⟨g, cap, cur, hv, by omega, r⟩
theorem OwnI.ge {w w' : World} {base : Nat} {v : Value} {xs : List Int} (h : OwnI w base v xs) (hg : Ge w w') : OwnI w' base v xs := by
  refine ⟨h.1, ?_⟩
  rcases h.2 with h2 | ⟨g, cap, cur, hv, hb, hh, r⟩
  · exact Or.inl h2
  · exact Or.inr ⟨g, cap, cur, hv, hb, (hg.block g (Array.getElem?_eq_some_iff.1 hh).1).trans hh, r⟩

theorem rest_run {w : World} {A : Option Addr} {bs : List Int} {p g : Nat} (hb : BytesAt w (.slice A bs.length bs.length) bs) (hp : p ≤ bs.length) (hA : A = none ∧ bs = [] ∨ ∃ b, A = some ⟨b, 0, none⟩ ∧ b ≠ g) :
    ∃ A', (∀ w' : World, (Instr.slice 23 (.slice A bs.length bs.length) (some (.int .i64 (p : Int))) none none).run Try.prog w' = .ok (.slice A' (bs.length - p) (bs.length - p)) w') ∧ BytesAt w (.slice A' (bs.length - p) (bs.length - p)) (bs.drop p) := by
  rcases hA with ⟨rfl, rfl⟩ | ⟨b, rfl, hbg⟩
  · obtain rfl : p = 0 := by simpa using hp
    refine ⟨none, fun w' => ?_, by simpa using hb⟩
    go_simp
  · refine ⟨_, fun w' => ?_, hb.rest⟩
    have h1 : (p : Int) ≤ (bs.length : Int) := by omega
    go_simp

set_option maxRecDepth 100000 in
set_option maxHeartbeats 4000000 in
theorem nums_any {w : World} {g : Nat} {bs : List Int} {p : Nat} (h : Rd w g bs p) :
    Calls Try.prog 28 #[.pointer (some ⟨g, 0, none⟩)] w fun e w' =>
      e = .returned (.func (.func 43) #[] #[.pointer (some ⟨w.heap.size, 0, none⟩)]) ∧ (∃ v, Boxed w' w.heap.size 28 v ∧ OwnI w' w.heap.size v (numsL (bs.drop p))) ∧ Ge w w' := by
  have HR := Lib.hid h
  have hgl : g < w.heap.size := by obtain ⟨A, X, _⟩ := h; exact X.lt
  obtain ⟨A, X, hb, hi, hp, hl, hA⟩ := h
  have HI := Lib.hid hi
  have HB := Lib.hid hb
  have hnl := numsL_len (bs.drop p)
  rw [List.length_drop] at hnl
  obtain ⟨A', hsl, hrest⟩ : ∃ A', (∀ w' : World, (Instr.slice 23 (.slice A bs.length bs.length) (some (.int .i64 (p : Int))) none none).run Try.prog w' = .ok (.slice A' (bs.length - p) (bs.length - p)) w') ∧ BytesAt w (.slice A' (bs.length - p) (bs.length - p)) (bs.drop p) := rest_run hb hp hA
  have HRest := Lib.hid hrest
  clear hi hb hA hrest
  refine (callsIn_wide (n := 3)).1 ?_
  refine callsIn_of_wp_marks Try.func28 rfl trivial ?_ rfl
  simp only [Try.ntmps28, List.size_toArray, List.length_cons, List.length_nil, Nat.reduceAdd, Nat.reduceSub, Array.replicate_succ, Array.replicate_zero, List.push_toArray, List.append_toArray, List.nil_append, List.cons_append]
  have f38 : Fence.wide.fn 38 := trivial
  gi_wp2_with fail
  refine (callsIn_wide.2 (made_yes (X.alloc _))).mono ?_
  rintro e w1 ⟨rfl, rfl⟩
  gi_wp2
  refine wpIn_wide.2 ?_
  refine Dr.wp_region_T (by kernel_rfl) (by kernel_rfl) ?_
  have Y := X.alloc (.cells #[.slice none 0 0] 28)
  iterate 8 (apply Dr.wpT_det; · (intro y w2 hw hF; clear hF; have c := (Y.ge hw).cell; have l := (Y.ge hw).lt; go_simp; first | exact ⟨Ge.refl _, rfl⟩ | exact Ge.refl _ | rfl))
  refine Dr.wpT_det (.slice A' (bs.length - p) (bs.length - p)) ?_ ?_
  · intro y w2 hw hF
    clear hF
    have hs2 := hsl w2
    go_simp
    first | exact ⟨Ge.refl _, rfl⟩ | exact Ge.refl _ | rfl
  refine Dr.wpT_non (fun v wv => ∃ Bt, v = .func (.func 48) #[] #[.pointer (some ⟨Bt, 0, none⟩)] ∧ w.heap.size + 1 ≤ Bt ∧ Bx wv Bt 23 #[.slice A' (bs.length - p) (bs.length - p)]) (fun v wa wb hg ⟨Bt, h1, h2, h3⟩ => ⟨Bt, h1, h2, h3.ge hg⟩) ?_ ?_
  · intro y w2 hw hF
    clear hF
    have C := Lib.hid ((callsIn_wide (n := 1)).1 (forms_in 1 A' (bs.length - p) (bs.length - p) w2))
    have hsz := hw.size
    simp at hsz
    go_simp
    refine C.out.mono ?_
    rintro e w3 ⟨rfl, rfl⟩
    exact ⟨_, rfl, (Ge.refl _).alloc _, _, rfl, hsz, Bx.new _ _ _ rfl⟩
  intro y w2 hw hF
  have hF9 := hF 9 (by omega)
  clear hF
  simp only [if_true] at hF9
  obtain ⟨Bt, hy9, hBt, XBt⟩ := hF9
  simp only [Act.put, List.setIfInBounds_toArray, List.set_cons_zero, List.set_cons_succ]
  rw [hy9]
  clear hy9
  have G2 := Lib.hid ((Ge.refl w).alloc (.cells #[.slice none 0 0] 28) |>.trans hw)
  have XL : Boxed w2 w.heap.size 28 (.slice none 0 0) := (Bx.new w 28 #[.slice none 0 0] rfl).ge hw
  clear hw Y y
  have hszW : Bt + 1 ≤ w2.heap.size := XBt.lt
  have hws : w.heap.size ≤ w2.heap.size := G2.out.size
  have hdl : (bs.drop p).length = bs.length - p := List.length_drop
  have HF := Lib.hid (forms_moves Bt w w2 A' (bs.length - p) (bs.drop p) (by rw [hdl]; exact HRest.out) (HI.out.drop p) (by rw [hdl]; omega) (by omega) G2.out (by rw [hdl]; exact XBt))
  have HDL := Lib.hid hdl
  have HNL := Lib.hid hnl
  clear hdl hsl X HR HI HB HRest hnl
  gi_wp2_with fail
  refine range_moves (Bt := Bt) rfl rfl XBt.lt hws HF.out
    (fun pre W => ((∃ v, Boxed W w.heap.size 28 v ∧ W.ownsRow (Bt + 1) 2 1 v pre.length (pre.map (Value.int .i64)) ∧ True) ∧ Bt + 1 ≤ W.heap.size) ∧ Below w.heap.size w W)
    (fun s A A' g hs => by
      obtain ⟨⟨⟨v, hv, hr, -⟩, hs⟩, hB⟩ := hs
      exact ⟨⟨⟨v, g.bx hv, ownsRow_aside g hr, trivial⟩, Nat.le_trans hs g.size⟩, g.ge hws hB⟩)
    ?turn
    ⟨⟨⟨_, XL, World.ownsRow_nil _ _ _ _, trivial⟩, hszW⟩, G2.out⟩
    (fun x => { tmps := #[.pointer (some ⟨g, 0, none⟩), undef, .nilFunc, .pointer (some ⟨w.heap.size, 0, none⟩), .int .i64 x, .pointer (some ⟨g, 0, none⟩), .bool true, .pointer (some ⟨g, 0, none⟩), .pointer (some ⟨g, 0, none⟩), .pointer (some ⟨g, 1, none⟩), .slice A bs.length bs.length,
      .pointer (some ⟨g, 0, none⟩), .pointer (some ⟨g, 0, none⟩), .pointer (some ⟨g, 2, none⟩), .int .i64 (p : Int), .slice A' (bs.length - p) (bs.length - p), .func (.func 48) #[] #[.pointer (some ⟨Bt, 0, none⟩)], .int .i64 x, undef, undef, undef, undef, undef], defers := [] }) ?assign ?body ?done
  case turn =>
    rintro s W W' ⟨⟨⟨v, hv, hr, -⟩, hs⟩, hB⟩ hg
    exact ⟨⟨⟨v, hv.kept hg (by simp; omega), hr.kept hg (.inr (fun e => by have := (hr.lt Bt e).1; omega)), trivial⟩, Nat.le_trans hs hg.size⟩, Below.grown hB hg hB.size (fun k hk => by cases hk; omega)⟩
  case assign =>
    intro l x W K hK
    gi_wp2
    exact hK
  case body =>
    rintro l pre x W ⟨⟨⟨v, hv, hrow, -⟩, hszW⟩, hB⟩ hlen
    have hcl := hv.cell
    have hlv := hv.lt
    obtain ⟨A2, cap, hvv⟩ : ∃ A cap, v = .slice A pre.length cap := by
      rcases hrow.2 with ⟨rfl, hn⟩ | ⟨g, cap, cur, rfl, _⟩
      · exact ⟨none, 0, by rw [hn]⟩
      · exact ⟨_, cap, rfl⟩
    subst hvv
    obtain ⟨i0, hi, hz0, hz1, hz2⟩ := info_parts info2
    have key : ∀ (v' : Value) (w1 : World),
        w1.ownsRow (Bt + 1) 2 1 v' (pre.length + 1) (pre.map (Value.int .i64) ++ [.int .i64 x]) → (W.alloc (.cells #[.int .i64 x] 2)).grownBy w1 (Value.slice A2 pre.length cap).ownBlock →
        w1.cell? ⟨w.heap.size, 0, none⟩ = some (.slice A2 pre.length cap) ∧ w1.frozen? ⟨w.heap.size, 0, none⟩ = false ∧ KeepsOthers W (w1.setCell ⟨w.heap.size, 0, none⟩ v') ∧ (KeepB Bt W (w1.setCell ⟨w.heap.size, 0, none⟩ v') ∧ Below w.heap.size W (w1.setCell ⟨w.heap.size, 0, none⟩ v')) ∧
        (((∃ v, Boxed (w1.setCell ⟨w.heap.size, 0, none⟩ v') w.heap.size 28 v ∧ (w1.setCell ⟨w.heap.size, 0, none⟩ v').ownsRow (Bt + 1) 2 1 v (pre ++ [x]).length ((pre ++ [x]).map (Value.int .i64)) ∧ True) ∧ Bt + 1 ≤ (w1.setCell ⟨w.heap.size, 0, none⟩ v').heap.size) ∧ Below w.heap.size w (w1.setCell ⟨w.heap.size, 0, none⟩ v')) := by
      intro v' w1 hown hgrow
      obtain ⟨a1, a2, a3, a4, a5⟩ := hv.appended (by decide) (ownsRow_low hrow (base' := w.heap.size) (by omega)) (by omega) (Nat.le_refl _) (ownsRow_low hown (base' := w.heap.size) (by omega)) hgrow
      have hkb : KeepB Bt W (w1.setCell ⟨w.heap.size, 0, none⟩ v') := by
        unfold KeepB
        rw [show (w1.setCell ⟨w.heap.size, 0, none⟩ v').heap[Bt]? = w1.heap[Bt]? from (grownBy_setCell' w1 w.heap.size v').block Bt (Nat.lt_of_lt_of_le hszW (Nat.le_trans (by simp) hgrow.size)) (by simp; omega)]
        rw [hgrow.block Bt (by simp; omega) (fun e => by have := (hrow.lt Bt e.symm).1; omega)]
        exact Below.heap_alloc _ _ _ (by omega)
      refine ⟨a1.cell, a1.frozen, a4, ⟨hkb, a5⟩, ⟨⟨⟨v', a2, ?_, trivial⟩, ?_⟩, hB.trans a5⟩⟩
      · have h3 := hown.kept (grownBy_setCell' w1 w.heap.size v') (.inr (a1.not_row (by decide) hown).symm)
        simpa using h3
      · have := a5.size
        omega
    have hnew : ∀ (j : Nat) (u : Value), [Value.int .i64 x][j]? = some u → (W.alloc (.cells #[.int .i64 x] 2)).cell? ((⟨W.heap.size, 0, none⟩ : Addr).add j) = some u := by
      intro j u hu
      rcases j with _ | j
      · simp at hu
        subst hu
        rw [addr_add]
        exact (Bx.new W 2 #[.int .i64 x] rfl).cell 0
      · simp at hu
    have KEY := Lib.hid key
    have HNEW := Lib.hid hnew
    have HROWS := Lib.hid (hrow.alloc (.cells #[.int .i64 x] 2))
    have C3 : Bt + 1 ≤ (W.alloc (.cells #[.int .i64 x] 2)).heap.size := by simp; omega
    have HC3 := Lib.hid C3
    have hle2 : pre.length < bs.length - p := by rw [← HDL.out]; exact hlen
    clear key hnew hv hrow C3
    gi_wp2_with (gi_at_builtin; refine wpListIn_append_own _ rfl (.tmp 18) (.tmp 20) 28 rfl (Bt + 1) 2 i0 (.int .i64 0) 1 8 Try.underlying28 hi hz0 hz1 hz2 rfl (by decide) _ pre.length _ rfl HROWS.out ⟨W.heap.size, 0, none⟩ 1 1 [.int .i64 x] rfl rfl HNEW.out (fun u hu => by simp at hu; rw [hu]; rfl) (by simp only [maxLen]; omega) (by omega) HC3.out ?_; intro v' w1 hown hgrow _hn; obtain ⟨k1, k2, k3, k4, k5⟩ := KEY.out v' w1 hown hgrow; have K3 := Lib.hid k3; have K4 := Lib.hid k4; have K5 := Lib.hid k5; obtain ⟨g', cap', rfl⟩ := ownsRow_succ hown; clear k3 k4 k5 hown hgrow _hn)
    exact ⟨K3.out, K4.out, K5.out⟩
  case done =>
    rintro D ys W hD rfl ⟨⟨⟨v, hv, hrow, -⟩, hszW⟩, hB⟩ hK
    gi_wp2
    refine ⟨by simp, .inl ⟨_, _, rfl, run_takeDeferred hK, ?_⟩⟩
    refine ⟨_, results_tmp rfl _ _ _, rfl, ⟨v, hv.kept (grownBy_putObj' W D _) (by simp; omega), ownsRow_low (ownsRow_putObj hrow _ hK rfl) (by omega)⟩, hB.trans (belowK_b (w := w) (Nat.le_refl _) W D _ _ (by omega) hK rfl rfl)⟩
end Go.Proofs.Ytonpoloahagddaa
