/-
  WireNone: the walk.
-/
import Derived.RangeFuncNested
import Derived.RangeFuncBound
import Derived.RangeFuncCalls
import Derived.RangeFuncLeaves
import Derived.Shelf.Abstract
import Derived.Shelf.RegionOpen
import Derived.WalkKit
import Derived.OwnWalkIn
import Derived.TacticsInMore
import Derived.LoopNIn
import Derived.LoopIn
import Derived.RangeFuncBox
import Derived.Test.YtonpoloahagddaaNone
import Derived.Test.YtonpoloahagddaaLive
namespace Go.Proofs.Ytonpoloahagddaa
open Go.RowKit Go.Shelf

attribute [local go_sem] Oper.semAt_some

/-- one block is as it was -/
def KeepB (B : Nat) (W W' : World) : Prop := W'.heap[B]? = W.heap[B]?
theorem KeepB.trans {B : Nat} {W1 W2 W3 : World} (h : KeepB B W1 W2) (k : KeepB B W2 W3) : KeepB B W1 W3 := Eq.trans k h
theorem KeepB.putObj {B N : Nat} (hB : B < N) (W : World) (l : Nat) (o o' : Obj) (hl : N ≤ l) (_ : W.heap[l]? = some o) (_ : o.isCells = false) (_ : o.isWalk = false) : KeepB B W (W.putObj l o') :=
  World.putObj_heap_other (by omega)

/-- these blocks are known whole; the world has but grown -/
def Hold (w : World) (ks : List (Nat × TypeId × Array Value)) (W : World) : Prop := (∀ x ∈ ks, Bx W x.1 x.2.1 x.2.2) ∧ Ge w W
theorem Hold.ge {w W W' : World} {ks : List (Nat × TypeId × Array Value)} (h : Hold w ks W) (hg : Ge W W') : Hold w ks W' := ⟨fun x hx => (h.1 x hx).ge hg, h.2.trans hg⟩
theorem hold_own {β : Type} (w : World) (ks : List (Nat × TypeId × Array Value)) {B : Nat} (hB : w.heap.size ≤ B) : OwnFrom B (fun (_ : β) W => Hold w ks W) := by
  intro s W W' row ⟨h1, h2⟩ hg hr
  refine ⟨fun x hx => ?_, Below.grown h2 hg h2.size (fun k hk => Nat.le_trans hB (hr k hk).1)⟩
  refine (hg.block x.1 (h1 x hx).lt (fun e => ?_)).trans (h1 x hx)
  obtain ⟨o, ho, hc⟩ := (hr x.1 e.symm).2
  have := h1 x hx
  unfold Bx at this
  rw [this] at ho
  cases ho
  cases hc
theorem obj_own {β : Type} {D B : Nat} (o : Obj) (hD : D < B) : OwnFrom B (fun (_ : β) W => W.heap[D]? = some o) := by
  intro s W W' row h hg hr
  refine (hg.block D (Array.getElem?_eq_some_iff.1 h).1 (fun e => ?_)).trans h
  have := (hr D e.symm).1
  omega

set_option maxHeartbeats 1000000 in
theorem nums_none {w : World} {v : Value} (h : NM w v) : Calls Try.prog 28 #[v] w fun e w' => e = .returned (.func (.func 43) #[] #[.pointer (some ⟨w.heap.size, 0, none⟩)]) ∧ w' = w.alloc (.cells #[.slice none 0 0] 28) := by
  have H := Lib.hid (h _ ((Ge.refl w).alloc (.cells #[.slice none 0 0] 28)))
  go_enter Try.func28, Try.ntmps28
  go_wp2_with fail
  refine H.out.mono ?_
  rintro e w1 ⟨rfl, rfl⟩
  go_wp2
  go_returns
  exact ⟨rfl, rfl⟩

set_option maxRecDepth 100000 in
set_option maxHeartbeats 2000000 in
theorem nums_stops (n : Nat) (Bt : Nat) (w : World) (hX : Bx w Bt 28 #[.slice none 0 0]) :
    SeqStopsK Fence.wide n Try.prog 43 #[.pointer (some ⟨Bt, 0, none⟩)] (fun x : Int => #[.int .i64 x]) (KeepB Bt) (fun ys => ys = []) (fun _ => False) 0 w := fun l J Jx W hW hJ _ hY h0 => by
  have X : Bx W Bt 28 #[.slice none 0 0] := (hW.block Bt hX.lt).trans hX
  have c := X.cell
  have lt := X.lt
  have H0 := Lib.hid h0
  clear hY h0 hJ
  show CallsIn Fence.wide n Try.prog 43 #[.func (.yield l) #[] #[], .pointer (some ⟨Bt, 0, none⟩)] W _
  refine callsIn_of_wp Try.func43 rfl trivial ?_ rfl
  simp only [Try.ntmps43, List.size_toArray, List.length_cons, List.length_nil, Nat.reduceAdd, Nat.reduceSub, Array.replicate_succ, Array.replicate_zero, List.push_toArray, List.append_toArray, List.nil_append, List.cons_append]
  gi_wp2
  refine wpIn_loop_rounds 1 ?_
  rw [roundsIn_succ]
  gi_wp2
  go_end0
  exact ⟨⟨_, rfl⟩, .inl ⟨_, rfl, H0.out⟩⟩

theorem nil43 (B : Nat) (w : World) : (binOp .eql 60 (.func (.func 43) #[] #[.pointer (some ⟨B, 0, none⟩)]) .nilFunc).run Try.prog w = .ok (.bool false) w := by kernel_rfl
theorem neq57 (w : World) : (binOp .neq 57 (.agg #[.int .i64 0, .string ⟨#[]⟩, .int .i64 2]) (.agg #[.int .i64 0, .string ⟨#[]⟩, .int .i64 2])).run Try.prog w = .ok (.bool false) w := by kernel_rfl

set_option maxRecDepth 100000 in
set_option maxHeartbeats 4000000 in
theorem none_any (d a b : Int) (w : World) :
    Calls Try.prog 7 #[.agg #[.int .i64 d, .int .i64 a, .int .i64 b]] w fun e w' => e = .returned (.bool true) ∧ Ge w w' := by
  refine (callsIn_wide (n := 3)).1 ?_
  refine callsIn_of_wp_marks Try.func7 rfl trivial ?_ rfl
  simp only [Try.ntmps7, List.size_toArray, List.length_cons, List.length_nil, Nat.reduceAdd, Nat.reduceSub, Array.replicate_succ, Array.replicate_zero, List.push_toArray, List.append_toArray, List.nil_append, List.cons_append]
  have f9 : Fence.wide.fn 9 := trivial
  have f27 : Fence.wide.fn 27 := trivial
  have f25 : Fence.wide.fn 25 := trivial
  have f28 : Fence.wide.fn 28 := trivial
  gi_wp2_with fail
  refine (callsIn_wide.2 (live_any _)).mono ?_
  rintro e w1 ⟨rfl, hg1⟩
  have XT : Bx w1 w.heap.size 52 #[.int .i64 d, .int .i64 a, .int .i64 b] := ((Bx.new _ _ _ rfl).alloc _).ge hg1
  have XR : Bx w1 (w.heap.size + 1) 4 #[.bool false] := (Bx.new _ _ _ (by simp)).ge hg1
  have G1 := Lib.hid ((((Ge.refl w).alloc _).alloc _).trans hg1)
  clear hg1
  gi_wp2
  obtain ⟨W1, hW1⟩ : ∃ W1, W1 = (w1.alloc (.cells #[.bool false, .slice none 0 0, .int .i64 0] 54)).alloc (.cells #[.pointer none, .pointer (some ⟨w1.heap.size, 0, none⟩)] 40) := ⟨_, rfl⟩
  rw [← hW1]
  have H : Hold w [(w.heap.size, 52, #[.int .i64 d, .int .i64 a, .int .i64 b]), (w.heap.size + 1, 4, #[.bool false]), (w1.heap.size, 54, #[.bool false, .slice none 0 0, .int .i64 0]), (w1.heap.size + 1, 40, #[.pointer none, .pointer (some ⟨w1.heap.size, 0, none⟩)])] W1 := by
    rw [hW1]
    refine ⟨fun x hx => ?_, (G1.out.alloc _).alloc _⟩
    simp only [List.mem_cons, List.not_mem_nil, or_false] at hx
    rcases hx with rfl | rfl | rfl | rfl
    · exact (XT.alloc _).alloc _
    · exact (XR.alloc _).alloc _
    · exact (Bx.new _ _ _ rfl).alloc _
    · exact Bx.new _ _ _ (by simp)
  have hw1 : w.heap.size + 1 < w1.heap.size := XR.lt
  clear hW1 XT XR G1
  refine wpIn_loop_rounds 3 ?_
  have XT := H.1 _ (List.mem_cons_self)
  have XR := H.1 _ (List.mem_cons_of_mem _ List.mem_cons_self)
  have XZ := H.1 _ (List.mem_cons_of_mem _ (List.mem_cons_of_mem _ List.mem_cons_self))
  have XS := H.1 _ (List.mem_cons_of_mem _ (List.mem_cons_of_mem _ (List.mem_cons_of_mem _ List.mem_cons_self)))
  dsimp only at XT XR XZ XS
  have M := Lib.hid (nm_nil W1)
  have cT := XT.cell
  have lT := XT.lt
  have cS := XS.cell
  have lS := XS.lt
  have hn57 := neq57
  have hn43 := nil43
  rw [roundsIn_succ]
  gi_wp2_with fail
  refine (callsIn_wide.2 (takes_none M.out d a b)).mono ?_
  rintro e u0 ⟨rfl, hgu⟩
  replace H := H.ge hgu
  replace M := Lib.hid (M.out.ge hgu)
  clear hgu cT lT cS lS XT XR XZ XS
  gi_wp2_with fail
  refine (callsIn_wide.2 (at_none M.out)).mono ?_
  rintro e v0 ⟨rfl, hv⟩
  rw [hv]
  clear hv
  gi_wp2_with fail
  refine (callsIn_wide.2 (nums_none M.out)).mono ?_
  rintro e z0 ⟨rfl, rfl⟩
  gi_wp2_with fail
  obtain ⟨V0, hV⟩ : ∃ V, V = u0.alloc (.cells #[.slice none 0 0] 28) := ⟨_, rfl⟩
  rw [← hV]
  have XN : Bx V0 u0.heap.size 28 #[.slice none 0 0] := by rw [hV]; exact Bx.new _ _ _ rfl
  replace H : Hold w [(w.heap.size, 52, #[.int .i64 d, .int .i64 a, .int .i64 b]), (w.heap.size + 1, 4, #[.bool false]), (w1.heap.size, 54, #[.bool false, .slice none 0 0, .int .i64 0]), (w1.heap.size + 1, 40, #[.pointer none, .pointer (some ⟨w1.heap.size, 0, none⟩)])] V0 := by rw [hV]; exact H.ge ((Ge.refl _).alloc _)
  have hsV : w.heap.size ≤ V0.heap.size := H.2.size
  clear hV M
  refine wpIn_rangeFunc_ownF rfl (by omega) (gf := 43) (lb := #[.pointer (some ⟨u0.heap.size, 0, none⟩)]) rfl trivial (enters_of Try.func43 (by kernel_rfl) rfl) (nums_stops 2 _ V0 XN) (fun h k => KeepB.trans h k) (fun W l o o' hl h1 h2 h3 => KeepB.putObj XN.lt W l o o' hl h1 h2 h3) (Below.refl _ _) (fun _ => rfl) (fun (_ : List Int) W => Hold w [(w.heap.size, 52, #[.int .i64 d, .int .i64 a, .int .i64 b]), (w.heap.size + 1, 4, #[.bool false]), (w1.heap.size, 54, #[.bool false, .slice none 0 0, .int .i64 0]), (w1.heap.size + 1, 40, #[.pointer none, .pointer (some ⟨w1.heap.size, 0, none⟩)])] W) (fun _ _ _ => False) (hold_own w [(w.heap.size, 52, #[.int .i64 d, .int .i64 a, .int .i64 b]), (w.heap.size + 1, 4, #[.bool false]), (w1.heap.size, 54, #[.bool false, .slice none 0 0, .int .i64 0]), (w1.heap.size + 1, 40, #[.pointer none, .pointer (some ⟨w1.heap.size, 0, none⟩)])] hsV) (fun _ _ _ _ _ hs _ _ => hs) H ?a0 ?assign0 ?body0 ?done0 ?stop0
  case assign0 =>
    intro l x W K hK
    gi_wp2
    exact hK
  case body0 =>
    rintro l pre x W _ hlen
    exact absurd hlen (by omega)
  case stop0 =>
    rintro D c pre W _ _ h _
    exact h.elim
  have zw0 : w.heap.size ≤ V0.heap.size := hsV
  rintro D0 ys V hD0 rfl H hK0
  skip
  gi_wp2
  have XT := H.1 _ (List.mem_cons_self)
  have XR := H.1 _ (List.mem_cons_of_mem _ List.mem_cons_self)
  have XZ := H.1 _ (List.mem_cons_of_mem _ (List.mem_cons_of_mem _ List.mem_cons_self))
  have XS := H.1 _ (List.mem_cons_of_mem _ (List.mem_cons_of_mem _ (List.mem_cons_of_mem _ List.mem_cons_self)))
  dsimp only at XT XR XZ XS
  have M := Lib.hid (nm_zero XZ)
  have cT := XT.cell
  have lT := XT.lt
  have cS := XS.cell
  have lS := XS.lt
  have hn57 := neq57
  have hn43 := nil43
  rw [roundsIn_succ]
  gi_wp2_with fail
  refine (callsIn_wide.2 (takes_none M.out d a b)).mono ?_
  rintro e u1 ⟨rfl, hgu⟩
  replace H := H.ge hgu
  replace M := Lib.hid (M.out.ge hgu)
  replace hK0 : u1.heap[D0]? = some (.deferred (some [])) := (hgu.block D0 (Array.getElem?_eq_some_iff.1 hK0).1).trans hK0
  clear hgu cT lT cS lS XT XR XZ XS
  gi_wp2_with fail
  refine (callsIn_wide.2 (at_none M.out)).mono ?_
  rintro e v1 ⟨rfl, hv⟩
  rw [hv]
  clear hv
  gi_wp2_with fail
  refine (callsIn_wide.2 (nums_none M.out)).mono ?_
  rintro e z1 ⟨rfl, rfl⟩
  gi_wp2_with fail
  obtain ⟨V1, hV⟩ : ∃ V, V = u1.alloc (.cells #[.slice none 0 0] 28) := ⟨_, rfl⟩
  rw [← hV]
  have XN : Bx V1 u1.heap.size 28 #[.slice none 0 0] := by rw [hV]; exact Bx.new _ _ _ rfl
  replace H : Hold w [(w.heap.size, 52, #[.int .i64 d, .int .i64 a, .int .i64 b]), (w.heap.size + 1, 4, #[.bool false]), (w1.heap.size, 54, #[.bool false, .slice none 0 0, .int .i64 0]), (w1.heap.size + 1, 40, #[.pointer none, .pointer (some ⟨w1.heap.size, 0, none⟩)])] V1 := by rw [hV]; exact H.ge ((Ge.refl _).alloc _)
  replace hK0 : V1.heap[D0]? = some (.deferred (some [])) := by rw [hV]; exact (Below.heap_alloc _ _ _ (Array.getElem?_eq_some_iff.1 hK0).1).trans hK0
  have hsV : w.heap.size ≤ V1.heap.size := H.2.size
  clear hV M
  refine wpIn_rangeFunc_ownF rfl (by omega) (gf := 43) (lb := #[.pointer (some ⟨u1.heap.size, 0, none⟩)]) rfl trivial (enters_of Try.func43 (by kernel_rfl) rfl) (nums_stops 2 _ V1 XN) (fun h k => KeepB.trans h k) (fun W l o o' hl h1 h2 h3 => KeepB.putObj XN.lt W l o o' hl h1 h2 h3) (Below.refl _ _) (fun _ => rfl) (fun (_ : List Int) W => Hold w [(w.heap.size, 52, #[.int .i64 d, .int .i64 a, .int .i64 b]), (w.heap.size + 1, 4, #[.bool false]), (w1.heap.size, 54, #[.bool false, .slice none 0 0, .int .i64 0]), (w1.heap.size + 1, 40, #[.pointer none, .pointer (some ⟨w1.heap.size, 0, none⟩)])] W ∧ W.heap[D0]? = some (.deferred (some []))) (fun _ _ _ => False) (OwnFrom.and (hold_own w [(w.heap.size, 52, #[.int .i64 d, .int .i64 a, .int .i64 b]), (w.heap.size + 1, 4, #[.bool false]), (w1.heap.size, 54, #[.bool false, .slice none 0 0, .int .i64 0]), (w1.heap.size + 1, 40, #[.pointer none, .pointer (some ⟨w1.heap.size, 0, none⟩)])] hsV) (obj_own _ (Array.getElem?_eq_some_iff.1 hK0).1)) (fun _ _ _ _ _ hs _ _ => hs) ⟨H, hK0⟩ ?a1 ?assign1 ?body1 ?done1 ?stop1
  case assign1 =>
    intro l x W K hK
    gi_wp2
    exact hK
  case body1 =>
    rintro l pre x W _ hlen
    exact absurd hlen (by omega)
  case stop1 =>
    rintro D c pre W _ _ h _
    exact h.elim
  have hlt0 : D0 < V1.heap.size := (Array.getElem?_eq_some_iff.1 hK0).1
  clear hK0
  have zw1 : w.heap.size ≤ V1.heap.size := hsV
  rintro D1 ys V hD1 rfl ⟨H, hK0⟩ hK1
  skip
  gi_wp2
  rw [roundsIn_succ]
  have XT := H.1 _ (List.mem_cons_self)
  have XR := H.1 _ (List.mem_cons_of_mem _ List.mem_cons_self)
  have XZ := H.1 _ (List.mem_cons_of_mem _ (List.mem_cons_of_mem _ List.mem_cons_self))
  have XS := H.1 _ (List.mem_cons_of_mem _ (List.mem_cons_of_mem _ (List.mem_cons_of_mem _ List.mem_cons_self)))
  dsimp only at XT XR XZ XS
  have cR := XR.cell
  have lR := XR.lt
  have fR := XR.frozen
  gi_wp2
  obtain ⟨W2, hW2⟩ : ∃ W2, W2 = V.setCell ⟨w.heap.size + 1, 0, none⟩ (.bool true) := ⟨_, rfl⟩
  rw [← hW2]
  have X2 : Bx W2 (w.heap.size + 1) 4 #[.bool true] := by rw [hW2]; exact XR.set 0 _
  have d1 : D1 ≠ w.heap.size + 1 := by rintro rfl; unfold Bx at XR; rw [XR] at hK1; cases hK1
  have d0 : D0 ≠ w.heap.size + 1 := by rintro rfl; unfold Bx at XR; rw [XR] at hK0; cases hK0
  have k1 : W2.heap[D1]? = some (.deferred (some [])) := by rw [hW2]; exact (Below.heap_setCell _ _ _ _ d1).trans hK1
  have k0 : W2.heap[D0]? = some (.deferred (some [])) := by rw [hW2]; exact (Below.heap_setCell _ _ _ _ d0).trans hK0
  have g2 : Ge w W2 := by rw [hW2]; exact Below.setCell H.2 (by show w.heap.size ≤ w.heap.size + 1; omega) _
  clear hW2 cR lR fR
  have k0' : (W2.putObj D1 (.deferred none)).heap[D0]? = some (.deferred (some [])) := (World.putObj_heap_other (by omega)).trans k0
  have X3 : Bx ((W2.putObj D1 (.deferred none)).putObj D0 (.deferred none)) (w.heap.size + 1) 4 #[.bool true] := (World.putObj_heap_other (by omega)).trans ((World.putObj_heap_other (by omega)).trans X2)
  have g3 : Ge w ((W2.putObj D1 (.deferred none)).putObj D0 (.deferred none)) := (Below.trans g2 (belowK_b (w := w) (Nat.le_refl _) W2 D1 _ _ (by omega) k1 rfl rfl)).trans (belowK_b (w := w) (Nat.le_refl _) _ D0 _ _ (by omega) k0' rfl rfl)
  have c3 := X3.cell
  refine ⟨by simp, .inl ⟨_, _, rfl, run_takeDeferred k1, by simp, .inl ⟨_, _, rfl, run_takeDeferred k0', ?_⟩⟩⟩
  refine ⟨.bool true, by simp [results, Try.results7, go_sem, c3], rfl, g3⟩
end Go.Proofs.Ytonpoloahagddaa
