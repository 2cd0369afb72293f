/-
  What a net that no call made answers: All, Head, Clone.
-/
import Derived.Test.YtmhibpmgnicolaaDoorMsgIn
import Derived.Test.YtmhibpmgnicolaaDoorTake
import Derived.Test.YtmhibpmgnicolaaDoorLeft
namespace Go.Proofs.YtmhibpmgnicolaaDoor
open Go.RowKit Go.Shelf

attribute [local go_sem] Oper.semAt_some

theorem all_no {w : World} {v : Value} (h : NoNet w v) (f t : Int) :
    Calls Tryd.prog 21 #[v, .int .i64 f, .int .i64 t] w fun e w' => ∃ Bt, e = .returned (.func (.func 44) #[] #[.pointer (some ⟨Bt, 0, none⟩)]) ∧ Bx w' Bt 72 #[.slice none 0 0] ∧ Ge w w' := by
  have HR := Lib.hid (row_no (h.ge ((Ge.refl w).alloc (.cells #[.slice none 0 0] 72))) f t)
  go_enter Tryd.func21, Tryd.ntmps21
  go_wp2_with fail
  refine HR.out.mono ?_
  rintro e w1 ⟨rfl, g1⟩
  have HG := Lib.hid (((Ge.refl w).alloc _).trans g1)
  have HX := Lib.hid ((Bx.new w 72 #[.slice none 0 0] rfl).ge g1)
  clear g1
  go_wp2
  go_returns
  exact ⟨_, rfl, HX.out, HG.out⟩

theorem clone_no {w : World} {v : Value} (h : NoNet w v) : Calls Tryd.prog 12 #[v] w fun e w' => e = .returned (.pointer none) ∧ Ge w w' := by
  have HM := Lib.hid (made_no h)
  go_enter Tryd.func12, Tryd.ntmps12
  go_wp2_with fail
  refine HM.out.mono ?_
  rintro e w1 ⟨rfl, g1⟩
  have HG := Lib.hid g1
  clear g1
  go_wp2
  go_returns
  exact ⟨rfl, HG.out⟩

set_option maxRecDepth 100000 in
set_option maxHeartbeats 2000000 in
theorem seq_none (Bt : Nat) (w : World) (hX : Bx w Bt 72 #[.slice none 0 0]) : TellsNone 44 #[.pointer (some ⟨Bt, 0, none⟩)] w := fun l W hW => by
  have X : Bx W Bt 72 #[.slice none 0 0] := hX.ge hW
  have c := X.cell
  have lt := X.lt
  clear hX hW X
  show CallsIn Fence.wide 2 Tryd.prog 44 #[.func (.yield l) #[] #[], .pointer (some ⟨Bt, 0, none⟩)] W _
  refine callsIn_of_wp Tryd.func44 rfl trivial ?_ rfl
  simp only [Tryd.ntmps44, List.size_toArray, List.length_cons, List.length_nil, Nat.reduceAdd, Nat.reduceSub, Array.replicate_succ, Array.replicate_zero, List.push_toArray, List.append_toArray, List.nil_append, List.cons_append]
  gi_wp2
  refine wpIn_loop_rounds 1 ?_
  rw [roundsIn_succ]
  gi_wp2
  go_end0
  exact ⟨⟨_, rfl⟩, rfl⟩

theorem nil44 (B : Nat) (w : World) : (binOp .eql 65 (.func (.func 44) #[] #[.pointer (some ⟨B, 0, none⟩)]) .nilFunc).run Tryd.prog w = .ok (.bool false) w := by kernel_rfl

theorem results_msg_cell {fn : Func} {p q : Tmp} (h : fn.results = #[.cell p 45, .cell q 4]) (tmps : Array Value) (w : World) (g b : Nat) (cs : Array Value) (v : Value)
    (hp : tmps.getD p undef = .pointer (some ⟨g, 0, none⟩)) (hg : Bx w g 45 cs) (hs : cs.size = 19) (hq : tmps.getD q undef = .pointer (some ⟨b, 0, none⟩)) (hb : Bx w b 4 #[v]) :
    (results fn tmps).run Tryd.prog w = .ok (.tuple #[.agg cs, v]) w := by
  have hp' : tmps[p]?.getD undef = .pointer (some ⟨g, 0, none⟩) := by simpa using hp
  have hq' : tmps[q]?.getD undef = .pointer (some ⟨b, 0, none⟩) := by simpa using hq
  have hl := run_loadVar_row w g 45 45 cs (0, 0) _ hg Tryd.underlying45 rfl (i45s hs)
  have c0 := hb.cell 0
  simp [results, h, hp', hq', asAddr, hl]
  go_simp

set_option maxRecDepth 100000 in
set_option maxHeartbeats 4000000 in
theorem head_no {w : World} {v : Value} (h : NoNet w v) (f t : Int) :
    Calls Tryd.prog 19 #[v, .int .i64 f, .int .i64 t] w fun e w' => e = .returned (.tuple #[.agg (encG mzero nilS).toArray, .bool false]) ∧ Ge w w' := by
  have HA := Lib.hid (fun w' (g : Ge w w') => all_no (h.ge g) f t)
  rw [zero_msg]
  clear h
  refine (callsIn_wide (n := 3)).1 ?_
  refine callsIn_of_wp_marks Tryd.func19 rfl trivial ?_ rfl
  simp only [Tryd.ntmps19, List.size_toArray, List.length_cons, List.length_nil, Nat.reduceAdd, Nat.reduceSub, Array.replicate_succ, Array.replicate_zero, List.push_toArray, List.append_toArray, List.nil_append, List.cons_append]
  have f21 : Fence.wide.fn 21 := trivial
  gi_wp2_with fail
  refine (callsIn_wide.2 (HA.out _ (((Ge.refl w).alloc _).alloc _))).mono ?_
  rintro e w1 ⟨Bt, rfl, hX, g1⟩
  have HG1 := Lib.hid ((((Ge.refl w).alloc _).alloc _).trans g1)
  have HM1 := Lib.hid (((Bx.new w 45 (#[.int .i64 0, .int .i64 0, .int .i64 0, .int .i64 0, .int .i64 0, .int .i64 0, .int .i64 0, .int .i64 0, .int .i64 0, .int .i64 0, .slice none 0 0, .slice none 0 0, .slice none 0 0, .slice none 0 0, .slice none 0 0, .int .i64 0, .slice none 0 0, .bool false, .int .i64 0]) rfl).alloc _).ge g1)
  have HB1 := Lib.hid ((Bx.new (w.alloc (.cells #[.int .i64 0, .int .i64 0, .int .i64 0, .int .i64 0, .int .i64 0, .int .i64 0, .int .i64 0, .int .i64 0, .int .i64 0, .int .i64 0, .slice none 0 0, .slice none 0 0, .slice none 0 0, .slice none 0 0, .slice none 0 0, .int .i64 0, .slice none 0 0, .bool false, .int .i64 0] 45)) 4 #[.bool false] rfl).ge g1)
  have HX := Lib.hid hX
  clear g1 hX
  gi_wp2_with fail
  refine range_none (gf := 44) (lb := #[.pointer (some ⟨Bt, 0, none⟩)]) rfl (enters_of Tryd.func44 (by kernel_rfl) rfl) (seq_none _ _ HX.out) ?_
  rintro D V hD hV hK
  have HM2 := Lib.hid (HM1.out.ge hV)
  have HB2 := Lib.hid (HB1.out.ge hV)
  have HG2 := Lib.hid (HG1.out.trans hV)
  have HD := Lib.hid hD
  have HK := Lib.hid hK
  have c0 := HB2.out.cell
  have n0 := HB2.out.lt
  clear hV hK hD
  gi_wp2_with (refine wpListIn_store_msg (by rfl) (.tmp 6) (.tmp 15) (by rfl) w.heap.size #[.int .i64 0, .int .i64 0, .int .i64 0, .int .i64 0, .int .i64 0, .int .i64 0, .int .i64 0, .int .i64 0, .int .i64 0, .int .i64 0, .slice none 0 0, .slice none 0 0, .slice none 0 0, .slice none 0 0, .slice none 0 0, .int .i64 0, .slice none 0 0, .bool false, .int .i64 0] (by rfl) (by rfl) HM2.out rfl rfl (by simp [Value.oneCell']) (w0 := w) (Nat.le_refl _) HG2.out ?_; intro w5 x5 g5 f5; have HX5 := Lib.hid x5; have HG5 := Lib.hid g5; have HF5 := Lib.hid f5; have HB5 := Lib.hid (show Bx w5 (w.heap.size + 1) 4 #[.bool false] from (f5 _ (by omega)).trans (show Bx V _ 4 #[.bool false] by have := HB2.out; simpa using this)); clear x5 g5 f5 c0 n0; have c0 := HB5.out.cell; have n0 := HB5.out.lt; have z0 := HB5.out.frozen)
  obtain ⟨w6, hw6⟩ : ∃ x, x = w5.setCell ⟨w.heap.size + 1, 0, none⟩ (.bool false) := ⟨_, rfl⟩
  rw [← hw6]
  have hs1 : w.heap.size + 1 < w1.heap.size := by have := HB1.out.lt; simpa using this
  have hDs := HD.out
  have X6 : Bx w6 w.heap.size 45 #[.int .i64 0, .int .i64 0, .int .i64 0, .int .i64 0, .int .i64 0, .int .i64 0, .int .i64 0, .int .i64 0, .int .i64 0, .int .i64 0, .slice none 0 0, .slice none 0 0, .slice none 0 0, .slice none 0 0, .slice none 0 0, .int .i64 0, .slice none 0 0, .bool false, .int .i64 0] := by rw [hw6]; exact HX5.out.set_ne _ _ (by omega)
  have B6 : Bx w6 (w.heap.size + 1) 4 #[.bool false] := by rw [hw6]; exact HB5.out.set 0 _
  have k6 : w6.heap[D]? = some (.deferred (some [])) := by rw [hw6]; exact (Below.heap_setCell _ _ _ _ (by show D ≠ w.heap.size + 1; omega)).trans ((HF5.out D (by omega)).trans HK.out)
  have G6 : Ge w w6 := by rw [hw6]; exact Below.setCell HG5.out (by show w.heap.size ≤ w.heap.size + 1; omega) _
  have X7 : Bx (w6.putObj D (.deferred none)) w.heap.size 45 #[.int .i64 0, .int .i64 0, .int .i64 0, .int .i64 0, .int .i64 0, .int .i64 0, .int .i64 0, .int .i64 0, .int .i64 0, .int .i64 0, .slice none 0 0, .slice none 0 0, .slice none 0 0, .slice none 0 0, .slice none 0 0, .int .i64 0, .slice none 0 0, .bool false, .int .i64 0] := (World.putObj_heap_other (by omega)).trans X6
  have B7 : Bx (w6.putObj D (.deferred none)) (w.heap.size + 1) 4 #[.bool false] := (World.putObj_heap_other (by omega)).trans B6
  have G7 : Ge w (w6.putObj D (.deferred none)) := Below.trans G6 (belowK_b (w := w) (Nat.le_refl _) _ D _ _ (by omega) k6 rfl rfl)
  clear hw6 c0 n0 z0 X6 B6 G6
  refine ⟨by simp, .inl ⟨_, _, rfl, run_takeDeferred k6, ?_⟩⟩
  exact ⟨_, results_msg_cell Tryd.results19 _ _ _ _ _ _ rfl X7 rfl rfl B7, rfl, G7⟩
end Go.Proofs.YtmhibpmgnicolaaDoor
