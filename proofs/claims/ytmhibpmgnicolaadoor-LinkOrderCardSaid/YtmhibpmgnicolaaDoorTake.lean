/-
  Take: the first message of a link.
-/
import Derived.Test.YtmhibpmgnicolaaDoorSend
namespace Go.Proofs.YtmhibpmgnicolaaDoor
open Go.RowKit
attribute [local go_sem] Dr.upT

theorem exec_slice1 {a : Act} {o : Oper} {x y z : Operand} (ho : o.op = .slice 72 x (some (.const (.int .i64 1))) (some y) (some z)) {g off n cap : Nat} (hx : a.eval x = .slice (some ⟨g, off, none⟩) n cap) (hy : a.eval y = .int .i64 (n : Int)) (hz : a.eval z = .int .i64 (n : Int))
    (h1 : 1 ≤ n) (hle : n ≤ cap) {w : World} {R : Value → World → Prop} (hR : R (.slice (some ⟨g, (if n = 1 then off else off + 19), none⟩) (n - 1) (n - 1)) w) : Dr.upT Tryd.prog R ((execOp a.eval o).run Tryd.prog w) := by
  by_cases h : n = 1
  · subst h
    have i2 : (1 : Int) ≤ (cap : Int) := by omega
    unfold execOp
    simp only [ho, Option.map_some, hx, hy, hz]
    go_simp
    simpa using hR
  · rw [if_neg h] at hR
    have i1 : (1 : Int) ≤ (n : Int) := by omega
    have i2 : (n : Int) ≤ (cap : Int) := by omega
    unfold execOp
    simp only [ho, Option.map_some, hx, hy, hz]
    go_simp
    simpa [Addr.add, h] using hR

theorem wpT_slice1 {ops : Array Oper} {K : Act → World → Prop} {w0 : World} {j : Nat} {o : Oper} {rest : List Oper} {fr : (Nat → Value) → Act} {F : Nat → (Nat → Value) → World → Prop} (x y z : Operand) (g off n cap : Nat)
    (ho : o.op = .slice 72 x (some (.const (.int .i64 1))) (some y) (some z)) (hgd : o.guard = none) (hx : ∀ u, (fr u).eval x = .slice (some ⟨g, off, none⟩) n cap) (hy : ∀ u, (fr u).eval y = .int .i64 (n : Int)) (hz : ∀ u, (fr u).eval z = .int .i64 (n : Int)) (h1 : 1 ≤ n) (hle : n ≤ cap)
    (h2 : Dr.wpT Tryd.prog ops K w0 (j + 1) rest (fun u => (fr u).put o.dst (.slice (some ⟨g, (if n = 1 then off else off + 19), none⟩) (n - 1) (n - 1))) (fun k u w => if k = j then True else F k u w)) :
    Dr.wpT Tryd.prog ops K w0 j (o :: rest) fr F := by
  refine Dr.wpT_det _ (fun u w hg _ => ?_) h2
  have hw : Region.wanted o (yielded ops (fr u).tmps) = true := by unfold Region.wanted; rw [hgd]
  rw [if_pos hw]
  exact exec_slice1 ho (hx u) (hy u) (hz u) h1 hle ⟨Ge.refl _, rfl⟩
theorem sets_far {b c : Nat} (hne : b ≠ c) : ∀ (vs : List Value) (o : Nat) (w : World), (w.setCells b o vs).heap[c]? = w.heap[c]?
  | [], _, _ => rfl
  | _ :: r, o, _ => (sets_far hne r (o + 1) _).trans (Below.heap_setCell _ _ _ c (fun e => hne e.symm))
theorem zero_msg : (encG mzero nilS).toArray = #[.int .i64 0, .int .i64 0, .int .i64 0, .int .i64 0, .int .i64 0, .int .i64 0, .int .i64 0, .int .i64 0, .int .i64 0, .int .i64 0, .slice none 0 0, .slice none 0 0, .slice none 0 0, .slice none 0 0, .slice none 0 0, .int .i64 0, .slice none 0 0, .bool false, .int .i64 0] := rfl

set_option maxRecDepth 100000 in
set_option maxHeartbeats 4000000 in
theorem take_no {w : World} {v : Value} (h : NoNet w v) (f t : Int) :
    Calls Tryd.prog 13 #[v, .int .i64 f, .int .i64 t] w fun e w' => e = .returned (.tuple #[.agg (encG mzero nilS).toArray, .int .i64 2]) ∧ Ge w w' := by
  rw [zero_msg]
  have HL := Lib.hid (fun w' (g : Ge w w') => link_no (h.ge g) f t)
  obtain ⟨W2, hW2⟩ : ∃ x, x = w.alloc (.cells #[.int .i64 0, .int .i64 0, .int .i64 0, .int .i64 0, .int .i64 0, .int .i64 0, .int .i64 0, .int .i64 0, .int .i64 0, .int .i64 0, .slice none 0 0, .slice none 0 0, .slice none 0 0, .slice none 0 0, .slice none 0 0, .int .i64 0, .slice none 0 0, .bool false, .int .i64 0] 45) := ⟨_, rfl⟩
  have HX2 := Lib.hid (show Bx W2 w.heap.size 45 #[.int .i64 0, .int .i64 0, .int .i64 0, .int .i64 0, .int .i64 0, .int .i64 0, .int .i64 0, .int .i64 0, .int .i64 0, .int .i64 0, .slice none 0 0, .slice none 0 0, .slice none 0 0, .slice none 0 0, .slice none 0 0, .int .i64 0, .slice none 0 0, .bool false, .int .i64 0] by rw [hW2]; exact Bx.new w 45 _ rfl)
  have GW := Lib.hid (show Ge w W2 by rw [hW2]; exact (Ge.refl w).alloc _)
  have HI := Lib.hid i45
  clear h
  go_enter Tryd.func13, Tryd.ntmps13
  go_upto_region 1 with (fail)
  rw [← hW2]
  clear hW2
  go_wp2_with fail
  refine (HL.out _ GW.out).mono ?_
  rintro e w3 ⟨rfl, g3⟩
  have HG3 := Lib.hid (GW.out.trans g3)
  have HX3 := Lib.hid (HX2.out.ge g3)
  have HT3 := Lib.hid (show w3.there w.heap.size 0 19 from (HX2.out.ge g3).there)
  clear g3
  go_wp2_with (refine wpList_store_mid (by rfl) 45 (.tmp 6) (.tmp 20) (by rfl) w.heap.size 0 #[.int .i64 0, .int .i64 0, .int .i64 0, .int .i64 0, .int .i64 0, .int .i64 0, .int .i64 0, .int .i64 0, .int .i64 0, .int .i64 0, .slice none 0 0, .slice none 0 0, .slice none 0 0, .slice none 0 0, .slice none 0 0, .int .i64 0, .slice none 0 0, .bool false, .int .i64 0] (by rfl) (by rfl) HT3.out HI.out (by simp [Value.oneCell']) ?_; generalize hW5 : w3.setCells w.heap.size 0 (#[.int .i64 0, .int .i64 0, .int .i64 0, .int .i64 0, .int .i64 0, .int .i64 0, .int .i64 0, .int .i64 0, .int .i64 0, .int .i64 0, .slice none 0 0, .slice none 0 0, .slice none 0 0, .slice none 0 0, .slice none 0 0, .int .i64 0, .slice none 0 0, .bool false, .int .i64 0] : Array Value).toList = W5; have HW5 := Lib.hid hW5; clear hW5)
  have G5 : Ge w W5 := by rw [← HW5.out]; exact below_sets (Nat.le_refl _) _ _ _ HG3.out
  have X5 : Bx W5 w.heap.size 45 #[.int .i64 0, .int .i64 0, .int .i64 0, .int .i64 0, .int .i64 0, .int .i64 0, .int .i64 0, .int .i64 0, .int .i64 0, .int .i64 0, .slice none 0 0, .slice none 0 0, .slice none 0 0, .slice none 0 0, .slice none 0 0, .int .i64 0, .slice none 0 0, .bool false, .int .i64 0] := by
    have := HX3.out.fill (#[.int .i64 0, .int .i64 0, .int .i64 0, .int .i64 0, .int .i64 0, .int .i64 0, .int .i64 0, .int .i64 0, .int .i64 0, .int .i64 0, .slice none 0 0, .slice none 0 0, .slice none 0 0, .slice none 0 0, .slice none 0 0, .int .i64 0, .slice none 0 0, .bool false, .int .i64 0] : Array Value).toList rfl
    rw [HW5.out] at this
    exact this
  refine bodyPost_ret (v := .tuple #[.agg #[.int .i64 0, .int .i64 0, .int .i64 0, .int .i64 0, .int .i64 0, .int .i64 0, .int .i64 0, .int .i64 0, .int .i64 0, .int .i64 0, .slice none 0 0, .slice none 0 0, .slice none 0 0, .slice none 0 0, .slice none 0 0, .int .i64 0, .slice none 0 0, .bool false, .int .i64 0], .int .i64 2]) (results_msg_tmp Tryd.results13 _ W5 w.heap.size _ _ rfl X5 rfl rfl) rfl ?_
  exact ⟨rfl, G5⟩

set_option maxRecDepth 100000 in
set_option maxHeartbeats 4000000 in
theorem take_none {B : Nat} {w : World} {p q : Nat} {O : Nat → Option Nat} {S : Nt} {C : Array Value} (h : NetC B w p q O S C) {f t : Int} (hi : S.idx f t = none) :
    Calls Tryd.prog 13 #[.pointer (some ⟨p, 0, none⟩), .int .i64 f, .int .i64 t] w fun e w' => e = .returned (.tuple #[.agg (encG mzero nilS).toArray, .int .i64 1]) ∧ Ge w w' := by
  rw [zero_msg]
  have HL := Lib.hid (fun w' (g : Ge w w') => link_none (h.ge g) hi)
  obtain ⟨W2, hW2⟩ : ∃ x, x = w.alloc (.cells #[.int .i64 0, .int .i64 0, .int .i64 0, .int .i64 0, .int .i64 0, .int .i64 0, .int .i64 0, .int .i64 0, .int .i64 0, .int .i64 0, .slice none 0 0, .slice none 0 0, .slice none 0 0, .slice none 0 0, .slice none 0 0, .int .i64 0, .slice none 0 0, .bool false, .int .i64 0] 45) := ⟨_, rfl⟩
  have HX2 := Lib.hid (show Bx W2 w.heap.size 45 #[.int .i64 0, .int .i64 0, .int .i64 0, .int .i64 0, .int .i64 0, .int .i64 0, .int .i64 0, .int .i64 0, .int .i64 0, .int .i64 0, .slice none 0 0, .slice none 0 0, .slice none 0 0, .slice none 0 0, .slice none 0 0, .int .i64 0, .slice none 0 0, .bool false, .int .i64 0] by rw [hW2]; exact Bx.new w 45 _ rfl)
  have GW := Lib.hid (show Ge w W2 by rw [hW2]; exact (Ge.refl w).alloc _)
  have HI := Lib.hid i45
  clear h
  go_enter Tryd.func13, Tryd.ntmps13
  go_upto_region 1 with (fail)
  rw [← hW2]
  clear hW2
  go_wp2_with fail
  refine (HL.out _ GW.out).mono ?_
  rintro e w3 ⟨rfl, g3⟩
  have HG3 := Lib.hid (GW.out.trans g3)
  have HX3 := Lib.hid (HX2.out.ge g3)
  have HT3 := Lib.hid (show w3.there w.heap.size 0 19 from (HX2.out.ge g3).there)
  clear g3
  go_wp2_with (refine wpList_store_mid (by rfl) 45 (.tmp 6) (.tmp 20) (by rfl) w.heap.size 0 #[.int .i64 0, .int .i64 0, .int .i64 0, .int .i64 0, .int .i64 0, .int .i64 0, .int .i64 0, .int .i64 0, .int .i64 0, .int .i64 0, .slice none 0 0, .slice none 0 0, .slice none 0 0, .slice none 0 0, .slice none 0 0, .int .i64 0, .slice none 0 0, .bool false, .int .i64 0] (by rfl) (by rfl) HT3.out HI.out (by simp [Value.oneCell']) ?_; generalize hW5 : w3.setCells w.heap.size 0 (#[.int .i64 0, .int .i64 0, .int .i64 0, .int .i64 0, .int .i64 0, .int .i64 0, .int .i64 0, .int .i64 0, .int .i64 0, .int .i64 0, .slice none 0 0, .slice none 0 0, .slice none 0 0, .slice none 0 0, .slice none 0 0, .int .i64 0, .slice none 0 0, .bool false, .int .i64 0] : Array Value).toList = W5; have HW5 := Lib.hid hW5; clear hW5)
  have G5 : Ge w W5 := by rw [← HW5.out]; exact below_sets (Nat.le_refl _) _ _ _ HG3.out
  have X5 : Bx W5 w.heap.size 45 #[.int .i64 0, .int .i64 0, .int .i64 0, .int .i64 0, .int .i64 0, .int .i64 0, .int .i64 0, .int .i64 0, .int .i64 0, .int .i64 0, .slice none 0 0, .slice none 0 0, .slice none 0 0, .slice none 0 0, .slice none 0 0, .int .i64 0, .slice none 0 0, .bool false, .int .i64 0] := by
    have := HX3.out.fill (#[.int .i64 0, .int .i64 0, .int .i64 0, .int .i64 0, .int .i64 0, .int .i64 0, .int .i64 0, .int .i64 0, .int .i64 0, .int .i64 0, .slice none 0 0, .slice none 0 0, .slice none 0 0, .slice none 0 0, .slice none 0 0, .int .i64 0, .slice none 0 0, .bool false, .int .i64 0] : Array Value).toList rfl
    rw [HW5.out] at this
    exact this
  refine bodyPost_ret (v := .tuple #[.agg #[.int .i64 0, .int .i64 0, .int .i64 0, .int .i64 0, .int .i64 0, .int .i64 0, .int .i64 0, .int .i64 0, .int .i64 0, .int .i64 0, .slice none 0 0, .slice none 0 0, .slice none 0 0, .slice none 0 0, .slice none 0 0, .int .i64 0, .slice none 0 0, .bool false, .int .i64 0], .int .i64 1]) (results_msg_tmp Tryd.results13 _ W5 w.heap.size _ _ rfl X5 rfl rfl) rfl ?_
  exact ⟨rfl, G5⟩

set_option maxRecDepth 100000 in
set_option maxHeartbeats 4000000 in
theorem take_empty {B : Nat} {w : World} {p q : Nat} {O : Nat → Option Nat} {S : Nt} {C : Array Value} (h : NetC B w p q O S C) {f t : Int} {j : Nat} {r : Lk} (hi : S.idx f t = some j) (hr : S.rows[j]? = some r) (hl : r.l = []) :
    Calls Tryd.prog 13 #[.pointer (some ⟨p, 0, none⟩), .int .i64 f, .int .i64 t] w fun e w' => e = .returned (.tuple #[.agg (encG mzero nilS).toArray, .int .i64 4]) ∧ Ge w w' := by
  rw [zero_msg]
  have HL := Lib.hid (fun w' (g : Ge w w') => link_some (h.ge g) hi)
  have hC := h.row
  obtain ⟨v, x0, x1, x2, hrow⟩ := h.rows j r hr
  obtain ⟨A, cap, rfl, _⟩ := hrow
  rw [hl] at x0
  have HX0 := Lib.hid (fun w' (g : Ge w w') => ((hC.ge g).cell _).trans x0)
  have HLT := Lib.hid (fun w' (g : Ge w w') => (hC.ge g).lt)
  clear hC x0 x1 x2 hr hl hi
  obtain ⟨W2, hW2⟩ : ∃ x, x = w.alloc (.cells #[.int .i64 0, .int .i64 0, .int .i64 0, .int .i64 0, .int .i64 0, .int .i64 0, .int .i64 0, .int .i64 0, .int .i64 0, .int .i64 0, .slice none 0 0, .slice none 0 0, .slice none 0 0, .slice none 0 0, .slice none 0 0, .int .i64 0, .slice none 0 0, .bool false, .int .i64 0] 45) := ⟨_, rfl⟩
  have HX2 := Lib.hid (show Bx W2 w.heap.size 45 #[.int .i64 0, .int .i64 0, .int .i64 0, .int .i64 0, .int .i64 0, .int .i64 0, .int .i64 0, .int .i64 0, .int .i64 0, .int .i64 0, .slice none 0 0, .slice none 0 0, .slice none 0 0, .slice none 0 0, .slice none 0 0, .int .i64 0, .slice none 0 0, .bool false, .int .i64 0] by rw [hW2]; exact Bx.new w 45 _ rfl)
  have GW := Lib.hid (show Ge w W2 by rw [hW2]; exact (Ge.refl w).alloc _)
  have HI := Lib.hid i45
  clear h
  go_enter Tryd.func13, Tryd.ntmps13
  go_upto_region 1 with (fail)
  rw [← hW2]
  clear hW2
  go_wp2_with fail
  refine (HL.out _ GW.out).mono ?_
  rintro e w3 ⟨rfl, g3⟩
  have HG3 := Lib.hid (GW.out.trans g3)
  have HX3 := Lib.hid (HX2.out.ge g3)
  have HT3 := Lib.hid (show w3.there w.heap.size 0 19 from (HX2.out.ge g3).there)
  have x0 := HX0.out w3 HG3.out
  have n1 := HLT.out w3 HG3.out
  clear g3
  go_wp2_with (refine wpList_store_mid (by rfl) 45 (.tmp 6) (.tmp 28) (by rfl) w.heap.size 0 #[.int .i64 0, .int .i64 0, .int .i64 0, .int .i64 0, .int .i64 0, .int .i64 0, .int .i64 0, .int .i64 0, .int .i64 0, .int .i64 0, .slice none 0 0, .slice none 0 0, .slice none 0 0, .slice none 0 0, .slice none 0 0, .int .i64 0, .slice none 0 0, .bool false, .int .i64 0] (by rfl) (by rfl) HT3.out HI.out (by simp [Value.oneCell']) ?_; generalize hW5 : w3.setCells w.heap.size 0 (#[.int .i64 0, .int .i64 0, .int .i64 0, .int .i64 0, .int .i64 0, .int .i64 0, .int .i64 0, .int .i64 0, .int .i64 0, .int .i64 0, .slice none 0 0, .slice none 0 0, .slice none 0 0, .slice none 0 0, .slice none 0 0, .int .i64 0, .slice none 0 0, .bool false, .int .i64 0] : Array Value).toList = W5; have HW5 := Lib.hid hW5; clear hW5)
  have G5 : Ge w W5 := by rw [← HW5.out]; exact below_sets (Nat.le_refl _) _ _ _ HG3.out
  have X5 : Bx W5 w.heap.size 45 #[.int .i64 0, .int .i64 0, .int .i64 0, .int .i64 0, .int .i64 0, .int .i64 0, .int .i64 0, .int .i64 0, .int .i64 0, .int .i64 0, .slice none 0 0, .slice none 0 0, .slice none 0 0, .slice none 0 0, .slice none 0 0, .int .i64 0, .slice none 0 0, .bool false, .int .i64 0] := by
    have := HX3.out.fill (#[.int .i64 0, .int .i64 0, .int .i64 0, .int .i64 0, .int .i64 0, .int .i64 0, .int .i64 0, .int .i64 0, .int .i64 0, .int .i64 0, .slice none 0 0, .slice none 0 0, .slice none 0 0, .slice none 0 0, .slice none 0 0, .int .i64 0, .slice none 0 0, .bool false, .int .i64 0] : Array Value).toList rfl
    rw [HW5.out] at this
    exact this
  refine bodyPost_ret (v := .tuple #[.agg #[.int .i64 0, .int .i64 0, .int .i64 0, .int .i64 0, .int .i64 0, .int .i64 0, .int .i64 0, .int .i64 0, .int .i64 0, .int .i64 0, .slice none 0 0, .slice none 0 0, .slice none 0 0, .slice none 0 0, .slice none 0 0, .int .i64 0, .slice none 0 0, .bool false, .int .i64 0], .int .i64 4]) (results_msg_tmp Tryd.results13 _ W5 w.heap.size _ _ rfl X5 rfl rfl) rfl ?_
  exact ⟨rfl, G5⟩

def takenR (r : Lk) (l : List Msg) : Lk := ⟨l, r.sent, wrap64 (r.taken + 1)⟩

set_option maxRecDepth 100000 in
set_option maxHeartbeats 8000000 in
theorem take_ok {B : Nat} {w : World} {p q : Nat} {O : Nat → Option Nat} {S : Nt} {C : Array Value} (h : NetC B w p q O S C) {f t : Int} {j : Nat} {r : Lk} {m : Msg} {l : List Msg} (hi : S.idx f t = some j) (hr : S.rows[j]? = some r) (hl : r.l = m :: l) :
    Calls Tryd.prog 13 #[.pointer (some ⟨p, 0, none⟩), .int .i64 f, .int .i64 t] w fun e w' => (∃ s', e = .returned (.tuple #[.agg (encG m s').toArray, .int .i64 0]) ∧ SlAt B w' s' m) ∧
      (∃ C', NetC B w' p q O { S with rows := S.rows.set j (takenR r l) } C') ∧ Nx B (FpC p q O) w w' := by
  have HL := Lib.hid (fun w' (g : Ge w w') => link_some (h.ge g) hi)
  have hjl := Nt.idx_lt hi
  have hC := h.row
  have hl64 := h.ok.small r (List.mem_of_getElem? hr)
  obtain ⟨v, x0, x1, x2, hrow⟩ := h.rows j r hr
  rw [hl] at hrow hl64
  obtain ⟨A, cap, rfl, hle, _, hcap⟩ := hrow
  obtain ⟨g, off, cs, rfl, hg, hbx, hsz, hms⟩ := hcap (by simp at hle; omega)
  obtain ⟨s', hs', hcell⟩ := hms 0 m rfl
  rw [List.length_cons] at hle hl64 x0
  have HSL := Lib.hid hs'
  have HONE := Lib.hid (all_oneCell_toArray (encG_one hs'))
  have HRA := Lib.hid (fun w' (gg : Ge w w') => show w'.rangeAt g off (encG m s') from fun i u hu => by
    rw [(hbx.ge gg).cell]
    have := hcell i u hu
    rwa [Nat.zero_mul, Nat.add_zero] at this)
  have HLEN := Lib.hid (show (encG m s').length = 19 from rfl)
  have HRW := Lib.hid (show ∀ w', Kp B w w' → (∀ b, O b = some j → w'.heap[b]? = w.heap[b]?) → RowAt B w' (.slice (some ⟨g, (if l.length + 1 = 1 then off else off + 19), none⟩) (l.length + 1 - 1) (l.length + 1 - 1)) l (fun g => O g = some j) from fun w' k hb => by
    refine ⟨_, l.length, by rw [Nat.add_sub_cancel], Nat.le_refl _, fun _ => .inr ⟨_, rfl⟩, fun hp => ⟨g, off + 19, cs, by rw [if_neg (by omega)], hg, (hb g hg).trans hbx, by omega, fun i m' hi' => ?_⟩⟩
    obtain ⟨s2, e1, e2⟩ := hms (i + 1) m' hi'
    refine ⟨s2, e1.kp k, fun i' u hu => ?_⟩
    have := e2 i' u hu
    rwa [show off + (i + 1) * 19 + i' = off + 19 + i * 19 + i' by omega] at this)
  have HX0 := Lib.hid (fun w' (gg : Ge w w') => ((hC.ge gg).cell _).trans x0)
  have HX1 := Lib.hid x1
  have HX2 := Lib.hid x2
  have HLT := Lib.hid (fun w' (gg : Ge w w') => (hC.ge gg).lt)
  have HGL := Lib.hid (fun w' (gg : Ge w w') => (hbx.ge gg).lt)
  have HH := Lib.hid (fun w' (gg : Ge w w') => h.ge gg)
  have HJ := Lib.hid hjl
  have HR := Lib.hid hr
  have HFL := Lib.hid (fun b (hb : FpC p q O b) => h.lt hb)
  have HNL := Lib.hid (show l.length + 1 ≤ cap ∧ l.length + 1 ≤ 64 from ⟨hle, hl64⟩)
  have i1 : (0 : Int) < ((l.length + 1 : Nat) : Int) := by omega
  have u0 : (((l.length + 1 : Nat) : Int) == 0) = false := by simp; omega
  clear h hC x0 x1 x2 hs' hcell hms hle hl64 hbx hsz hcap hjl hi
  generalize hL : encG m s' = L at *
  have HLL := Lib.hid hL
  generalize hnn : l.length + 1 = n at *
  have HNN := Lib.hid hnn
  clear hL hnn
  obtain ⟨W2, hW2⟩ : ∃ x, x = w.alloc (.cells #[.int .i64 0, .int .i64 0, .int .i64 0, .int .i64 0, .int .i64 0, .int .i64 0, .int .i64 0, .int .i64 0, .int .i64 0, .int .i64 0, .slice none 0 0, .slice none 0 0, .slice none 0 0, .slice none 0 0, .slice none 0 0, .int .i64 0, .slice none 0 0, .bool false, .int .i64 0] 45) := ⟨_, rfl⟩
  have HB2 := Lib.hid (show Bx W2 w.heap.size 45 #[.int .i64 0, .int .i64 0, .int .i64 0, .int .i64 0, .int .i64 0, .int .i64 0, .int .i64 0, .int .i64 0, .int .i64 0, .int .i64 0, .slice none 0 0, .slice none 0 0, .slice none 0 0, .slice none 0 0, .slice none 0 0, .int .i64 0, .slice none 0 0, .bool false, .int .i64 0] by rw [hW2]; exact Bx.new w 45 _ rfl)
  have GW := Lib.hid (show Ge w W2 by rw [hW2]; exact (Ge.refl w).alloc _)
  have HI := Lib.hid (show (Tryd.prog.info? 45).map (·.size) = some L.length by rw [HLEN.out]; exact i45)
  have HI2 := Lib.hid (show (Tryd.prog.info? 45).map (·.size) = some L.toArray.size by have e : L.toArray.size = 19 := HLEN.out; rw [e]; exact i45)
  go_enter Tryd.func13, Tryd.ntmps13
  go_upto_region 1 with (fail)
  rw [← hW2]
  clear hW2
  go_wp2_with fail
  refine (HL.out _ GW.out).mono ?_
  rintro e w3 ⟨rfl, g3⟩
  have HG3 := Lib.hid (GW.out.trans g3)
  have HB3 := Lib.hid (HB2.out.ge g3)
  have x0 := HX0.out w3 HG3.out
  have n1 := HLT.out w3 HG3.out
  have n2 := HGL.out w3 HG3.out
  have HR3 := Lib.hid (HRA.out w3 HG3.out)
  clear g3
  obtain ⟨W4, hW4⟩ : ∃ x, x = w3.alloc (.cells #[.int .i64 0, .int .i64 0, .int .i64 0, .int .i64 0, .int .i64 0, .int .i64 0, .int .i64 0, .int .i64 0, .int .i64 0, .int .i64 0, .slice none 0 0, .slice none 0 0, .slice none 0 0, .slice none 0 0, .slice none 0 0, .int .i64 0, .slice none 0 0, .bool false, .int .i64 0] 45) := ⟨_, rfl⟩
  have HZ4 := Lib.hid (show Bx W4 w3.heap.size 45 #[.int .i64 0, .int .i64 0, .int .i64 0, .int .i64 0, .int .i64 0, .int .i64 0, .int .i64 0, .int .i64 0, .int .i64 0, .int .i64 0, .slice none 0 0, .slice none 0 0, .slice none 0 0, .slice none 0 0, .slice none 0 0, .int .i64 0, .slice none 0 0, .bool false, .int .i64 0] by rw [hW4]; exact Bx.new w3 45 _ rfl)
  have HG4 := Lib.hid (show Ge w3 W4 by rw [hW4]; exact (Ge.refl _).alloc _)
  have HT4 := Lib.hid (show W4.there w3.heap.size 0 L.toArray.size from by have e : L.toArray.size = 19 := HLEN.out; rw [e]; exact HZ4.out.there)
  have HW4 := Lib.hid hW4
  clear hW4
  go_upto_region 7 with (first | (refine wpList_load_mid (by rfl) 45 (.tmp 33) (by rfl) g off (by rfl) L _ HR3.out Tryd.underlying45 rfl HI.out ?_) | (rw [← HW4.out]; refine wpList_store_mid (by rfl) 45 (.tmp 10) (.tmp 34) (by rfl) w3.heap.size 0 L.toArray (by rfl) (by rfl) HT4.out HI2.out HONE.out ?_; generalize hW5 : W4.setCells w3.heap.size 0 L.toArray.toList = W5; have HW5 := Lib.hid hW5; clear hW5))
  clear x0 n1 n2
  have G35 : Ge w3 W5 := by rw [← HW5.out]; exact below_sets (Nat.le_refl _) _ _ _ HG4.out
  have HB5 := Lib.hid (HB3.out.ge G35)
  have Z5 : Bx W5 w3.heap.size 45 L.toArray := by
    have := HZ4.out.fill L.toArray.toList (by simp [HLEN.out])
    rw [HW5.out] at this
    exact this
  have HZ5 := Lib.hid Z5
  have HG5 := Lib.hid (HG3.out.trans G35)
  have HN53 := Lib.hid (Nat.lt_of_lt_of_le (HB3.out.lt) (Nat.le_refl _))
  clear G35 Z5
  refine Dr.wp_region_TU 16 (by kernel_rfl) (by kernel_rfl) (by decide) (by kernel_rfl) ?_
  iterate 15 (apply Dr.wpT_det; · (intro u w7 hw hF; clear hF; have x0 := HX0.out w7 (HG5.out.trans hw); go_simp; first | exact ⟨Ge.refl _, rfl⟩ | exact Ge.refl _ | rfl))
  refine wpT_slice1 (.tmp 39) (.tmp 44) (.tmp 49) g off n cap (by rfl) (by rfl) (by intro u; go_simp) (by intro u; go_simp) (by intro u; go_simp) (by have := HNN.out; omega) HNL.out.1 ?_
  intro u w7 hw hF
  clear hF
  have HG7 := Lib.hid (HG5.out.trans hw)
  have hn7 := HH.out w7 HG7.out
  have x0 := HX0.out w7 HG7.out
  have f0 := hn7.row.frozen (j * 3)
  have n1 := hn7.row.lt
  have HB7 := Lib.hid (HB5.out.ge hw)
  have HZ7 := Lib.hid (HZ5.out.ge hw)
  have hjs : j * 3 + 2 < C.size := by have := HJ.out; have := hn7.sz; omega
  have hst := (hn7.part j).store HJ.out 0 (by omega) (.slice (some ⟨g, (if n = 1 then off else off + 19), none⟩) (n - 1) (n - 1)) _ ⟨l, r.sent, r.taken⟩ (by have := HNL.out.2; have := HNN.out; show l.length ≤ 64; omega) (by simp [show j * 3 < C.size by omega]) (by rw [Array.getElem?_setIfInBounds_ne (by omega)]; exact HX1.out) (by rw [Array.getElem?_setIfInBounds_ne (by omega)]; exact HX2.out)
    (HRW.out w7 (HG7.out.kp B) (fun b hb => HG7.out.block b (HFL.out b (.inr (.inr (by rw [hb]; simp))))))
  have hkp := nx_set87 (F := FpC p q O) hn7.row hn7.bq (.inr (.inl rfl)) (j * 3) (.slice (some ⟨g, (if n = 1 then off else off + 19), none⟩) (n - 1) (n - 1))
  obtain ⟨W8, hW8⟩ : ∃ x, x = w7.setCell ⟨q, j * 3, none⟩ (.slice (some ⟨g, (if n = 1 then off else off + 19), none⟩) (n - 1) (n - 1)) := ⟨_, rfl⟩
  have hqw := HFL.out q (.inr (.inl rfl))
  have h38 : w.heap.size < w3.heap.size := HN53.out
  have HST := Lib.hid (show ∃ C8, NetC B W8 p q O { S with rows := S.rows.set j ⟨l, r.sent, r.taken⟩ } C8 from ⟨_, by rw [hW8]; exact hst⟩)
  have HNX := Lib.hid (show Nx B (FpC p q O) w W8 from (Nx.of_ge HG7.out).trans (F' := FpC p q O) (by rw [hW8]; exact hkp) (fun _ _ h => h))
  have HB8 := Lib.hid (show Bx W8 w.heap.size 45 #[.int .i64 0, .int .i64 0, .int .i64 0, .int .i64 0, .int .i64 0, .int .i64 0, .int .i64 0, .int .i64 0, .int .i64 0, .int .i64 0, .slice none 0 0, .slice none 0 0, .slice none 0 0, .slice none 0 0, .slice none 0 0, .int .i64 0, .slice none 0 0, .bool false, .int .i64 0] from by rw [hW8]; exact HB7.out.set_ne _ _ (by omega))
  have HZ8 := Lib.hid (show Bx W8 w3.heap.size 45 L.toArray from by rw [hW8]; exact HZ7.out.set_ne _ _ (by omega))
  have HQW := Lib.hid hqw
  have HW8 := Lib.hid hW8
  clear hst hkp hn7 hw hqw h38 hjs hW8
  simp only [Act.put, List.setIfInBounds_toArray, List.set_cons_zero, List.set_cons_succ]
  go_upto_region 8 with (fail)
  rw [← HW8.out]
  clear x0 f0 n1
  obtain ⟨C8, hn8⟩ := HST.out
  obtain ⟨v8, y0, y1, y2, hrw8⟩ := hn8.rows j ⟨l, r.sent, r.taken⟩ (List.getElem?_set_self (by rw [show S.rows.length = S.k * S.k from (HH.out w (Ge.refl _)).ok.len]; exact HJ.out))
  have hjs : j * 3 + 2 < C8.size := by have := HJ.out; have : C8.size = S.k * S.k * 3 := hn8.sz; omega
  have x2 : W8.cell? ⟨q, j * 3 + 2, none⟩ = some (.int .i64 r.taken) := (hn8.row.cell _).trans y2
  have f2 := hn8.row.frozen (j * 3 + 2)
  have n1 := hn8.row.lt
  have hst := (hn8.part j).store HJ.out 2 (by omega) (.int .i64 (wrap64 (r.taken + 1))) v8 (takenR r l) (by have := HNL.out.2; have := HNN.out; show l.length ≤ 64; omega) (by rw [Array.getElem?_setIfInBounds_ne (by omega)]; exact y0) (by rw [Array.getElem?_setIfInBounds_ne (by omega)]; exact y1) (by simp [hjs, takenR]) hrw8
  have hkp := nx_set87 (F := FpC p q O) hn8.row hn8.bq (.inr (.inl rfl)) (j * 3 + 2) (.int .i64 (wrap64 (r.taken + 1)))
  obtain ⟨W9, hW9⟩ : ∃ x, x = W8.setCell ⟨q, j * 3 + 2, none⟩ (.int .i64 (wrap64 (r.taken + 1))) := ⟨_, rfl⟩
  have HST9 := Lib.hid (show ∃ C9, NetC B W9 p q O { S with rows := S.rows.set j (takenR r l) } C9 from ⟨_, by rw [hW9]; simpa using hst⟩)
  have HNX9 := Lib.hid (show Nx B (FpC p q O) w W9 from HNX.out.trans (F' := FpC p q O) (by rw [hW9]; exact hkp) (fun _ _ h => h))
  have HB9 := Lib.hid (show Bx W9 w.heap.size 45 #[.int .i64 0, .int .i64 0, .int .i64 0, .int .i64 0, .int .i64 0, .int .i64 0, .int .i64 0, .int .i64 0, .int .i64 0, .int .i64 0, .slice none 0 0, .slice none 0 0, .slice none 0 0, .slice none 0 0, .slice none 0 0, .int .i64 0, .slice none 0 0, .bool false, .int .i64 0] from by rw [hW9]; exact HB8.out.set_ne _ _ (by have := HQW.out; omega))
  have HZ9 := Lib.hid (show Bx W9 w3.heap.size 45 L.toArray from by rw [hW9]; exact HZ8.out.set_ne _ _ (by have := HQW.out; have := HN53.out; omega))
  have HT9 := Lib.hid (show W9.there w.heap.size 0 L.toArray.size from by have e : L.toArray.size = 19 := HLEN.out; rw [e]; exact HB9.out.there)
  have HW9 := Lib.hid hW9
  clear hst hkp hn8 y0 y1 y2 hrw8 hW9 hjs
  go_upto_region 9 with (fail)
  rw [← HW9.out]
  clear x2 f2 n1
  go_wp2_with (first | (refine wpList_load_row (by rfl) 45 (.tmp 10) (by rfl) w3.heap.size (by rfl) 45 L.toArray (0, 0) _ HZ9.out Tryd.underlying45 rfl HI2.out ?_) | (refine wpList_store_mid (by rfl) 45 (.tmp 6) (.tmp 60) (by rfl) w.heap.size 0 L.toArray (by rfl) (by rfl) HT9.out HI2.out HONE.out ?_; generalize hW10 : W9.setCells w.heap.size 0 L.toArray.toList = W10; have HW10 := Lib.hid hW10; clear hW10))
  all_goals
    have X10 : Bx W10 w.heap.size 45 L.toArray := by
      have := HB9.out.fill L.toArray.toList (by simp [HLEN.out])
      rw [HW10.out] at this
      exact this
    have hbw : B ≤ w.heap.size := by have := (HH.out w (Ge.refl _)).bp; have := (HH.out w (Ge.refl _)).net.lt; omega
    have k10 : Kp B W9 W10 := by rw [← HW10.out]; exact Kp.sets rfl hbw _ _ HB9.out
    have b10 : ∀ b, b < w.heap.size → W10.heap[b]? = W9.heap[b]? := fun b hb => by rw [← HW10.out]; exact sets_far (by omega) _ _ _
    have N10 : Nx B (FpC p q O) w W10 := ⟨HNX9.out.kp.trans k10, fun b hb hn => (b10 b hb).trans (HNX9.out.block b hb hn), by rw [← HW10.out]; exact below_sets (Nat.zero_le _) _ _ _ HNX9.out.bel⟩
    obtain ⟨C9, hn9⟩ := HST9.out
    refine bodyPost_ret (v := .tuple #[.agg L.toArray, .int .i64 0]) (results_msg_tmp Tryd.results13 _ W10 w.heap.size _ _ rfl X10 HLEN.out rfl) rfl ?_
    exact ⟨⟨s', by rw [HLL.out], HSL.out.kp N10.kp⟩, ⟨C9, hn9.keep k10 (fun b hb => b10 b (HFL.out b hb))⟩, N10⟩
end Go.Proofs.YtmhibpmgnicolaaDoor
