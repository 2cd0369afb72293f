/-
  Take: the first message of a link.
  What a net that no call made answers: All, Head, Clone.
  A net that lies behind a world 'a', and that alone turns: what each call leaves of it.
  All and Head of a net.
-/
import Derived.Test.YtmhibpmgnicolaaDoorZSend
import Derived.Test.YtmhibpmgnicolaaDoorZChain
import Derived.Test.YtmhibpmgnicolaaDoorZNet
namespace Go.Proofs.YtmhibpmgnicolaaDoor
open Go.RowKit
attribute [local go_sem] Dr.upT

theorem exec_slice1 {a : Act} {o : Oper} {x y z : Operand} (ho : o.op = .slice 72 x (some (.const (.int .i64 1))) (some y) (some z)) {g off n cap : Nat} (hx : a.eval x = .slice (some ⟨g, off, none⟩) n cap) (hy : a.eval y = .int .i64 (n : Int)) (hz : a.eval z = .int .i64 (n : Int))
    (h1 : 1 ≤ n) (hle : n ≤ cap) {w : World} {R : Value → World → Prop} (hR : R (.slice (some ⟨g, (if n = 1 then off else off + 19), none⟩) (n - 1) (n - 1)) w) : Dr.upT Tryd.prog R ((execOp a.eval o).run Tryd.prog w) := by
  by_cases h : n = 1
  · subst h
    have i2 : (1 : Int) ≤ (cap : Int) := by omega
    unfold execOp
    simp only [ho, Option.map_some, hx, hy, hz]
    go_simp
    simpa using hR
  · rw [if_neg h] at hR
    have i1 : (1 : Int) ≤ (n : Int) := by omega
    have i2 : (n : Int) ≤ (cap : Int) := by omega
    unfold execOp
    simp only [ho, Option.map_some, hx, hy, hz]
    go_simp
    simpa [Addr.add, h] using hR

theorem wpT_slice1 {ops : Array Oper} {K : Act → World → Prop} {w0 : World} {j : Nat} {o : Oper} {rest : List Oper} {fr : (Nat → Value) → Act} {F : Nat → (Nat → Value) → World → Prop} (x y z : Operand) (g off n cap : Nat)
    (ho : o.op = .slice 72 x (some (.const (.int .i64 1))) (some y) (some z)) (hgd : o.guard = none) (hx : ∀ u, (fr u).eval x = .slice (some ⟨g, off, none⟩) n cap) (hy : ∀ u, (fr u).eval y = .int .i64 (n : Int)) (hz : ∀ u, (fr u).eval z = .int .i64 (n : Int)) (h1 : 1 ≤ n) (hle : n ≤ cap)
    (h2 : Dr.wpT Tryd.prog ops K w0 (j + 1) rest (fun u => (fr u).put o.dst (.slice (some ⟨g, (if n = 1 then off else off + 19), none⟩) (n - 1) (n - 1))) (fun k u w => if k = j then True else F k u w)) :
    Dr.wpT Tryd.prog ops K w0 j (o :: rest) fr F := by
  refine Dr.wpT_det _ (fun u w hg _ => ?_) h2
  have hw : Region.wanted o (yielded ops (fr u).tmps) = true := by unfold Region.wanted; rw [hgd]
  rw [if_pos hw]
  exact exec_slice1 ho (hx u) (hy u) (hz u) h1 hle ⟨Ge.refl _, rfl⟩
theorem sets_far {b c : Nat} (hne : b ≠ c) : ∀ (vs : List Value) (o : Nat) (w : World), (w.setCells b o vs).heap[c]? = w.heap[c]?
  | [], _, _ => rfl
  | _ :: r, o, _ => (sets_far hne r (o + 1) _).trans (Below.heap_setCell _ _ _ c (fun e => hne e.symm))
theorem zero_msg : (encG mzero nilS).toArray = #[.int .i64 0, .int .i64 0, .int .i64 0, .int .i64 0, .int .i64 0, .int .i64 0, .int .i64 0, .int .i64 0, .int .i64 0, .int .i64 0, .slice none 0 0, .slice none 0 0, .slice none 0 0, .slice none 0 0, .slice none 0 0, .int .i64 0, .slice none 0 0, .bool false, .int .i64 0] := rfl

set_option maxRecDepth 100000 in
set_option maxHeartbeats 4000000 in
theorem take_no {w : World} {v : Value} (h : NoNet w v) (f t : Int) :
    Calls Tryd.prog 13 #[v, .int .i64 f, .int .i64 t] w fun e w' => e = .returned (.tuple #[.agg (encG mzero nilS).toArray, .int .i64 2]) ∧ Ge w w' := by
  rw [zero_msg]
  have HL := Lib.hid (fun w' (g : Ge w w') => link_no (h.ge g) f t)
  obtain ⟨W2, hW2⟩ : ∃ x, x = w.alloc (.cells #[.int .i64 0, .int .i64 0, .int .i64 0, .int .i64 0, .int .i64 0, .int .i64 0, .int .i64 0, .int .i64 0, .int .i64 0, .int .i64 0, .slice none 0 0, .slice none 0 0, .slice none 0 0, .slice none 0 0, .slice none 0 0, .int .i64 0, .slice none 0 0, .bool false, .int .i64 0] 45) := ⟨_, rfl⟩
  have HX2 := Lib.hid (show Bx W2 w.heap.size 45 #[.int .i64 0, .int .i64 0, .int .i64 0, .int .i64 0, .int .i64 0, .int .i64 0, .int .i64 0, .int .i64 0, .int .i64 0, .int .i64 0, .slice none 0 0, .slice none 0 0, .slice none 0 0, .slice none 0 0, .slice none 0 0, .int .i64 0, .slice none 0 0, .bool false, .int .i64 0] by rw [hW2]; exact Bx.new w 45 _ rfl)
  have GW := Lib.hid (show Ge w W2 by rw [hW2]; exact (Ge.refl w).alloc _)
  have HI := Lib.hid i45
  clear h
  go_enter Tryd.func13, Tryd.ntmps13
  go_upto_region 1 with (fail)
  rw [← hW2]
  clear hW2
  go_wp2_with fail
  refine (HL.out _ GW.out).mono ?_
  rintro e w3 ⟨rfl, g3⟩
  have HG3 := Lib.hid (GW.out.trans g3)
  have HX3 := Lib.hid (HX2.out.ge g3)
  have HT3 := Lib.hid (show w3.there w.heap.size 0 19 from (HX2.out.ge g3).there)
  clear g3
  go_wp2_with (refine wpList_store_mid (by rfl) 45 (.tmp 6) (.tmp 20) (by rfl) w.heap.size 0 #[.int .i64 0, .int .i64 0, .int .i64 0, .int .i64 0, .int .i64 0, .int .i64 0, .int .i64 0, .int .i64 0, .int .i64 0, .int .i64 0, .slice none 0 0, .slice none 0 0, .slice none 0 0, .slice none 0 0, .slice none 0 0, .int .i64 0, .slice none 0 0, .bool false, .int .i64 0] (by rfl) (by rfl) HT3.out HI.out (by simp [Value.oneCell']) ?_; generalize hW5 : w3.setCells w.heap.size 0 (#[.int .i64 0, .int .i64 0, .int .i64 0, .int .i64 0, .int .i64 0, .int .i64 0, .int .i64 0, .int .i64 0, .int .i64 0, .int .i64 0, .slice none 0 0, .slice none 0 0, .slice none 0 0, .slice none 0 0, .slice none 0 0, .int .i64 0, .slice none 0 0, .bool false, .int .i64 0] : Array Value).toList = W5; have HW5 := Lib.hid hW5; clear hW5)
  have G5 : Ge w W5 := by rw [← HW5.out]; exact below_sets (Nat.le_refl _) _ _ _ HG3.out
  have X5 : Bx W5 w.heap.size 45 #[.int .i64 0, .int .i64 0, .int .i64 0, .int .i64 0, .int .i64 0, .int .i64 0, .int .i64 0, .int .i64 0, .int .i64 0, .int .i64 0, .slice none 0 0, .slice none 0 0, .slice none 0 0, .slice none 0 0, .slice none 0 0, .int .i64 0, .slice none 0 0, .bool false, .int .i64 0] := by
    have := HX3.out.fill (#[.int .i64 0, .int .i64 0, .int .i64 0, .int .i64 0, .int .i64 0, .int .i64 0, .int .i64 0, .int .i64 0, .int .i64 0, .int .i64 0, .slice none 0 0, .slice none 0 0, .slice none 0 0, .slice none 0 0, .slice none 0 0, .int .i64 0, .slice none 0 0, .bool false, .int .i64 0] : Array Value).toList rfl
    rw [HW5.out] at this
    exact this
  refine bodyPost_ret (v := .tuple #[.agg #[.int .i64 0, .int .i64 0, .int .i64 0, .int .i64 0, .int .i64 0, .int .i64 0, .int .i64 0, .int .i64 0, .int .i64 0, .int .i64 0, .slice none 0 0, .slice none 0 0, .slice none 0 0, .slice none 0 0, .slice none 0 0, .int .i64 0, .slice none 0 0, .bool false, .int .i64 0], .int .i64 2]) (results_msg_tmp Tryd.results13 _ W5 w.heap.size _ _ rfl X5 rfl rfl) rfl ?_
  exact ⟨rfl, G5⟩

set_option maxRecDepth 100000 in
set_option maxHeartbeats 4000000 in
theorem take_none {B : Nat} {w : World} {p q : Nat} {O : Nat → Option Nat} {S : Nt} {C : Array Value} (h : NetC B w p q O S C) {f t : Int} (hi : S.idx f t = none) :
    Calls Tryd.prog 13 #[.pointer (some ⟨p, 0, none⟩), .int .i64 f, .int .i64 t] w fun e w' => e = .returned (.tuple #[.agg (encG mzero nilS).toArray, .int .i64 1]) ∧ Ge w w' := by
  rw [zero_msg]
  have HL := Lib.hid (fun w' (g : Ge w w') => link_none (h.ge g) hi)
  obtain ⟨W2, hW2⟩ : ∃ x, x = w.alloc (.cells #[.int .i64 0, .int .i64 0, .int .i64 0, .int .i64 0, .int .i64 0, .int .i64 0, .int .i64 0, .int .i64 0, .int .i64 0, .int .i64 0, .slice none 0 0, .slice none 0 0, .slice none 0 0, .slice none 0 0, .slice none 0 0, .int .i64 0, .slice none 0 0, .bool false, .int .i64 0] 45) := ⟨_, rfl⟩
  have HX2 := Lib.hid (show Bx W2 w.heap.size 45 #[.int .i64 0, .int .i64 0, .int .i64 0, .int .i64 0, .int .i64 0, .int .i64 0, .int .i64 0, .int .i64 0, .int .i64 0, .int .i64 0, .slice none 0 0, .slice none 0 0, .slice none 0 0, .slice none 0 0, .slice none 0 0, .int .i64 0, .slice none 0 0, .bool false, .int .i64 0] by rw [hW2]; exact Bx.new w 45 _ rfl)
  have GW := Lib.hid (show Ge w W2 by rw [hW2]; exact (Ge.refl w).alloc _)
  have HI := Lib.hid i45
  clear h
  go_enter Tryd.func13, Tryd.ntmps13
  go_upto_region 1 with (fail)
  rw [← hW2]
  clear hW2
  go_wp2_with fail
  refine (HL.out _ GW.out).mono ?_
  rintro e w3 ⟨rfl, g3⟩
  have HG3 := Lib.hid (GW.out.trans g3)
  have HX3 := Lib.hid (HX2.out.ge g3)
  have HT3 := Lib.hid (show w3.there w.heap.size 0 19 from (HX2.out.ge g3).there)
  clear g3
  go_wp2_with (refine wpList_store_mid (by rfl) 45 (.tmp 6) (.tmp 20) (by rfl) w.heap.size 0 #[.int .i64 0, .int .i64 0, .int .i64 0, .int .i64 0, .int .i64 0, .int .i64 0, .int .i64 0, .int .i64 0, .int .i64 0, .int .i64 0, .slice none 0 0, .slice none 0 0, .slice none 0 0, .slice none 0 0, .slice none 0 0, .int .i64 0, .slice none 0 0, .bool false, .int .i64 0] (by rfl) (by rfl) HT3.out HI.out (by simp [Value.oneCell']) ?_; generalize hW5 : w3.setCells w.heap.size 0 (#[.int .i64 0, .int .i64 0, .int .i64 0, .int .i64 0, .int .i64 0, .int .i64 0, .int .i64 0, .int .i64 0, .int .i64 0, .int .i64 0, .slice none 0 0, .slice none 0 0, .slice none 0 0, .slice none 0 0, .slice none 0 0, .int .i64 0, .slice none 0 0, .bool false, .int .i64 0] : Array Value).toList = W5; have HW5 := Lib.hid hW5; clear hW5)
  have G5 : Ge w W5 := by rw [← HW5.out]; exact below_sets (Nat.le_refl _) _ _ _ HG3.out
  have X5 : Bx W5 w.heap.size 45 #[.int .i64 0, .int .i64 0, .int .i64 0, .int .i64 0, .int .i64 0, .int .i64 0, .int .i64 0, .int .i64 0, .int .i64 0, .int .i64 0, .slice none 0 0, .slice none 0 0, .slice none 0 0, .slice none 0 0, .slice none 0 0, .int .i64 0, .slice none 0 0, .bool false, .int .i64 0] := by
    have := HX3.out.fill (#[.int .i64 0, .int .i64 0, .int .i64 0, .int .i64 0, .int .i64 0, .int .i64 0, .int .i64 0, .int .i64 0, .int .i64 0, .int .i64 0, .slice none 0 0, .slice none 0 0, .slice none 0 0, .slice none 0 0, .slice none 0 0, .int .i64 0, .slice none 0 0, .bool false, .int .i64 0] : Array Value).toList rfl
    rw [HW5.out] at this
    exact this
  refine bodyPost_ret (v := .tuple #[.agg #[.int .i64 0, .int .i64 0, .int .i64 0, .int .i64 0, .int .i64 0, .int .i64 0, .int .i64 0, .int .i64 0, .int .i64 0, .int .i64 0, .slice none 0 0, .slice none 0 0, .slice none 0 0, .slice none 0 0, .slice none 0 0, .int .i64 0, .slice none 0 0, .bool false, .int .i64 0], .int .i64 1]) (results_msg_tmp Tryd.results13 _ W5 w.heap.size _ _ rfl X5 rfl rfl) rfl ?_
  exact ⟨rfl, G5⟩

set_option maxRecDepth 100000 in
set_option maxHeartbeats 4000000 in
theorem take_empty {B : Nat} {w : World} {p q : Nat} {O : Nat → Option Nat} {S : Nt} {C : Array Value} (h : NetC B w p q O S C) {f t : Int} {j : Nat} {r : Lk} (hi : S.idx f t = some j) (hr : S.rows[j]? = some r) (hl : r.l = []) :
    Calls Tryd.prog 13 #[.pointer (some ⟨p, 0, none⟩), .int .i64 f, .int .i64 t] w fun e w' => e = .returned (.tuple #[.agg (encG mzero nilS).toArray, .int .i64 4]) ∧ Ge w w' := by
  rw [zero_msg]
  have HL := Lib.hid (fun w' (g : Ge w w') => link_some (h.ge g) hi)
  have hC := h.row
  obtain ⟨v, x0, x1, x2, hrow⟩ := h.rows j r hr
  obtain ⟨A, cap, rfl, _⟩ := hrow
  rw [hl] at x0
  have HX0 := Lib.hid (fun w' (g : Ge w w') => ((hC.ge g).cell _).trans x0)
  have HLT := Lib.hid (fun w' (g : Ge w w') => (hC.ge g).lt)
  clear hC x0 x1 x2 hr hl hi
  obtain ⟨W2, hW2⟩ : ∃ x, x = w.alloc (.cells #[.int .i64 0, .int .i64 0, .int .i64 0, .int .i64 0, .int .i64 0, .int .i64 0, .int .i64 0, .int .i64 0, .int .i64 0, .int .i64 0, .slice none 0 0, .slice none 0 0, .slice none 0 0, .slice none 0 0, .slice none 0 0, .int .i64 0, .slice none 0 0, .bool false, .int .i64 0] 45) := ⟨_, rfl⟩
  have HX2 := Lib.hid (show Bx W2 w.heap.size 45 #[.int .i64 0, .int .i64 0, .int .i64 0, .int .i64 0, .int .i64 0, .int .i64 0, .int .i64 0, .int .i64 0, .int .i64 0, .int .i64 0, .slice none 0 0, .slice none 0 0, .slice none 0 0, .slice none 0 0, .slice none 0 0, .int .i64 0, .slice none 0 0, .bool false, .int .i64 0] by rw [hW2]; exact Bx.new w 45 _ rfl)
  have GW := Lib.hid (show Ge w W2 by rw [hW2]; exact (Ge.refl w).alloc _)
  have HI := Lib.hid i45
  clear h
  go_enter Tryd.func13, Tryd.ntmps13
  go_upto_region 1 with (fail)
  rw [← hW2]
  clear hW2
  go_wp2_with fail
  refine (HL.out _ GW.out).mono ?_
  rintro e w3 ⟨rfl, g3⟩
  have HG3 := Lib.hid (GW.out.trans g3)
  have HX3 := Lib.hid (HX2.out.ge g3)
  have HT3 := Lib.hid (show w3.there w.heap.size 0 19 from (HX2.out.ge g3).there)
  have x0 := HX0.out w3 HG3.out
  have n1 := HLT.out w3 HG3.out
  clear g3
  go_wp2_with (refine wpList_store_mid (by rfl) 45 (.tmp 6) (.tmp 28) (by rfl) w.heap.size 0 #[.int .i64 0, .int .i64 0, .int .i64 0, .int .i64 0, .int .i64 0, .int .i64 0, .int .i64 0, .int .i64 0, .int .i64 0, .int .i64 0, .slice none 0 0, .slice none 0 0, .slice none 0 0, .slice none 0 0, .slice none 0 0, .int .i64 0, .slice none 0 0, .bool false, .int .i64 0] (by rfl) (by rfl) HT3.out HI.out (by simp [Value.oneCell']) ?_; generalize hW5 : w3.setCells w.heap.size 0 (#[.int .i64 0, .int .i64 0, .int .i64 0, .int .i64 0, .int .i64 0, .int .i64 0, .int .i64 0, .int .i64 0, .int .i64 0, .int .i64 0, .slice none 0 0, .slice none 0 0, .slice none 0 0, .slice none 0 0, .slice none 0 0, .int .i64 0, .slice none 0 0, .bool false, .int .i64 0] : Array Value).toList = W5; have HW5 := Lib.hid hW5; clear hW5)
  have G5 : Ge w W5 := by rw [← HW5.out]; exact below_sets (Nat.le_refl _) _ _ _ HG3.out
  have X5 : Bx W5 w.heap.size 45 #[.int .i64 0, .int .i64 0, .int .i64 0, .int .i64 0, .int .i64 0, .int .i64 0, .int .i64 0, .int .i64 0, .int .i64 0, .int .i64 0, .slice none 0 0, .slice none 0 0, .slice none 0 0, .slice none 0 0, .slice none 0 0, .int .i64 0, .slice none 0 0, .bool false, .int .i64 0] := by
    have := HX3.out.fill (#[.int .i64 0, .int .i64 0, .int .i64 0, .int .i64 0, .int .i64 0, .int .i64 0, .int .i64 0, .int .i64 0, .int .i64 0, .int .i64 0, .slice none 0 0, .slice none 0 0, .slice none 0 0, .slice none 0 0, .slice none 0 0, .int .i64 0, .slice none 0 0, .bool false, .int .i64 0] : Array Value).toList rfl
    rw [HW5.out] at this
    exact this
  refine bodyPost_ret (v := .tuple #[.agg #[.int .i64 0, .int .i64 0, .int .i64 0, .int .i64 0, .int .i64 0, .int .i64 0, .int .i64 0, .int .i64 0, .int .i64 0, .int .i64 0, .slice none 0 0, .slice none 0 0, .slice none 0 0, .slice none 0 0, .slice none 0 0, .int .i64 0, .slice none 0 0, .bool false, .int .i64 0], .int .i64 4]) (results_msg_tmp Tryd.results13 _ W5 w.heap.size _ _ rfl X5 rfl rfl) rfl ?_
  exact ⟨rfl, G5⟩

def takenR (r : Lk) (l : List Msg) : Lk := ⟨l, r.sent, wrap64 (r.taken + 1)⟩

set_option maxRecDepth 100000 in
set_option maxHeartbeats 8000000 in
theorem take_ok {B : Nat} {w : World} {p q : Nat} {O : Nat → Option Nat} {S : Nt} {C : Array Value} (h : NetC B w p q O S C) {f t : Int} {j : Nat} {r : Lk} {m : Msg} {l : List Msg} (hi : S.idx f t = some j) (hr : S.rows[j]? = some r) (hl : r.l = m :: l) :
    Calls Tryd.prog 13 #[.pointer (some ⟨p, 0, none⟩), .int .i64 f, .int .i64 t] w fun e w' => (∃ s', e = .returned (.tuple #[.agg (encG m s').toArray, .int .i64 0]) ∧ SlAt B w' s' m) ∧
      (∃ C', NetC B w' p q O { S with rows := S.rows.set j (takenR r l) } C') ∧ Nx B (FpC p q O) w w' := by
  have HL := Lib.hid (fun w' (g : Ge w w') => link_some (h.ge g) hi)
  have hjl := Nt.idx_lt hi
  have hC := h.row
  have hl64 := h.ok.small r (List.mem_of_getElem? hr)
  obtain ⟨v, x0, x1, x2, hrow⟩ := h.rows j r hr
  rw [hl] at hrow hl64
  obtain ⟨A, cap, rfl, hle, _, hcap⟩ := hrow
  obtain ⟨g, off, cs, rfl, hg, hbx, hsz, hms⟩ := hcap (by simp at hle; omega)
  obtain ⟨s', hs', hcell⟩ := hms 0 m rfl
  rw [List.length_cons] at hle hl64 x0
  have HSL := Lib.hid hs'
  have HONE := Lib.hid (all_oneCell_toArray (encG_one hs'))
  have HRA := Lib.hid (fun w' (gg : Ge w w') => show w'.rangeAt g off (encG m s') from fun i u hu => by
    rw [(hbx.ge gg).cell]
    have := hcell i u hu
    rwa [Nat.zero_mul, Nat.add_zero] at this)
  have HLEN := Lib.hid (show (encG m s').length = 19 from rfl)
  have HRW := Lib.hid (show ∀ w', Kp B w w' → (∀ b, O b = some j → w'.heap[b]? = w.heap[b]?) → RowAt B w' (.slice (some ⟨g, (if l.length + 1 = 1 then off else off + 19), none⟩) (l.length + 1 - 1) (l.length + 1 - 1)) l (fun g => O g = some j) from fun w' k hb => by
    refine ⟨_, l.length, by rw [Nat.add_sub_cancel], Nat.le_refl _, fun _ => .inr ⟨_, rfl⟩, fun hp => ⟨g, off + 19, cs, by rw [if_neg (by omega)], hg, (hb g hg).trans hbx, by omega, fun i m' hi' => ?_⟩⟩
    obtain ⟨s2, e1, e2⟩ := hms (i + 1) m' hi'
    refine ⟨s2, e1.kp k, fun i' u hu => ?_⟩
    have := e2 i' u hu
    rwa [show off + (i + 1) * 19 + i' = off + 19 + i * 19 + i' by omega] at this)
  have HX0 := Lib.hid (fun w' (gg : Ge w w') => ((hC.ge gg).cell _).trans x0)
  have HX1 := Lib.hid x1
  have HX2 := Lib.hid x2
  have HLT := Lib.hid (fun w' (gg : Ge w w') => (hC.ge gg).lt)
  have HGL := Lib.hid (fun w' (gg : Ge w w') => (hbx.ge gg).lt)
  have HH := Lib.hid (fun w' (gg : Ge w w') => h.ge gg)
  have HJ := Lib.hid hjl
  have HR := Lib.hid hr
  have HFL := Lib.hid (fun b (hb : FpC p q O b) => h.lt hb)
  have HNL := Lib.hid (show l.length + 1 ≤ cap ∧ l.length + 1 ≤ 64 from ⟨hle, hl64⟩)
  have i1 : (0 : Int) < ((l.length + 1 : Nat) : Int) := by omega
  have u0 : (((l.length + 1 : Nat) : Int) == 0) = false := by simp; omega
  clear h hC x0 x1 x2 hs' hcell hms hle hl64 hbx hsz hcap hjl hi
  generalize hL : encG m s' = L at *
  have HLL := Lib.hid hL
  generalize hnn : l.length + 1 = n at *
  have HNN := Lib.hid hnn
  clear hL hnn
  obtain ⟨W2, hW2⟩ : ∃ x, x = w.alloc (.cells #[.int .i64 0, .int .i64 0, .int .i64 0, .int .i64 0, .int .i64 0, .int .i64 0, .int .i64 0, .int .i64 0, .int .i64 0, .int .i64 0, .slice none 0 0, .slice none 0 0, .slice none 0 0, .slice none 0 0, .slice none 0 0, .int .i64 0, .slice none 0 0, .bool false, .int .i64 0] 45) := ⟨_, rfl⟩
  have HB2 := Lib.hid (show Bx W2 w.heap.size 45 #[.int .i64 0, .int .i64 0, .int .i64 0, .int .i64 0, .int .i64 0, .int .i64 0, .int .i64 0, .int .i64 0, .int .i64 0, .int .i64 0, .slice none 0 0, .slice none 0 0, .slice none 0 0, .slice none 0 0, .slice none 0 0, .int .i64 0, .slice none 0 0, .bool false, .int .i64 0] by rw [hW2]; exact Bx.new w 45 _ rfl)
  have GW := Lib.hid (show Ge w W2 by rw [hW2]; exact (Ge.refl w).alloc _)
  have HI := Lib.hid (show (Tryd.prog.info? 45).map (·.size) = some L.length by rw [HLEN.out]; exact i45)
  have HI2 := Lib.hid (show (Tryd.prog.info? 45).map (·.size) = some L.toArray.size by have e : L.toArray.size = 19 := HLEN.out; rw [e]; exact i45)
  go_enter Tryd.func13, Tryd.ntmps13
  go_upto_region 1 with (fail)
  rw [← hW2]
  clear hW2
  go_wp2_with fail
  refine (HL.out _ GW.out).mono ?_
  rintro e w3 ⟨rfl, g3⟩
  have HG3 := Lib.hid (GW.out.trans g3)
  have HB3 := Lib.hid (HB2.out.ge g3)
  have x0 := HX0.out w3 HG3.out
  have n1 := HLT.out w3 HG3.out
  have n2 := HGL.out w3 HG3.out
  have HR3 := Lib.hid (HRA.out w3 HG3.out)
  clear g3
  obtain ⟨W4, hW4⟩ : ∃ x, x = w3.alloc (.cells #[.int .i64 0, .int .i64 0, .int .i64 0, .int .i64 0, .int .i64 0, .int .i64 0, .int .i64 0, .int .i64 0, .int .i64 0, .int .i64 0, .slice none 0 0, .slice none 0 0, .slice none 0 0, .slice none 0 0, .slice none 0 0, .int .i64 0, .slice none 0 0, .bool false, .int .i64 0] 45) := ⟨_, rfl⟩
  have HZ4 := Lib.hid (show Bx W4 w3.heap.size 45 #[.int .i64 0, .int .i64 0, .int .i64 0, .int .i64 0, .int .i64 0, .int .i64 0, .int .i64 0, .int .i64 0, .int .i64 0, .int .i64 0, .slice none 0 0, .slice none 0 0, .slice none 0 0, .slice none 0 0, .slice none 0 0, .int .i64 0, .slice none 0 0, .bool false, .int .i64 0] by rw [hW4]; exact Bx.new w3 45 _ rfl)
  have HG4 := Lib.hid (show Ge w3 W4 by rw [hW4]; exact (Ge.refl _).alloc _)
  have HT4 := Lib.hid (show W4.there w3.heap.size 0 L.toArray.size from by have e : L.toArray.size = 19 := HLEN.out; rw [e]; exact HZ4.out.there)
  have HW4 := Lib.hid hW4
  clear hW4
  go_upto_region 7 with (first | (refine wpList_load_mid (by rfl) 45 (.tmp 33) (by rfl) g off (by rfl) L _ HR3.out Tryd.underlying45 rfl HI.out ?_) | (rw [← HW4.out]; refine wpList_store_mid (by rfl) 45 (.tmp 10) (.tmp 34) (by rfl) w3.heap.size 0 L.toArray (by rfl) (by rfl) HT4.out HI2.out HONE.out ?_; generalize hW5 : W4.setCells w3.heap.size 0 L.toArray.toList = W5; have HW5 := Lib.hid hW5; clear hW5))
  clear x0 n1 n2
  have G35 : Ge w3 W5 := by rw [← HW5.out]; exact below_sets (Nat.le_refl _) _ _ _ HG4.out
  have HB5 := Lib.hid (HB3.out.ge G35)
  have Z5 : Bx W5 w3.heap.size 45 L.toArray := by
    have := HZ4.out.fill L.toArray.toList (by simp [HLEN.out])
    rw [HW5.out] at this
    exact this
  have HZ5 := Lib.hid Z5
  have HG5 := Lib.hid (HG3.out.trans G35)
  have HN53 := Lib.hid (Nat.lt_of_lt_of_le (HB3.out.lt) (Nat.le_refl _))
  clear G35 Z5
  refine Dr.wp_region_TU 16 (by kernel_rfl) (by kernel_rfl) (by decide) (by kernel_rfl) ?_
  iterate 15 (apply Dr.wpT_det; · (intro u w7 hw hF; clear hF; have x0 := HX0.out w7 (HG5.out.trans hw); go_simp; first | exact ⟨Ge.refl _, rfl⟩ | exact Ge.refl _ | rfl))
  refine wpT_slice1 (.tmp 39) (.tmp 44) (.tmp 49) g off n cap (by rfl) (by rfl) (by intro u; go_simp) (by intro u; go_simp) (by intro u; go_simp) (by have := HNN.out; omega) HNL.out.1 ?_
  intro u w7 hw hF
  clear hF
  have HG7 := Lib.hid (HG5.out.trans hw)
  have hn7 := HH.out w7 HG7.out
  have x0 := HX0.out w7 HG7.out
  have f0 := hn7.row.frozen (j * 3)
  have n1 := hn7.row.lt
  have HB7 := Lib.hid (HB5.out.ge hw)
  have HZ7 := Lib.hid (HZ5.out.ge hw)
  have hjs : j * 3 + 2 < C.size := by have := HJ.out; have := hn7.sz; omega
  have hst := (hn7.part j).store HJ.out 0 (by omega) (.slice (some ⟨g, (if n = 1 then off else off + 19), none⟩) (n - 1) (n - 1)) _ ⟨l, r.sent, r.taken⟩ (by have := HNL.out.2; have := HNN.out; show l.length ≤ 64; omega) (by simp [show j * 3 < C.size by omega]) (by rw [Array.getElem?_setIfInBounds_ne (by omega)]; exact HX1.out) (by rw [Array.getElem?_setIfInBounds_ne (by omega)]; exact HX2.out)
    (HRW.out w7 (HG7.out.kp B) (fun b hb => HG7.out.block b (HFL.out b (.inr (.inr (by rw [hb]; simp))))))
  have hkp := nx_set87 (F := FpC p q O) hn7.row hn7.bq (.inr (.inl rfl)) (j * 3) (.slice (some ⟨g, (if n = 1 then off else off + 19), none⟩) (n - 1) (n - 1))
  obtain ⟨W8, hW8⟩ : ∃ x, x = w7.setCell ⟨q, j * 3, none⟩ (.slice (some ⟨g, (if n = 1 then off else off + 19), none⟩) (n - 1) (n - 1)) := ⟨_, rfl⟩
  have hqw := HFL.out q (.inr (.inl rfl))
  have h38 : w.heap.size < w3.heap.size := HN53.out
  have HST := Lib.hid (show ∃ C8, NetC B W8 p q O { S with rows := S.rows.set j ⟨l, r.sent, r.taken⟩ } C8 from ⟨_, by rw [hW8]; exact hst⟩)
  have HNX := Lib.hid (show Nx B (FpC p q O) w W8 from (Nx.of_ge HG7.out).trans (F' := FpC p q O) (by rw [hW8]; exact hkp) (fun _ _ h => h))
  have HB8 := Lib.hid (show Bx W8 w.heap.size 45 #[.int .i64 0, .int .i64 0, .int .i64 0, .int .i64 0, .int .i64 0, .int .i64 0, .int .i64 0, .int .i64 0, .int .i64 0, .int .i64 0, .slice none 0 0, .slice none 0 0, .slice none 0 0, .slice none 0 0, .slice none 0 0, .int .i64 0, .slice none 0 0, .bool false, .int .i64 0] from by rw [hW8]; exact HB7.out.set_ne _ _ (by omega))
  have HZ8 := Lib.hid (show Bx W8 w3.heap.size 45 L.toArray from by rw [hW8]; exact HZ7.out.set_ne _ _ (by omega))
  have HQW := Lib.hid hqw
  have HW8 := Lib.hid hW8
  clear hst hkp hn7 hw hqw h38 hjs hW8
  simp only [Act.put, List.setIfInBounds_toArray, List.set_cons_zero, List.set_cons_succ]
  go_upto_region 8 with (fail)
  rw [← HW8.out]
  clear x0 f0 n1
  obtain ⟨C8, hn8⟩ := HST.out
  obtain ⟨v8, y0, y1, y2, hrw8⟩ := hn8.rows j ⟨l, r.sent, r.taken⟩ (List.getElem?_set_self (by rw [show S.rows.length = S.k * S.k from (HH.out w (Ge.refl _)).ok.len]; exact HJ.out))
  have hjs : j * 3 + 2 < C8.size := by have := HJ.out; have : S.k * S.k * 3 ≤ C8.size := hn8.sz; omega
  have x2 : W8.cell? ⟨q, j * 3 + 2, none⟩ = some (.int .i64 r.taken) := (hn8.row.cell _).trans y2
  have f2 := hn8.row.frozen (j * 3 + 2)
  have n1 := hn8.row.lt
  have hst := (hn8.part j).store HJ.out 2 (by omega) (.int .i64 (wrap64 (r.taken + 1))) v8 (takenR r l) (by have := HNL.out.2; have := HNN.out; show l.length ≤ 64; omega) (by rw [Array.getElem?_setIfInBounds_ne (by omega)]; exact y0) (by rw [Array.getElem?_setIfInBounds_ne (by omega)]; exact y1) (by simp [hjs, takenR]) hrw8
  have hkp := nx_set87 (F := FpC p q O) hn8.row hn8.bq (.inr (.inl rfl)) (j * 3 + 2) (.int .i64 (wrap64 (r.taken + 1)))
  obtain ⟨W9, hW9⟩ : ∃ x, x = W8.setCell ⟨q, j * 3 + 2, none⟩ (.int .i64 (wrap64 (r.taken + 1))) := ⟨_, rfl⟩
  have HST9 := Lib.hid (show ∃ C9, NetC B W9 p q O { S with rows := S.rows.set j (takenR r l) } C9 from ⟨_, by rw [hW9]; simpa using hst⟩)
  have HNX9 := Lib.hid (show Nx B (FpC p q O) w W9 from HNX.out.trans (F' := FpC p q O) (by rw [hW9]; exact hkp) (fun _ _ h => h))
  have HB9 := Lib.hid (show Bx W9 w.heap.size 45 #[.int .i64 0, .int .i64 0, .int .i64 0, .int .i64 0, .int .i64 0, .int .i64 0, .int .i64 0, .int .i64 0, .int .i64 0, .int .i64 0, .slice none 0 0, .slice none 0 0, .slice none 0 0, .slice none 0 0, .slice none 0 0, .int .i64 0, .slice none 0 0, .bool false, .int .i64 0] from by rw [hW9]; exact HB8.out.set_ne _ _ (by have := HQW.out; omega))
  have HZ9 := Lib.hid (show Bx W9 w3.heap.size 45 L.toArray from by rw [hW9]; exact HZ8.out.set_ne _ _ (by have := HQW.out; have := HN53.out; omega))
  have HT9 := Lib.hid (show W9.there w.heap.size 0 L.toArray.size from by have e : L.toArray.size = 19 := HLEN.out; rw [e]; exact HB9.out.there)
  have HW9 := Lib.hid hW9
  clear hst hkp hn8 y0 y1 y2 hrw8 hW9 hjs
  go_upto_region 9 with (fail)
  rw [← HW9.out]
  clear x2 f2 n1
  go_wp2_with (first | (refine wpList_load_row (by rfl) 45 (.tmp 10) (by rfl) w3.heap.size (by rfl) 45 L.toArray (0, 0) _ HZ9.out Tryd.underlying45 rfl HI2.out ?_) | (refine wpList_store_mid (by rfl) 45 (.tmp 6) (.tmp 60) (by rfl) w.heap.size 0 L.toArray (by rfl) (by rfl) HT9.out HI2.out HONE.out ?_; generalize hW10 : W9.setCells w.heap.size 0 L.toArray.toList = W10; have HW10 := Lib.hid hW10; clear hW10))
  all_goals
    have X10 : Bx W10 w.heap.size 45 L.toArray := by
      have := HB9.out.fill L.toArray.toList (by simp [HLEN.out])
      rw [HW10.out] at this
      exact this
    have hbw : B ≤ w.heap.size := by have := (HH.out w (Ge.refl _)).bp; have := (HH.out w (Ge.refl _)).net.lt; omega
    have k10 : Kp B W9 W10 := by rw [← HW10.out]; exact Kp.sets rfl hbw _ _ HB9.out
    have b10 : ∀ b, b < w.heap.size → W10.heap[b]? = W9.heap[b]? := fun b hb => by rw [← HW10.out]; exact sets_far (by omega) _ _ _
    have N10 : Nx B (FpC p q O) w W10 := ⟨HNX9.out.kp.trans k10, fun b hb hn => (b10 b hb).trans (HNX9.out.block b hb hn), by rw [← HW10.out]; exact below_sets (Nat.zero_le _) _ _ _ HNX9.out.bel⟩
    obtain ⟨C9, hn9⟩ := HST9.out
    refine bodyPost_ret (v := .tuple #[.agg L.toArray, .int .i64 0]) (results_msg_tmp Tryd.results13 _ W10 w.heap.size _ _ rfl X10 HLEN.out rfl) rfl ?_
    exact ⟨⟨s', by rw [HLL.out], HSL.out.kp N10.kp⟩, ⟨C9, hn9.keep k10 (fun b hb => b10 b (HFL.out b hb))⟩, N10⟩
end Go.Proofs.YtmhibpmgnicolaaDoor

namespace Go.Proofs.YtmhibpmgnicolaaDoor
open Go.RowKit Go.Shelf

attribute [local go_sem] Oper.semAt_some

theorem all_no {w : World} {v : Value} (h : NoNet w v) (f t : Int) :
    Calls Tryd.prog 21 #[v, .int .i64 f, .int .i64 t] w fun e w' => ∃ Bt, e = .returned (.func (.func 44) #[] #[.pointer (some ⟨Bt, 0, none⟩)]) ∧ Bx w' Bt 72 #[.slice none 0 0] ∧ Ge w w' := by
  have HR := Lib.hid (row_no (h.ge ((Ge.refl w).alloc (.cells #[.slice none 0 0] 72))) f t)
  go_enter Tryd.func21, Tryd.ntmps21
  go_wp2_with fail
  refine HR.out.mono ?_
  rintro e w1 ⟨rfl, g1⟩
  have HG := Lib.hid (((Ge.refl w).alloc _).trans g1)
  have HX := Lib.hid ((Bx.new w 72 #[.slice none 0 0] rfl).ge g1)
  clear g1
  go_wp2
  go_returns
  exact ⟨_, rfl, HX.out, HG.out⟩

theorem clone_no {w : World} {v : Value} (h : NoNet w v) : Calls Tryd.prog 12 #[v] w fun e w' => e = .returned (.pointer none) ∧ Ge w w' := by
  have HM := Lib.hid (made_no h)
  go_enter Tryd.func12, Tryd.ntmps12
  go_wp2_with fail
  refine HM.out.mono ?_
  rintro e w1 ⟨rfl, g1⟩
  have HG := Lib.hid g1
  clear g1
  go_wp2
  go_returns
  exact ⟨rfl, HG.out⟩

set_option maxRecDepth 100000 in
set_option maxHeartbeats 2000000 in
theorem seq_none (Bt : Nat) (w : World) (hX : Bx w Bt 72 #[.slice none 0 0]) : TellsNone 44 #[.pointer (some ⟨Bt, 0, none⟩)] w := fun l W hW => by
  have X : Bx W Bt 72 #[.slice none 0 0] := hX.ge hW
  have c := X.cell
  have lt := X.lt
  clear hX hW X
  show CallsIn Fence.wide 2 Tryd.prog 44 #[.func (.yield l) #[] #[], .pointer (some ⟨Bt, 0, none⟩)] W _
  refine callsIn_of_wp Tryd.func44 rfl trivial ?_ rfl
  simp only [Tryd.ntmps44, List.size_toArray, List.length_cons, List.length_nil, Nat.reduceAdd, Nat.reduceSub, Array.replicate_succ, Array.replicate_zero, List.push_toArray, List.append_toArray, List.nil_append, List.cons_append]
  gi_wp2
  refine wpIn_loop_rounds 1 ?_
  rw [roundsIn_succ]
  gi_wp2
  go_end0
  exact ⟨⟨_, rfl⟩, rfl⟩

theorem nil44 (B : Nat) (w : World) : (binOp .eql 65 (.func (.func 44) #[] #[.pointer (some ⟨B, 0, none⟩)]) .nilFunc).run Tryd.prog w = .ok (.bool false) w := by kernel_rfl

theorem results_msg_cell {fn : Func} {p q : Tmp} (h : fn.results = #[.cell p 45, .cell q 4]) (tmps : Array Value) (w : World) (g b : Nat) (cs : Array Value) (v : Value)
    (hp : tmps.getD p undef = .pointer (some ⟨g, 0, none⟩)) (hg : Bx w g 45 cs) (hs : cs.size = 19) (hq : tmps.getD q undef = .pointer (some ⟨b, 0, none⟩)) (hb : Bx w b 4 #[v]) :
    (results fn tmps).run Tryd.prog w = .ok (.tuple #[.agg cs, v]) w := by
  have hp' : tmps[p]?.getD undef = .pointer (some ⟨g, 0, none⟩) := by simpa using hp
  have hq' : tmps[q]?.getD undef = .pointer (some ⟨b, 0, none⟩) := by simpa using hq
  have hl := run_loadVar_row w g 45 45 cs (0, 0) _ hg Tryd.underlying45 rfl (i45s hs)
  have c0 := hb.cell 0
  simp [results, h, hp', hq', asAddr, hl]
  go_simp

set_option maxRecDepth 100000 in
set_option maxHeartbeats 4000000 in
theorem head_no {w : World} {v : Value} (h : NoNet w v) (f t : Int) :
    Calls Tryd.prog 19 #[v, .int .i64 f, .int .i64 t] w fun e w' => e = .returned (.tuple #[.agg (encG mzero nilS).toArray, .bool false]) ∧ Ge w w' := by
  have HA := Lib.hid (fun w' (g : Ge w w') => all_no (h.ge g) f t)
  rw [zero_msg]
  clear h
  refine (callsIn_wide (n := 3)).1 ?_
  refine callsIn_of_wp_marks Tryd.func19 rfl trivial ?_ rfl
  simp only [Tryd.ntmps19, List.size_toArray, List.length_cons, List.length_nil, Nat.reduceAdd, Nat.reduceSub, Array.replicate_succ, Array.replicate_zero, List.push_toArray, List.append_toArray, List.nil_append, List.cons_append]
  have f21 : Fence.wide.fn 21 := trivial
  gi_wp2_with fail
  refine (callsIn_wide.2 (HA.out _ (((Ge.refl w).alloc _).alloc _))).mono ?_
  rintro e w1 ⟨Bt, rfl, hX, g1⟩
  have HG1 := Lib.hid ((((Ge.refl w).alloc _).alloc _).trans g1)
  have HM1 := Lib.hid (((Bx.new w 45 (#[.int .i64 0, .int .i64 0, .int .i64 0, .int .i64 0, .int .i64 0, .int .i64 0, .int .i64 0, .int .i64 0, .int .i64 0, .int .i64 0, .slice none 0 0, .slice none 0 0, .slice none 0 0, .slice none 0 0, .slice none 0 0, .int .i64 0, .slice none 0 0, .bool false, .int .i64 0]) rfl).alloc _).ge g1)
  have HB1 := Lib.hid ((Bx.new (w.alloc (.cells #[.int .i64 0, .int .i64 0, .int .i64 0, .int .i64 0, .int .i64 0, .int .i64 0, .int .i64 0, .int .i64 0, .int .i64 0, .int .i64 0, .slice none 0 0, .slice none 0 0, .slice none 0 0, .slice none 0 0, .slice none 0 0, .int .i64 0, .slice none 0 0, .bool false, .int .i64 0] 45)) 4 #[.bool false] rfl).ge g1)
  have HX := Lib.hid hX
  clear g1 hX
  gi_wp2_with fail
  refine range_none (gf := 44) (lb := #[.pointer (some ⟨Bt, 0, none⟩)]) rfl (enters_of Tryd.func44 (by kernel_rfl) rfl) (seq_none _ _ HX.out) ?_
  rintro D V hD hV hK
  have HM2 := Lib.hid (HM1.out.ge hV)
  have HB2 := Lib.hid (HB1.out.ge hV)
  have HG2 := Lib.hid (HG1.out.trans hV)
  have HD := Lib.hid hD
  have HK := Lib.hid hK
  have c0 := HB2.out.cell
  have n0 := HB2.out.lt
  clear hV hK hD
  gi_wp2_with (refine wpListIn_store_msg (by rfl) (.tmp 6) (.tmp 15) (by rfl) w.heap.size #[.int .i64 0, .int .i64 0, .int .i64 0, .int .i64 0, .int .i64 0, .int .i64 0, .int .i64 0, .int .i64 0, .int .i64 0, .int .i64 0, .slice none 0 0, .slice none 0 0, .slice none 0 0, .slice none 0 0, .slice none 0 0, .int .i64 0, .slice none 0 0, .bool false, .int .i64 0] (by rfl) (by rfl) HM2.out rfl rfl (by simp [Value.oneCell']) (w0 := w) (Nat.le_refl _) HG2.out ?_; intro w5 x5 g5 f5; have HX5 := Lib.hid x5; have HG5 := Lib.hid g5; have HF5 := Lib.hid f5; have HB5 := Lib.hid (show Bx w5 (w.heap.size + 1) 4 #[.bool false] from (f5 _ (by omega)).trans (show Bx V _ 4 #[.bool false] by have := HB2.out; simpa using this)); clear x5 g5 f5 c0 n0; have c0 := HB5.out.cell; have n0 := HB5.out.lt; have z0 := HB5.out.frozen)
  obtain ⟨w6, hw6⟩ : ∃ x, x = w5.setCell ⟨w.heap.size + 1, 0, none⟩ (.bool false) := ⟨_, rfl⟩
  rw [← hw6]
  have hs1 : w.heap.size + 1 < w1.heap.size := by have := HB1.out.lt; simpa using this
  have hDs := HD.out
  have X6 : Bx w6 w.heap.size 45 #[.int .i64 0, .int .i64 0, .int .i64 0, .int .i64 0, .int .i64 0, .int .i64 0, .int .i64 0, .int .i64 0, .int .i64 0, .int .i64 0, .slice none 0 0, .slice none 0 0, .slice none 0 0, .slice none 0 0, .slice none 0 0, .int .i64 0, .slice none 0 0, .bool false, .int .i64 0] := by rw [hw6]; exact HX5.out.set_ne _ _ (by omega)
  have B6 : Bx w6 (w.heap.size + 1) 4 #[.bool false] := by rw [hw6]; exact HB5.out.set 0 _
  have k6 : w6.heap[D]? = some (.deferred (some [])) := by rw [hw6]; exact (Below.heap_setCell _ _ _ _ (by show D ≠ w.heap.size + 1; omega)).trans ((HF5.out D (by omega)).trans HK.out)
  have G6 : Ge w w6 := by rw [hw6]; exact Below.setCell HG5.out (by show w.heap.size ≤ w.heap.size + 1; omega) _
  have X7 : Bx (w6.putObj D (.deferred none)) w.heap.size 45 #[.int .i64 0, .int .i64 0, .int .i64 0, .int .i64 0, .int .i64 0, .int .i64 0, .int .i64 0, .int .i64 0, .int .i64 0, .int .i64 0, .slice none 0 0, .slice none 0 0, .slice none 0 0, .slice none 0 0, .slice none 0 0, .int .i64 0, .slice none 0 0, .bool false, .int .i64 0] := (World.putObj_heap_other (by omega)).trans X6
  have B7 : Bx (w6.putObj D (.deferred none)) (w.heap.size + 1) 4 #[.bool false] := (World.putObj_heap_other (by omega)).trans B6
  have G7 : Ge w (w6.putObj D (.deferred none)) := Below.trans G6 (belowK_b (w := w) (Nat.le_refl _) _ D _ _ (by omega) k6 rfl rfl)
  clear hw6 c0 n0 z0 X6 B6 G6
  refine ⟨by simp, .inl ⟨_, _, rfl, run_takeDeferred k6, ?_⟩⟩
  exact ⟨_, results_msg_cell Tryd.results19 _ _ _ _ _ _ rfl X7 rfl rfl B7, rfl, G7⟩
end Go.Proofs.YtmhibpmgnicolaaDoor

namespace Go.Proofs.YtmhibpmgnicolaaDoor
open Go.RowKit

structure NS (a : World) (B p q : Nat) (S : Nt) (w : World) : Prop where
  out : ∃ O C, NetC B w p q O S C ∧ ∀ b, FpC p q O b → a.heap.size ≤ b
  ge : Ge a w
theorem NS.next {a : World} {B p q : Nat} {S : Nt} {w w' : World} (h : NS a B p q S w) (g : Ge w w') : NS a B p q S w' := by
  obtain ⟨⟨O, C, h1, h2⟩, h3⟩ := h
  exact ⟨⟨O, C, h1.ge g, h2⟩, h3.trans g⟩
theorem ns_send {a : World} (hT : Tabs a) {B p q : Nat} {S : Nt} {w : World} (h : NS a B p q S w) {f t : Int} {j : Nat} {r : Lk} (hi : S.idx f t = some j) (hr : S.rows[j]? = some r) {m : Msg} {s : Sls} (hs : SlAt B a s m) (hsm : Small m) (hc : chkM m = 0) (hroom : r.l.length < S.room) :
    Calls Tryd.prog 14 #[.pointer (some ⟨p, 0, none⟩), .int .i64 f, .int .i64 t, .agg (encG m s).toArray] w fun e w' => e = .returned (.int .i64 0) ∧ NS a B p q { S with rows := S.rows.set j (sentR r m) } w' := by
  obtain ⟨⟨O, C, h1, h2⟩, h3⟩ := h
  refine (send_ok (hT.ge h3) h1 hi hr (hs.ge h3) hsm hc hroom).mono ?_
  rintro e w' ⟨rfl, O', C', k1, k2, k3⟩
  refine ⟨rfl, ⟨O', C', k1, fun b hb => ?_⟩, Below.trans h3 (k2.below h2 h3.size)⟩
  rcases Nat.lt_or_ge b w.heap.size with hl | hl
  · exact h2 b (k3 b hl hb)
  · exact Nat.le_trans h3.size hl
theorem ns_full {a : World} (hT : Tabs a) {B p q : Nat} {S : Nt} {w : World} (h : NS a B p q S w) {f t : Int} {j : Nat} {r : Lk} (hi : S.idx f t = some j) (hr : S.rows[j]? = some r) {m : Msg} {s : Sls} (hs : SlAt B a s m) (hsm : Small m) (hc : chkM m = 0) (hfull : S.room ≤ r.l.length) :
    Calls Tryd.prog 14 #[.pointer (some ⟨p, 0, none⟩), .int .i64 f, .int .i64 t, .agg (encG m s).toArray] w fun e w' => e = .returned (.int .i64 7) ∧ NS a B p q S w' := by
  have hn := h
  obtain ⟨⟨O, C, h1, h2⟩, h3⟩ := h
  refine (send_full (hT.ge h3) h1 hi hr (hs.ge h3) hsm hc hfull).mono ?_
  rintro e w' ⟨rfl, g⟩
  exact ⟨rfl, hn.next g⟩
theorem ns_take {a : World} {B p q : Nat} {S : Nt} {w : World} (h : NS a B p q S w) {f t : Int} {j : Nat} {r : Lk} {m : Msg} {l : List Msg} (hi : S.idx f t = some j) (hr : S.rows[j]? = some r) (hl : r.l = m :: l) :
    Calls Tryd.prog 13 #[.pointer (some ⟨p, 0, none⟩), .int .i64 f, .int .i64 t] w fun e w' => (∃ s', e = .returned (.tuple #[.agg (encG m s').toArray, .int .i64 0]) ∧ SlAt B w' s' m) ∧ NS a B p q { S with rows := S.rows.set j (takenR r l) } w' := by
  obtain ⟨⟨O, C, h1, h2⟩, h3⟩ := h
  refine (take_ok h1 hi hr hl).mono ?_
  rintro e w' ⟨k1, ⟨C', k2⟩, k3⟩
  exact ⟨k1, ⟨O, C', k2, h2⟩, Below.trans h3 (k3.below h2 h3.size)⟩
theorem ns_left {a : World} {B p q : Nat} {S : Nt} {w : World} (h : NS a B p q S w) :
    Calls Tryd.prog 23 #[.pointer (some ⟨p, 0, none⟩)] w fun e w' => e = .returned (.int .i64 ((lens S.rows : Nat) : Int)) ∧ NS a B p q S w' := by
  have hn := h
  obtain ⟨⟨O, C, h1, h2⟩, h3⟩ := h
  refine (left_any h1).mono ?_
  rintro e w' ⟨rfl, g⟩
  exact ⟨rfl, hn.next g⟩

/-! ### Two workers, one link in use -/
def SA (kk : Nat) (r : Lk) : Nt := ⟨2, kk, [⟨[], 0, 0⟩, ⟨[], 0, 0⟩, r, ⟨[], 0, 0⟩]⟩
structure NR (a : World) (B p kk : Nat) (l : List Msg) (w : World) : Prop where
  out : ∃ q s t, NS a B p q (SA kk ⟨l, s, t⟩) w
theorem NR.ge {a : World} {B p kk : Nat} {l : List Msg} {w : World} (h : NR a B p kk l w) : Ge a w := by
  obtain ⟨q, s, t, h⟩ := h
  exact h.ge
theorem NR.next {a : World} {B p kk : Nat} {l : List Msg} {w w' : World} (h : NR a B p kk l w) (g : Ge w w') : NR a B p kk l w' := by
  obtain ⟨q, s, t, h⟩ := h
  exact ⟨q, s, t, h.next g⟩
theorem nr_new {a w : World} {B kk : Nat} (hB : B ≤ a.heap.size) (hg : Ge a w) (r1 : 1 ≤ kk) (r2 : kk ≤ 64) :
    Calls Tryd.prog 9 #[.int .i64 2, .int .i64 (kk : Int)] w fun e w' => ∃ p, e = .returned (.tuple #[.pointer (some ⟨p, 0, none⟩), .int .i64 0]) ∧ NR a B p kk [] w' := by
  refine (show Calls Tryd.prog 9 #[.int .i64 2, .int .i64 (kk : Int)] w _ from new_ok (B := B) (Nat.le_trans hB hg.size) (k := 2) (room := kk) (by omega) (by omega) r1 r2).mono ?_
  rintro e w' ⟨p, q, C, rfl, h1, h2, h3, h4⟩
  refine ⟨p, rfl, q, 0, 0, ⟨fun _ => none, C, h1, fun b hb => ?_⟩, hg.trans h2⟩
  have := hg.size
  rcases hb with rfl | rfl | hb
  · omega
  · omega
  · exact absurd rfl hb
theorem nr_send {a : World} (hT : Tabs a) {B p kk : Nat} {l : List Msg} {w : World} (h : NR a B p kk l w) {m : Msg} {s : Sls} (hs : SlAt B a s m) (hsm : Small m) (hc : chkM m = 0) (hl : l.length < kk) :
    Calls Tryd.prog 14 #[.pointer (some ⟨p, 0, none⟩), .int .i64 1, .int .i64 0, .agg (encG m s).toArray] w fun e w' => e = .returned (.int .i64 0) ∧ NR a B p kk (l ++ [m]) w' := by
  obtain ⟨q, sn, t, h⟩ := h
  refine (ns_send hT h (f := 1) (t := 0) (j := 2) (r := ⟨l, sn, t⟩) rfl rfl hs hsm hc hl).mono ?_
  rintro e w' ⟨rfl, k⟩
  exact ⟨rfl, q, _, t, k⟩
theorem nr_full {a : World} (hT : Tabs a) {B p kk : Nat} {l : List Msg} {w : World} (h : NR a B p kk l w) {m : Msg} {s : Sls} (hs : SlAt B a s m) (hsm : Small m) (hc : chkM m = 0) (hl : kk ≤ l.length) :
    Calls Tryd.prog 14 #[.pointer (some ⟨p, 0, none⟩), .int .i64 1, .int .i64 0, .agg (encG m s).toArray] w fun e w' => e = .returned (.int .i64 7) ∧ NR a B p kk l w' := by
  obtain ⟨q, sn, t, h⟩ := h
  refine (ns_full hT h (f := 1) (t := 0) (j := 2) (r := ⟨l, sn, t⟩) rfl rfl hs hsm hc hl).mono ?_
  rintro e w' ⟨rfl, k⟩
  exact ⟨rfl, q, _, t, k⟩
theorem nr_take {a : World} {B p kk : Nat} {m : Msg} {l : List Msg} {w : World} (h : NR a B p kk (m :: l) w) :
    Calls Tryd.prog 13 #[.pointer (some ⟨p, 0, none⟩), .int .i64 1, .int .i64 0] w fun e w' => (∃ s', e = .returned (.tuple #[.agg (encG m s').toArray, .int .i64 0]) ∧ SlAt B w' s' m) ∧ NR a B p kk l w' := by
  obtain ⟨q, sn, t, h⟩ := h
  refine (ns_take h (f := 1) (t := 0) (j := 2) (r := ⟨m :: l, sn, t⟩) rfl rfl rfl).mono ?_
  rintro e w' ⟨k1, k⟩
  exact ⟨k1, q, sn, _, k⟩
theorem nr_left {a : World} {B p kk : Nat} {l : List Msg} {w : World} (h : NR a B p kk l w) :
    Calls Tryd.prog 23 #[.pointer (some ⟨p, 0, none⟩)] w fun e w' => e = .returned (.int .i64 (l.length : Int)) ∧ NR a B p kk l w' := by
  obtain ⟨q, sn, t, h⟩ := h
  refine (ns_left h).mono ?_
  rintro e w' ⟨rfl, k⟩
  refine ⟨?_, q, sn, t, k⟩
  have : lens (SA kk ⟨l, sn, t⟩).rows = l.length := by simp [lens, SA]
  rw [this]
end Go.Proofs.YtmhibpmgnicolaaDoor

namespace Go.Proofs.YtmhibpmgnicolaaDoor
open Go.RowKit Go.Shelf

def lOf (S : Nt) (f t : Int) : List Msg := match (S.idx f t).bind (S.rows[·]?) with
  | none => []
  | some r => r.l
def hdM : List Msg → Msg × Bool
  | [] => (mzero, false)
  | m :: _ => (m, true)

set_option maxRecDepth 100000 in
set_option maxHeartbeats 4000000 in
theorem all_any {B : Nat} {w : World} {p q : Nat} {O : Nat → Option Nat} {S : Nt} {C : Array Value} (h : NetC B w p q O S C) (f t : Int) :
    Calls Tryd.prog 21 #[.pointer (some ⟨p, 0, none⟩), .int .i64 f, .int .i64 t] w fun e w' => ∃ Bt v, e = .returned (.func (.func 44) #[] #[.pointer (some ⟨Bt, 0, none⟩)]) ∧ Bx w' Bt 72 #[v] ∧ RowAt B w' v (lOf S f t) (fun b => w.heap.size ≤ b ∧ b < w'.heap.size) ∧ Ge w w' := by
  have hBw : B ≤ w.heap.size := Nat.le_trans h.bp (Nat.le_of_lt h.net.lt)
  obtain ⟨W2, hW2⟩ : ∃ x, x = w.alloc (.cells #[.slice none 0 0] 72) := ⟨_, rfl⟩
  have HX2 := Lib.hid (show Bx W2 w.heap.size 72 #[.slice none 0 0] by rw [hW2]; exact Bx.new w 72 _ rfl)
  have GW := Lib.hid (show Ge w W2 by rw [hW2]; exact (Ge.refl w).alloc _)
  have HRW := Lib.hid (fun w' (g : Ge w w') => row_any (h.ge g) f t)
  rcases hi : S.idx f t with _ | j
  · rw [hi] at HRW
    have e0 : lOf S f t = [] := by unfold lOf; rw [hi]; rfl
    rw [e0]
    clear h hi e0
    go_enter Tryd.func21, Tryd.ntmps21
    go_upto_region 2 with (fail)
    rw [← hW2]
    clear hW2
    go_wp2_with fail
    refine (HRW.out _ GW.out).mono ?_
    rintro e w3 ⟨rfl, g3⟩
    have HX3 := Lib.hid (HX2.out.ge g3)
    have HG3 := Lib.hid (GW.out.trans g3)
    clear g3
    unfold rowP
    go_wp2
    go_returns
    exact ⟨_, _, rfl, HX3.out, RowAt.nil _ _ _, HG3.out⟩
  · rw [hi] at HRW
    obtain ⟨r, hr⟩ : ∃ r, S.rows[j]? = some r := ⟨_, List.getElem?_eq_getElem (by rw [h.ok.len]; exact Nt.idx_lt hi)⟩
    have e0 : lOf S f t = r.l := by unfold lOf; rw [hi]; show (match S.rows[j]? with | none => [] | some r => r.l) = _; rw [hr]
    rw [e0]
    obtain ⟨v, x0, x1, x2, hrow⟩ := h.rows j r hr
    have HROW := Lib.hid (fun w' (g : Ge w w') => hrow.keep (g.kp B) (fun b hb => g.block b (h.bO b j hb).2.1) (fun _ h => h))
    have HL64 := Lib.hid (h.ok.small r (List.mem_of_getElem? hr))
    obtain ⟨A, cap, rfl, _⟩ := hrow
    have HX0 := Lib.hid (fun w' (g : Ge w w') => ((h.row.ge g).cell _).trans x0)
    have HLT := Lib.hid (fun w' (g : Ge w w') => (h.row.ge g).lt)
    have HBW := Lib.hid hBw
    clear h hi hr e0 x0 x1 x2 hBw
    go_enter Tryd.func21, Tryd.ntmps21
    go_upto_region 2 with (fail)
    rw [← hW2]
    clear hW2
    go_wp2_with fail
    refine (HRW.out _ GW.out).mono ?_
    rintro e w3 ⟨rfl, g3⟩
    have HX3 := Lib.hid (HX2.out.ge g3)
    have HG3 := Lib.hid (GW.out.trans g3)
    have x0 := HX0.out w3 HG3.out
    have n0 := HLT.out w3 HG3.out
    clear g3
    unfold rowP
    go_wp2_with fail
    refine (clone_row (HROW.out w3 HG3.out) HL64.out).mono ?_
    rintro e w4 ⟨v', rfl, hr4, ⟨A4, n4, c4, rfl⟩, g4⟩
    have hX4 := HX3.out.ge g4
    have c := hX4.cell
    have fz := hX4.frozen
    have lt := hX4.lt
    have hw3 : w.heap.size < w3.heap.size := HX3.out.lt
    have kp : Kp B w4 (w4.setCell ⟨w.heap.size, 0, none⟩ (.slice A4 n4 c4)) := Kp.set hX4 rfl HBW.out 0 _
    have HR4 := Lib.hid (show RowAt B (w4.setCell ⟨w.heap.size, 0, none⟩ (.slice A4 n4 c4)) (.slice A4 n4 c4) r.l (fun b => w.heap.size ≤ b ∧ b < (w4.setCell ⟨w.heap.size, 0, none⟩ (.slice A4 n4 c4)).heap.size) from
      hr4.keep kp (fun b hb => Below.heap_setCell _ _ _ b (show b ≠ w.heap.size by omega)) (fun b hb => ⟨by omega, Nat.lt_of_lt_of_le hb.2 kp.size⟩))
    have HX5 := Lib.hid (show Bx (w4.setCell ⟨w.heap.size, 0, none⟩ (.slice A4 n4 c4)) w.heap.size 72 #[.slice A4 n4 c4] from hX4.set 0 _)
    have HG5 := Lib.hid (show Ge w (w4.setCell ⟨w.heap.size, 0, none⟩ (.slice A4 n4 c4)) from Below.setCell (HG3.out.trans g4) (Nat.le_refl _) _)
    clear hr4 g4 hX4 x0 n0 hw3 kp
    go_wp2
    go_returns
    exact ⟨_, _, rfl, HX5.out, HR4.out, HG5.out⟩
/-! ### What a turn of one block leaves -/
theorem Ge.others {a b : World} (h : Ge a b) : KeepsOthers a b := ⟨h.size, fun k _ hk _ => (h.block k (Array.getElem?_eq_some_iff.1 hk).1).trans hk⟩

theorem keeps_of {W W' : World} {b : Nat} {t t' : TypeId} {cs cs' : Array Value} (h : ∀ c, c ≠ b → W'.heap[c]? = W.heap[c]?) (hb : Bx W b t cs) (hb' : Bx W' b t' cs') : KeepsOthers W W' := by
  refine ⟨?_, fun k o hk ho => ?_⟩
  · rcases Nat.lt_or_ge W'.heap.size W.heap.size with hlt | hge
    · exfalso
      have hbl := hb'.lt
      have := h W'.heap.size (by omega)
      rw [Array.getElem?_eq_none (Nat.le_refl _), Array.getElem?_eq_getElem hlt] at this
      cases this
    · exact hge
  · by_cases hkb : k = b
    · subst hkb
      unfold Bx at hb
      rw [hb] at hk
      cases hk
      cases ho
    · exact (h k hkb).trans hk

theorem kp_of {B : Nat} {W W' : World} {b : Nat} {t : TypeId} {cs : Array Value} (h : ∀ c, c ≠ b → W'.heap[c]? = W.heap[c]?) (hb : Bx W b t cs) (ht : isD t = false) (hB : B ≤ b) (hs : W.heap.size ≤ W'.heap.size) : Kp B W W' := by
  refine ⟨hs, fun c hc => h c (fun e => ?_)⟩
  subst e
  rcases hc.2 with h2 | ⟨cs', t', mk, h2, h3⟩
  · omega
  · unfold Bx at hb
    rw [hb] at h2
    cases h2
    rw [ht] at h3
    cases h3

attribute [local go_sem] Oper.semAt_some

/-- Head's two results -/
structure HdC (w : World) (b6 b7 : Nat) (CS : Array Value) (q : Bool) (W : World) : Prop where
  m : Bx W b6 45 CS
  q : Bx W b7 4 #[.bool q]
  ge : Ge w W

set_option maxRecDepth 100000 in
set_option maxHeartbeats 8000000 in
theorem head_any {B : Nat} {w : World} {p q : Nat} {O : Nat → Option Nat} {S : Nt} {C : Array Value} (h : NetC B w p q O S C) (f t : Int) (hsm : ∀ m ∈ lOf S f t, Small m) (hl64 : (lOf S f t).length ≤ 64) :
    Calls Tryd.prog 19 #[.pointer (some ⟨p, 0, none⟩), .int .i64 f, .int .i64 t] w fun e w' => (∃ s', e = .returned (.tuple #[.agg (encG (hdM (lOf S f t)).1 s').toArray, .bool (hdM (lOf S f t)).2]) ∧ SlAt B w' s' (hdM (lOf S f t)).1) ∧ Ge w w' := by
  have hBw : B ≤ w.heap.size := Nat.le_trans h.bp (Nat.le_of_lt h.net.lt)
  have HBW := Lib.hid hBw
  have HA := Lib.hid (fun w' (g : Ge w w') => all_any (h.ge g) f t)
  generalize lOf S f t = l at *
  clear h hBw
  obtain ⟨W2, hW2⟩ : ∃ x, x = (w.alloc (.cells #[.int .i64 0, .int .i64 0, .int .i64 0, .int .i64 0, .int .i64 0, .int .i64 0, .int .i64 0, .int .i64 0, .int .i64 0, .int .i64 0, .slice none 0 0, .slice none 0 0, .slice none 0 0, .slice none 0 0, .slice none 0 0, .int .i64 0, .slice none 0 0, .bool false, .int .i64 0] 45)).alloc (.cells #[.bool false] 4) := ⟨_, rfl⟩
  have hG2 : Ge w W2 := by rw [hW2]; exact ((Ge.refl w).alloc _).alloc _
  have H2 := Lib.hid (show HdC w w.heap.size (w.heap.size + 1) #[.int .i64 0, .int .i64 0, .int .i64 0, .int .i64 0, .int .i64 0, .int .i64 0, .int .i64 0, .int .i64 0, .int .i64 0, .int .i64 0, .slice none 0 0, .slice none 0 0, .slice none 0 0, .slice none 0 0, .slice none 0 0, .int .i64 0, .slice none 0 0, .bool false, .int .i64 0] false W2 from ⟨by rw [hW2]; exact (Bx.new w 45 _ rfl).alloc _, by rw [hW2]; simpa using Bx.new (w.alloc (.cells #[.int .i64 0, .int .i64 0, .int .i64 0, .int .i64 0, .int .i64 0, .int .i64 0, .int .i64 0, .int .i64 0, .int .i64 0, .int .i64 0, .slice none 0 0, .slice none 0 0, .slice none 0 0, .slice none 0 0, .slice none 0 0, .int .i64 0, .slice none 0 0, .bool false, .int .i64 0] 45)) 4 #[.bool false] rfl, hG2⟩)
  have HG2 := Lib.hid hG2
  have HSM := Lib.hid hsm
  have HL64 := Lib.hid hl64
  clear hG2 hsm hl64
  refine (callsIn_wide (n := 3)).1 ?_
  refine callsIn_of_wp_marks Tryd.func19 rfl trivial ?_ rfl
  simp only [Tryd.ntmps19, List.size_toArray, List.length_cons, List.length_nil, Nat.reduceAdd, Nat.reduceSub, Array.replicate_succ, Array.replicate_zero, List.push_toArray, List.append_toArray, List.nil_append, List.cons_append]
  have f21 : Fence.wide.fn 21 := trivial
  have HW2 := Lib.hid hW2
  clear hW2
  gi_wp2_with fail
  rw [← HW2.out]
  refine (callsIn_wide.2 (HA.out W2 HG2.out)).mono ?_
  rintro e w3 ⟨Bt, v, rfl, hX, hrow, g3⟩
  have HX := Lib.hid hX
  have HROW := Lib.hid hrow
  have H3 := Lib.hid (show HdC w w.heap.size (w.heap.size + 1) #[.int .i64 0, .int .i64 0, .int .i64 0, .int .i64 0, .int .i64 0, .int .i64 0, .int .i64 0, .int .i64 0, .int .i64 0, .int .i64 0, .slice none 0 0, .slice none 0 0, .slice none 0 0, .slice none 0 0, .slice none 0 0, .int .i64 0, .slice none 0 0, .bool false, .int .i64 0] false w3 from ⟨H2.out.m.ge g3, H2.out.q.ge g3, HG2.out.trans g3⟩)
  have HB3 := Lib.hid (show B ≤ w3.heap.size from Nat.le_trans HBW.out (HG2.out.trans g3).size)
  have HSQ := Lib.hid (msgs_seq (Ge.refl w3) HX.out HROW.out (fun b hb => hb.2) HSM.out HL64.out HB3.out w3.heap.size (Nat.le_refl _) (Nat.le_refl _))
  clear hX hrow g3 H2 HG2 HW2
  gi_wp2_with fail
  have HZ3 := Lib.hid (show w.heap.size + 2 ≤ w3.heap.size from H3.out.q.lt)
  have HW3 := Lib.hid (show w.heap.size ≤ w3.heap.size by have := HZ3.out; omega)
  refine range_msgs rfl rfl (Nat.le_refl _) HSQ.out
    (fun pre W => pre = [] ∧ w3.heap.size ≤ W.heap.size ∧ HdC w w.heap.size (w.heap.size + 1) #[.int .i64 0, .int .i64 0, .int .i64 0, .int .i64 0, .int .i64 0, .int .i64 0, .int .i64 0, .int .i64 0, .int .i64 0, .int .i64 0, .slice none 0 0, .slice none 0 0, .slice none 0 0, .slice none 0 0, .slice none 0 0, .int .i64 0, .slice none 0 0, .bool false, .int .i64 0] false W)
    (fun s A A' g hs => ⟨hs.1, Nat.le_trans hs.2.1 g.size, g.bx hs.2.2.m, g.bx hs.2.2.q, g.ge HW3.out hs.2.2.ge⟩)
    ⟨rfl, Nat.le_refl _, H3.out⟩
    (fun c pre W => c = .ret ∧ ∃ m s, pre.map (·.1) = [m] ∧ l[0]? = some m ∧ HdC w w.heap.size (w.heap.size + 1) (encG m s).toArray true W ∧ SlAt B W s m)
    (fun c s A A' g hs => by
      obtain ⟨h1, m, s', h2, h3, h4, h5⟩ := hs
      exact ⟨h1, m, s', h2, h3, ⟨g.bx h4.m, g.bx h4.q, g.ge HW3.out h4.ge⟩, h5.kp (g.kp HB3.out)⟩)
    (fun pre x a' W => l[pre.length]? = some x.1 ∧ ∃ bx, w.heap.size + 2 ≤ bx ∧ Bx W bx 45 (encG x.1 x.2).toArray ∧ SlAt B W x.2 x.1 ∧ a' = { tmps := #[.pointer (some ⟨p, 0, none⟩), .int .i64 f, .int .i64 t, undef, undef, undef, .pointer (some ⟨w.heap.size, 0, none⟩), .pointer (some ⟨w.heap.size + 1, 0, none⟩), .pointer (some ⟨bx, 0, none⟩), .pointer (some ⟨p, 0, none⟩), .int .i64 f, .int .i64 t, .func (.func 44) #[] #[.pointer (some ⟨Bt, 0, none⟩)], .agg (encG x.1 x.2).toArray, undef, undef], defers := [] })
    (fun pre x a' A A' g hs => by
      obtain ⟨h1, bx, h2, h3, h4, h5⟩ := hs
      exact ⟨h1, bx, h2, g.bx h3, h4.kp (g.kp HB3.out), h5⟩)
    ?assign ?body ?done ?stop
  case assign =>
    rintro lp pre x W K ⟨rfl, hsz, hH⟩ ⟨_, hx, hsl⟩ hK
    have HLS := Lib.hid (show (encG x.1 x.2).toArray.size = 19 from rfl)
    have HONE := Lib.hid (show ∀ u ∈ (encG x.1 x.2).toArray.toList, u.oneCell' = true from fun u hu => encG_one hsl u (by simpa using hu))
    have HK := Lib.hid (show ∀ w5, Bx w5 W.heap.size 45 (encG x.1 x.2).toArray → Ge W w5 → K { tmps := #[.pointer (some ⟨p, 0, none⟩), .int .i64 f, .int .i64 t, undef, undef, undef, .pointer (some ⟨w.heap.size, 0, none⟩), .pointer (some ⟨w.heap.size + 1, 0, none⟩), .pointer (some ⟨W.heap.size, 0, none⟩), .pointer (some ⟨p, 0, none⟩), .int .i64 f, .int .i64 t, .func (.func 44) #[] #[.pointer (some ⟨Bt, 0, none⟩)], .agg (encG x.1 x.2).toArray, undef, undef], defers := [] } w5 from fun w5 x5 g5 =>
      hK _ w5 g5 ⟨hx, W.heap.size, by have := HZ3.out; omega, x5, hsl.ge g5, rfl⟩)
    clear hK hsl hx
    unfold encX
    generalize (encG x.1 x.2).toArray = L at *
    gi_wp2_with (refine wpListIn_store_msg (by rfl) (.tmp 8) (.tmp 13) (by rfl) W.heap.size L (by rfl) (by rfl) (Bx.new _ 45 _ rfl) rfl HLS.out HONE.out (w0 := W) (Nat.le_refl _) ((Ge.refl _).alloc _) ?_; intro w5 x5 g5 f5; have HX5 := Lib.hid x5; have HG5 := Lib.hid g5; clear x5 g5 f5)
    exact HK.out _ HX5.out HG5.out
  case body =>
    rintro lp pre x a' W ⟨rfl, hsz, hH⟩ ⟨hx, bx, hbx, hX, hsl, rfl⟩
    have HX0 := Lib.hid hX
    have HLS := Lib.hid (show (encG x.1 x.2).toArray.size = 19 from rfl)
    have HONE := Lib.hid (show ∀ u ∈ (encG x.1 x.2).toArray.toList, u.oneCell' = true from fun u hu => encG_one hsl u (by simpa using hu))
    have HM := Lib.hid hH.m
    have HGE := Lib.hid hH.ge
    have HQ := Lib.hid hH.q
    have HP := Lib.hid (show ∀ w5, Bx w5 w.heap.size 45 (encG x.1 x.2).toArray → Ge w w5 → (∀ c, c ≠ w.heap.size → w5.heap[c]? = W.heap[c]?) →
        KeepsFrom w3.heap.size W (w5.setCell ⟨w.heap.size + 1, 0, none⟩ (.bool true)) ∧ (.ret = Code.ret ∧ ∃ m s, ([] ++ [x] : List (Msg × Sls)).map (·.1) = [m] ∧ l[0]? = some m ∧ HdC w w.heap.size (w.heap.size + 1) (encG m s).toArray true (w5.setCell ⟨w.heap.size + 1, 0, none⟩ (.bool true)) ∧ SlAt B (w5.setCell ⟨w.heap.size + 1, 0, none⟩ (.bool true)) s m) from fun w5 x5 g5 f5 => by
      have q5 : Bx w5 (w.heap.size + 1) 4 #[.bool false] := (f5 _ (by omega)).trans hH.q
      have q6 : Bx (w5.setCell ⟨w.heap.size + 1, 0, none⟩ (.bool true)) (w.heap.size + 1) 4 #[.bool true] := q5.set 0 _
      have k5 := keeps_of f5 hH.m x5
      have hk6 : ∀ c, c ≠ w.heap.size + 1 → (w5.setCell ⟨w.heap.size + 1, 0, none⟩ (.bool true)).heap[c]? = w5.heap[c]? := fun c hc => Below.heap_setCell _ _ _ c hc
      have k6 := keeps_of hk6 q5 q6
      have p5 : Kp B W w5 := kp_of f5 hH.m rfl HBW.out k5.size
      have p6 : Kp B w5 (w5.setCell ⟨w.heap.size + 1, 0, none⟩ (.bool true)) := kp_of hk6 q5 rfl (by have := HBW.out; omega) k6.size
      exact ⟨(k5.trans k6).from _, rfl, x.1, x.2, rfl, hx, ⟨x5.set_ne _ _ (by omega), q6, Below.setCell g5 (by show w.heap.size ≤ w.heap.size + 1; omega) _⟩, (hsl.kp p5).kp p6⟩)
    clear hx hX hsl hH hsz
    generalize (encG x.1 x.2).toArray = L at *
    gi_wp2_with (first | (refine wpListIn_load_msg (by go_simp) (.tmp 8) (by rfl) bx (by rfl) L HX0.out HLS.out ?_) | (refine wpListIn_store_msg (by rfl) (.tmp 6) (.tmp 14) (by rfl) w.heap.size L (by rfl) (by rfl) HM.out rfl HLS.out HONE.out (w0 := w) (Nat.le_refl _) HGE.out ?_; intro w5 x5 g5 f5; have HB5 := Lib.hid (show Bx w5 (w.heap.size + 1) 4 #[.bool false] from (f5 _ (by omega)).trans HQ.out); have HPP := Lib.hid (HP.out w5 x5 g5 f5); clear x5 g5 f5; have c0 := HB5.out.cell; have n0 := HB5.out.lt; have z0 := HB5.out.frozen))
    obtain ⟨h0, _, h⟩ := HPP.out
    simp at h
    obtain ⟨h1, s', h2, h3⟩ := h
    exact ⟨h0, rfl, x.1, ⟨x.2, rfl⟩, h1, s', h2, h3⟩
  case done =>
    rintro D xs W hD hS ⟨rfl, hsz, hH⟩ hK
    obtain rfl : l = [] := hS.symm
    have HM := Lib.hid hH.m
    have HGE := Lib.hid hH.ge
    have HQ := Lib.hid hH.q
    have HK := Lib.hid hK
    have HD := Lib.hid hD
    clear hH hK hD hS
    have c0 := HQ.out.cell
    have n0 := HQ.out.lt
    gi_wp2_with (refine wpListIn_store_msg (by rfl) (.tmp 6) (.tmp 15) (by rfl) w.heap.size #[.int .i64 0, .int .i64 0, .int .i64 0, .int .i64 0, .int .i64 0, .int .i64 0, .int .i64 0, .int .i64 0, .int .i64 0, .int .i64 0, .slice none 0 0, .slice none 0 0, .slice none 0 0, .slice none 0 0, .slice none 0 0, .int .i64 0, .slice none 0 0, .bool false, .int .i64 0] (by rfl) (by rfl) HM.out rfl rfl (by simp [Value.oneCell']) (w0 := w) (Nat.le_refl _) HGE.out ?_; intro w5 x5 g5 f5; have HX5 := Lib.hid x5; have HG5 := Lib.hid g5; have HF5 := Lib.hid f5; have HB5 := Lib.hid (show Bx w5 (w.heap.size + 1) 4 #[.bool false] from (f5 _ (by omega)).trans HQ.out); clear x5 g5 f5 c0 n0; have c0 := HB5.out.cell; have n0 := HB5.out.lt; have z0 := HB5.out.frozen)
    obtain ⟨w6, hw6⟩ : ∃ x, x = w5.setCell ⟨w.heap.size + 1, 0, none⟩ (.bool false) := ⟨_, rfl⟩
    rw [← hw6]
    have hs1 := HZ3.out
    have hDs := HD.out
    have X6 : Bx w6 w.heap.size 45 #[.int .i64 0, .int .i64 0, .int .i64 0, .int .i64 0, .int .i64 0, .int .i64 0, .int .i64 0, .int .i64 0, .int .i64 0, .int .i64 0, .slice none 0 0, .slice none 0 0, .slice none 0 0, .slice none 0 0, .slice none 0 0, .int .i64 0, .slice none 0 0, .bool false, .int .i64 0] := by rw [hw6]; exact HX5.out.set_ne _ _ (by omega)
    have B6 : Bx w6 (w.heap.size + 1) 4 #[.bool false] := by rw [hw6]; exact HB5.out.set 0 _
    have k6 : w6.heap[D]? = some (.deferred (some [])) := by rw [hw6]; exact (Below.heap_setCell _ _ _ _ (by show D ≠ w.heap.size + 1; omega)).trans ((HF5.out D (by omega)).trans HK.out)
    have G6 : Ge w w6 := by rw [hw6]; exact Below.setCell HG5.out (by show w.heap.size ≤ w.heap.size + 1; omega) _
    have X7 : Bx (w6.putObj D (.deferred none)) w.heap.size 45 #[.int .i64 0, .int .i64 0, .int .i64 0, .int .i64 0, .int .i64 0, .int .i64 0, .int .i64 0, .int .i64 0, .int .i64 0, .int .i64 0, .slice none 0 0, .slice none 0 0, .slice none 0 0, .slice none 0 0, .slice none 0 0, .int .i64 0, .slice none 0 0, .bool false, .int .i64 0] := (World.putObj_heap_other (by omega)).trans X6
    have B7 : Bx (w6.putObj D (.deferred none)) (w.heap.size + 1) 4 #[.bool false] := (World.putObj_heap_other (by omega)).trans B6
    have G7 : Ge w (w6.putObj D (.deferred none)) := Below.trans G6 (belowK_b (w := w) (Nat.le_refl _) _ D _ _ (by omega) k6 rfl rfl)
    clear hw6 c0 n0 z0 X6 B6 G6
    refine ⟨by simp, .inl ⟨_, _, rfl, run_takeDeferred k6, ?_⟩⟩
    exact ⟨_, results_msg_cell Tryd.results19 _ _ _ _ _ _ rfl X7 rfl rfl B7, ⟨nilS, rfl, nilS_at B _ mzero⟩, G7⟩
  case stop =>
    rintro D c pre W hD ⟨k, hk, hp⟩ ⟨rfl, m, s, hpm, hl0, hH, hsl⟩ hK
    obtain ⟨l', rfl⟩ : ∃ l', l = m :: l' := by
      cases l with
      | nil => simp at hl0
      | cons a r => simp at hl0; exact ⟨r, by rw [hl0]⟩
    have hs1 := HZ3.out
    have X7 : Bx (W.putObj D (.deferred none)) w.heap.size 45 (encG m s).toArray := (World.putObj_heap_other (by omega)).trans hH.m
    have B7 : Bx (W.putObj D (.deferred none)) (w.heap.size + 1) 4 #[.bool true] := (World.putObj_heap_other (by omega)).trans hH.q
    have G7 : Ge w (W.putObj D (.deferred none)) := Below.trans hH.ge (belowK_b (w := w) (Nat.le_refl _) _ D _ _ (by omega) hK rfl rfl)
    have S7 : SlAt B (W.putObj D (.deferred none)) s m := hsl.kp ((aside_put (.deferred none) hD hK rfl).kp HB3.out)
    have HK := Lib.hid hK
    clear hK hH hsl hp hpm hl0
    gi_wp2
    refine ⟨by simp, .inl ⟨_, _, rfl, run_takeDeferred HK.out, ?_⟩⟩
    exact ⟨_, results_msg_cell Tryd.results19 _ _ _ _ _ _ rfl X7 rfl rfl B7, ⟨s, rfl, S7⟩, G7⟩
end Go.Proofs.YtmhibpmgnicolaaDoor
