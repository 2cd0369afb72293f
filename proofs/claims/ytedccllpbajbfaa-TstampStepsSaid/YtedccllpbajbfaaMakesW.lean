/-
  TstampMakes: the walk.
-/
import Derived.Test.YtedccllpbajbfaaRParse
import Derived.Test.YtedccllpbajbfaaLive
import Derived.Test.YtedccllpbajbfaaEq
namespace Go.Proofs.Ytedccllpbajbfaa
open Go.RowKit

def PE (s : ByteArray) (t : Tm) (e : Int) : Prop := (IsTxt (bI s) t ∧ e = 0) ∨ ((¬ ∃ t : Tm, IsTxt (bI s) t) ∧ t = tz ∧ e = 10)
theorem text_inj {t t' : Tm} (hc : Chk t) (hc' : Chk t') (h : textL t = textL t') : t = t' := by
  obtain ⟨l, n, h1, h2⟩ := prun_text hc
  obtain ⟨l', n', h1', h2'⟩ := prun_text hc'
  rw [h, h1'] at h1
  cases h1
  rw [h2] at h2'
  obtain ⟨e1, e2⟩ := List.cons.inj h2'
  rw [← (mk_lp hc).1, ← (mk_lp hc').1, e1, e2]
theorem PE.uniq {s : ByteArray} {t t' : Tm} {e e' : Int} (h : PE s t e) (k : PE s t' e') : t = t' ∧ e = e' := by
  rcases h with ⟨h, rfl⟩ | ⟨h, rfl, rfl⟩
  · rcases k with ⟨k, rfl⟩ | ⟨k, rfl, rfl⟩
    · exact ⟨text_inj h.1 k.1 (h.2.trans k.2.symm), rfl⟩
    · exact absurd ⟨_, h⟩ k
  · rcases k with ⟨k, rfl⟩ | ⟨k, rfl, rfl⟩
    · exact absurd ⟨_, k⟩ h
    · exact ⟨rfl, rfl⟩
theorem parse_end {s : ByteArray} {w : World} {e : Ending} {w' : World} (h : ParseEnd s w e w') : ∃ (t : Tm) (n : Int), e = .returned (.tuple #[.agg #[.int .i64 t.e, .int .i64 t.d, .int .i64 t.l0, .int .i64 t.l1, .int .i64 t.l2, .int .i64 t.l3], .int .i64 n]) ∧ PE s t n ∧ Ge w w' := by
  obtain ⟨h, hg⟩ := h
  rcases h with ⟨t, ht, rfl⟩ | ⟨h, rfl⟩
  · exact ⟨t, 0, rfl, .inl ⟨ht, rfl⟩, hg⟩
  · exact ⟨tz, 10, rfl, .inr ⟨h, rfl, rfl⟩, hg⟩

set_option maxRecDepth 100000 in
set_option maxHeartbeats 4000000 in
theorem makes_any (ep : Int) (sv : Value) (xs : List Int) (s : ByteArray) (w : World) (hs : IntsAt w sv xs) :
    Calls Try.prog 4 #[.int .i64 ep, sv, .string s] w fun e w' => e = .returned (.bool true) ∧ Ge w w' := by
  have HS := Lib.hid hs
  obtain ⟨A, cap, rfl, -⟩ := hs
  go_enter Try.func4, Try.ntmps4
  go_wp2_with fail
  refine (live_any _).mono ?_
  rintro e w1 ⟨rfl, hg1⟩
  have G1 := Lib.hid (show Ge w w1 from hg1)
  clear hg1
  by_cases c1 : 100 < xs.length
  · have c1' : decide ((100 : Int) < (xs.length : Int)) = true := by simp; omega
    go_wp2
    go_returns
    exact ⟨rfl, G1.out⟩
  have c1' : decide ((100 : Int) < (xs.length : Int)) = false := by simp; omega
  by_cases c2 : 1000 < s.size
  · have c2' : decide ((1000 : Int) < (s.size : Int)) = true := by simp; omega
    go_wp2
    go_returns
    exact ⟨rfl, G1.out⟩
  have c2' : decide ((1000 : Int) < (s.size : Int)) = false := by simp; omega
  have A1 := Lib.hid (fun w' (h : IntsAt w' _ xs) => make_any ep (.slice A xs.length cap) xs w' h (by omega))
  have A2 := Lib.hid (fun w' (h : IntsAt w' _ xs) => rmake_any ep (.slice A xs.length cap) xs w' h (by omega))
  generalize makeT ep xs = t at *
  generalize makeE ep xs = me at *
  go_wp2_with fail
  refine (A1.out _ (HS.out.below G1.out)).mono ?_
  rintro e w2 ⟨rfl, hb2⟩
  have G2 := Lib.hid (G1.out.trans (show Ge w1 w2 from hb2))
  clear hb2
  go_wp2_with fail
  refine (A2.out _ (HS.out.below (G2.out.alloc _))).mono ?_
  rintro e w3 ⟨rfl, hb3⟩
  have X0 : Bx w3 w2.heap.size 24 #[.int .i64 t.e, .int .i64 t.d, .int .i64 t.l0, .int .i64 t.l1, .int .i64 t.l2, .int .i64 t.l3] := (Bx.new _ _ _ rfl).ge hb3
  have G3 := Lib.hid ((G2.out.alloc _).trans hb3)
  clear hb3
  go_wp2_with fail
  refine (parse_any s (by omega) _).mono ?_
  intro e w4 hpe
  obtain ⟨t4, n4, rfl, P4, hb4⟩ := parse_end hpe
  clear hpe
  replace X0 := (X0.alloc (.cells #[.int .i64 t.e, .int .i64 t.d, .int .i64 t.l0, .int .i64 t.l1, .int .i64 t.l2, .int .i64 t.l3] 24)).ge hb4
  have X1 : Bx w4 w3.heap.size 24 #[.int .i64 t.e, .int .i64 t.d, .int .i64 t.l0, .int .i64 t.l1, .int .i64 t.l2, .int .i64 t.l3] := (Bx.new _ _ _ rfl).ge hb4
  have G4 := Lib.hid ((G3.out.alloc _).trans hb4)
  have HP4 := Lib.hid P4
  clear hb4 P4
  go_wp2_with fail
  refine (rparse_any s (by omega) _).mono ?_
  intro e w5 hpe
  obtain ⟨t5, n5, rfl, P5, hb5⟩ := parse_end hpe
  obtain ⟨rfl, rfl⟩ := P5.uniq HP4.out
  replace X0 := (X0.alloc (.cells #[.int .i64 t5.e, .int .i64 t5.d, .int .i64 t5.l0, .int .i64 t5.l1, .int .i64 t5.l2, .int .i64 t5.l3] 24)).ge hb5
  replace X1 := (X1.alloc (.cells #[.int .i64 t5.e, .int .i64 t5.d, .int .i64 t5.l0, .int .i64 t5.l1, .int .i64 t5.l2, .int .i64 t5.l3] 24)).ge hb5
  have X2 : Bx w5 w4.heap.size 24 #[.int .i64 t5.e, .int .i64 t5.d, .int .i64 t5.l0, .int .i64 t5.l1, .int .i64 t5.l2, .int .i64 t5.l3] := (Bx.new _ _ _ rfl).ge hb5
  have G5 := Lib.hid ((G4.out.alloc _).trans hb5)
  clear hb5 P5 HP4 hpe
  have q0 := fun w' => eql_tm t t w'
  have q1 := fun w' => eql_tm t5 t5 w'
  rw [eqB_self] at q0 q1
  have r0 : (me == me) = true := by simp
  have r1 : (n5 == n5) = true := by simp
  have c0 := X0.cell
  have l0 := X0.lt
  have c1x := X1.cell
  have l1 := X1.lt
  have c2x := X2.cell
  have l2 := X2.lt
  go_wp2
  go_returns
  exact ⟨rfl, G5.out.alloc _⟩
end Go.Proofs.Ytedccllpbajbfaa
