/-
  The reference's both, Join, Meet: all ways.
-/
import Derived.Test.YtedccllpbajbfaaRBoth
namespace Go.Proofs.Ytedccllpbajbfaa
open Go.RowKit

set_option maxHeartbeats 2000000 in
theorem rboth_any (up : Bool) (a b : Tm) (w : World) :
    Calls Try.prog 43 #[.agg #[.int .i64 a.e, .int .i64 a.d, .int .i64 a.l0, .int .i64 a.l1, .int .i64 a.l2, .int .i64 a.l3], .agg #[.int .i64 b.e, .int .i64 b.d, .int .i64 b.l0, .int .i64 b.l1, .int .i64 b.l2, .int .i64 b.l3], .bool up] w fun e w' => e = .returned (.tuple #[.agg #[.int .i64 (bothT (gU up) a b).e, .int .i64 (bothT (gU up) a b).d, .int .i64 (bothT (gU up) a b).l0, .int .i64 (bothT (gU up) a b).l1, .int .i64 (bothT (gU up) a b).l2, .int .i64 (bothT (gU up) a b).l3], .int .i64 (bothE a b)]) ∧ Ge w w' := by
  by_cases ha : Chk a
  · by_cases hb : Chk b
    · by_cases hd : a.d = b.d
      · have he : bothE a b = 0 := by unfold bothE; rw [if_pos ⟨ha, hb⟩, if_pos hd]
        rw [bothT_yes he, he]
        obtain ⟨d, hda⟩ : ∃ d : Nat, a.d = (d : Int) := ⟨a.d.toNat, by have := ha.2.2.1; omega⟩
        have hdb : b.d = (d : Int) := by omega
        have := rboth_yes up a b d hda hdb w ha hb
        rw [hdb, hda]
        exact this
      · have HA := Lib.hid (rcheck_yes ha)
        have HB := Lib.hid (rcheck_yes hb)
        have he : bothE a b = 11 := by unfold bothE; rw [if_pos ⟨ha, hb⟩, if_neg hd]
        have HT := Lib.hid (show bothT (gU up) a b = tz from bothT_no (by rw [he]; decide))
        have HE := Lib.hid he
        have hd' : (a.d != b.d) = true := by simpa using hd
        clear ha hb hd he
        go_enter Try.func43, Try.ntmps43
        go_wp2_with fail
        refine (HA.out _).mono ?_
        rintro e w1 ⟨rfl, rfl⟩
        go_wp2_with fail
        refine (HB.out _).mono ?_
        rintro e w1 ⟨rfl, rfl⟩
        go_wp2
        go_returns
        exact ⟨by rw [HT.out, HE.out]; rfl, by go_grown⟩
    · have HA := Lib.hid (rcheck_yes ha)
      have HB := Lib.hid (rcheck_no hb)
      have he : bothE a b = 10 := by unfold bothE; rw [if_neg (fun h => hb h.2)]
      have HT := Lib.hid (show bothT (gU up) a b = tz from bothT_no (by rw [he]; decide))
      have HE := Lib.hid he
      clear ha hb he
      go_enter Try.func43, Try.ntmps43
      go_wp2_with fail
      refine (HA.out _).mono ?_
      rintro e w1 ⟨rfl, rfl⟩
      go_wp2_with fail
      refine (HB.out _).mono ?_
      rintro e w1 ⟨rfl, rfl⟩
      go_wp2
      go_returns
      exact ⟨by rw [HT.out, HE.out]; rfl, by go_grown⟩
  · have HA := Lib.hid (rcheck_no ha)
    have he : bothE a b = 10 := by unfold bothE; rw [if_neg (fun h => ha h.1)]
    have HT := Lib.hid (show bothT (gU up) a b = tz from bothT_no (by rw [he]; decide))
    have HE := Lib.hid he
    clear ha he
    go_enter Try.func43, Try.ntmps43
    go_wp2_with fail
    refine (HA.out _).mono ?_
    rintro e w1 ⟨rfl, rfl⟩
    go_wp2
    go_returns
    exact ⟨by rw [HT.out, HE.out]; rfl, by go_grown⟩

theorem gU_max : gU true = max := by funext x y; rfl
theorem gU_min : gU false = min := by funext x y; rfl

set_option maxHeartbeats 2000000 in
theorem rjoin_any (a b : Tm) (w : World) :
    Calls Try.prog 23 #[.agg #[.int .i64 a.e, .int .i64 a.d, .int .i64 a.l0, .int .i64 a.l1, .int .i64 a.l2, .int .i64 a.l3], .agg #[.int .i64 b.e, .int .i64 b.d, .int .i64 b.l0, .int .i64 b.l1, .int .i64 b.l2, .int .i64 b.l3]] w fun e w' => e = .returned (.tuple #[.agg #[.int .i64 (bothT max a b).e, .int .i64 (bothT max a b).d, .int .i64 (bothT max a b).l0, .int .i64 (bothT max a b).l1, .int .i64 (bothT max a b).l2, .int .i64 (bothT max a b).l3], .int .i64 (bothE a b)]) ∧ Ge w w' := by
  have H := Lib.hid (fun w' => rboth_any true a b w')
  rw [gU_max] at H
  generalize bothT max a b = t at *
  generalize bothE a b = me at *
  go_enter Try.func23, Try.ntmps23
  go_wp2_with fail
  refine (H.out _).mono ?_
  rintro e w1 ⟨rfl, hg1⟩
  have XZ : Bx w1 (w.heap.size + 1 + 1) 24 #[.int .i64 0, .int .i64 0, .int .i64 0, .int .i64 0, .int .i64 0, .int .i64 0] := (Bx.new _ _ _ (by simp)).ge hg1
  have G1 := Lib.hid (((((Ge.refl w).alloc _).alloc _).alloc _).trans hg1)
  have cz := XZ.cell
  have lz := XZ.lt
  have fz := XZ.frozen
  clear hg1
  go_wp2_with fail
  obtain ⟨wz, hwz⟩ : ∃ wz, wz = ((((((w1.setCell ⟨w.heap.size + 1 + 1, 0, none⟩ (.int .i64 t.e)).setCell ⟨w.heap.size + 1 + 1, 1, none⟩ (.int .i64 t.d)).setCell ⟨w.heap.size + 1 + 1, 2, none⟩ (.int .i64 t.l0)).setCell ⟨w.heap.size + 1 + 1, 3, none⟩ (.int .i64 t.l1)).setCell ⟨w.heap.size + 1 + 1, 4, none⟩ (.int .i64 t.l2)).setCell ⟨w.heap.size + 1 + 1, 5, none⟩ (.int .i64 t.l3)) := ⟨_, rfl⟩
  have XW : Bx wz (w.heap.size + 1 + 1) 24 #[.int .i64 t.e, .int .i64 t.d, .int .i64 t.l0, .int .i64 t.l1, .int .i64 t.l2, .int .i64 t.l3] := by rw [hwz]; exact (((((XZ.set 0 _).set 1 _).set 2 _).set 3 _).set 4 _).set 5 _
  have GZ : Ge w wz := by rw [hwz]; exact (Below.setCell (Below.setCell (Below.setCell (Below.setCell (Below.setCell (Below.setCell G1.out (by show w.heap.size ≤ w.heap.size + 1 + 1; omega) _) (by show w.heap.size ≤ w.heap.size + 1 + 1; omega) _) (by show w.heap.size ≤ w.heap.size + 1 + 1; omega) _) (by show w.heap.size ≤ w.heap.size + 1 + 1; omega) _) (by show w.heap.size ≤ w.heap.size + 1 + 1; omega) _) (by show w.heap.size ≤ w.heap.size + 1 + 1; omega) _)
  rw [← hwz]
  have cW := XW.cell
  clear hwz
  refine bodyPost_ret (by simp [results, Try.results23, go_sem, cW]; try rfl) rfl ?_
  exact ⟨rfl, GZ⟩

set_option maxHeartbeats 2000000 in
theorem rmeet_any (a b : Tm) (w : World) :
    Calls Try.prog 24 #[.agg #[.int .i64 a.e, .int .i64 a.d, .int .i64 a.l0, .int .i64 a.l1, .int .i64 a.l2, .int .i64 a.l3], .agg #[.int .i64 b.e, .int .i64 b.d, .int .i64 b.l0, .int .i64 b.l1, .int .i64 b.l2, .int .i64 b.l3]] w fun e w' => e = .returned (.tuple #[.agg #[.int .i64 (bothT min a b).e, .int .i64 (bothT min a b).d, .int .i64 (bothT min a b).l0, .int .i64 (bothT min a b).l1, .int .i64 (bothT min a b).l2, .int .i64 (bothT min a b).l3], .int .i64 (bothE a b)]) ∧ Ge w w' := by
  have H := Lib.hid (fun w' => rboth_any false a b w')
  rw [gU_min] at H
  generalize bothT min a b = t at *
  generalize bothE a b = me at *
  go_enter Try.func24, Try.ntmps24
  go_wp2_with fail
  refine (H.out _).mono ?_
  rintro e w1 ⟨rfl, hg1⟩
  have XZ : Bx w1 (w.heap.size + 1 + 1) 24 #[.int .i64 0, .int .i64 0, .int .i64 0, .int .i64 0, .int .i64 0, .int .i64 0] := (Bx.new _ _ _ (by simp)).ge hg1
  have G1 := Lib.hid (((((Ge.refl w).alloc _).alloc _).alloc _).trans hg1)
  have cz := XZ.cell
  have lz := XZ.lt
  have fz := XZ.frozen
  clear hg1
  go_wp2_with fail
  obtain ⟨wz, hwz⟩ : ∃ wz, wz = ((((((w1.setCell ⟨w.heap.size + 1 + 1, 0, none⟩ (.int .i64 t.e)).setCell ⟨w.heap.size + 1 + 1, 1, none⟩ (.int .i64 t.d)).setCell ⟨w.heap.size + 1 + 1, 2, none⟩ (.int .i64 t.l0)).setCell ⟨w.heap.size + 1 + 1, 3, none⟩ (.int .i64 t.l1)).setCell ⟨w.heap.size + 1 + 1, 4, none⟩ (.int .i64 t.l2)).setCell ⟨w.heap.size + 1 + 1, 5, none⟩ (.int .i64 t.l3)) := ⟨_, rfl⟩
  have XW : Bx wz (w.heap.size + 1 + 1) 24 #[.int .i64 t.e, .int .i64 t.d, .int .i64 t.l0, .int .i64 t.l1, .int .i64 t.l2, .int .i64 t.l3] := by rw [hwz]; exact (((((XZ.set 0 _).set 1 _).set 2 _).set 3 _).set 4 _).set 5 _
  have GZ : Ge w wz := by rw [hwz]; exact (Below.setCell (Below.setCell (Below.setCell (Below.setCell (Below.setCell (Below.setCell G1.out (by show w.heap.size ≤ w.heap.size + 1 + 1; omega) _) (by show w.heap.size ≤ w.heap.size + 1 + 1; omega) _) (by show w.heap.size ≤ w.heap.size + 1 + 1; omega) _) (by show w.heap.size ≤ w.heap.size + 1 + 1; omega) _) (by show w.heap.size ≤ w.heap.size + 1 + 1; omega) _) (by show w.heap.size ≤ w.heap.size + 1 + 1; omega) _)
  rw [← hwz]
  have cW := XW.cell
  clear hwz
  refine bodyPost_ret (by simp [results, Try.results24, go_sem, cW]; try rfl) rfl ?_
  exact ⟨rfl, GZ⟩
end Go.Proofs.Ytedccllpbajbfaa
