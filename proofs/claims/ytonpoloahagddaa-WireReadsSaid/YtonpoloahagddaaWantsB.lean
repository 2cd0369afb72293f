/-
  wants: what the reference says of one take.
-/
import Derived.Test.YtonpoloahagddaaWants
namespace Go.Proofs.Ytonpoloahagddaa
open Go.RowKit
attribute [local go_sem] Dr.upT

theorem takeL_zero {xs : List Int} (h : (takeL xs).2.2 ≠ 0) : (takeL xs).1 = 0 ∧ (takeL xs).2.1 = 0 := by
  cases xs with
  | nil => exact ⟨rfl, rfl⟩
  | cons c t =>
    rw [takeL] at *
    (repeat' split) <;> simp_all

theorem want_end {w w1 : World} {R : Nat} (hR : R = w.heap.size + 1) (G : Ge w w1) (X1 : Bx w1 R 57 #[.int .i64 0, .string ⟨#[]⟩, .int .i64 0]) (n e : Int) (s : Value) :
    Bx (((w1.setCell ⟨R, 0, none⟩ (.int .i64 n)).setCell ⟨R, 1, none⟩ s).setCell ⟨R, 2, none⟩ (.int .i64 e)) R 57 #[.int .i64 n, s, .int .i64 e] ∧
    Ge w (((w1.setCell ⟨R, 0, none⟩ (.int .i64 n)).setCell ⟨R, 1, none⟩ s).setCell ⟨R, 2, none⟩ (.int .i64 e)) := by
  refine ⟨((X1.set 0 (.int .i64 n)).set 1 s).set 2 (.int .i64 e), ?_⟩
  have h1 := Gg.ge G (Gg.set R w1 0 (.int .i64 n)) (by omega)
  have h2 := Gg.ge h1 (Gg.set R _ 1 s) (by omega)
  exact Gg.ge h2 (Gg.set R _ 2 (.int .i64 e)) (by omega)

set_option maxHeartbeats 4000000 in
theorem wants_any {w : World} {v : Value} {xs : List Int} (h : BytesAt w v xs) (hb : IsB xs) (hl : xs.length ≤ 140737488355328) (d a b : Int) :
    Calls Try.prog 29 #[v, .agg #[.int .i64 d, .int .i64 a, .int .i64 b]] w fun e w' =>
      e = .returned (.tuple #[takenV d a b xs, .int .i64 ((takenL d a b xs).2.2.2 : Int)]) ∧ Ge w w' := by
  have H := Lib.hid h
  have HI := Lib.hid hb
  clear h hb
  have H2 := Lib.hid (H.out.ge (((Ge.refl w).alloc (.cells #[.int .i64 d, .int .i64 a, .int .i64 b] 52)).alloc (.cells #[.int .i64 0, .string ⟨#[]⟩, .int .i64 0] 57)))
  have B0 := Lib.hid (((Ge.refl w).alloc (.cells #[.int .i64 d, .int .i64 a, .int .i64 b] 52)).alloc (.cells #[.int .i64 0, .string ⟨#[]⟩, .int .i64 0] 57))
  have hXb : Bx ((w.alloc (.cells #[.int .i64 d, .int .i64 a, .int .i64 b] 52)).alloc (.cells #[.int .i64 0, .string ⟨#[]⟩, .int .i64 0] 57)) (w.heap.size + 1) 57 #[.int .i64 0, .string ⟨#[]⟩, .int .i64 0] := Bx.new _ _ _ (by simp)
  have XB := Lib.hid hXb
  have hXa : Bx ((w.alloc (.cells #[.int .i64 d, .int .i64 a, .int .i64 b] 52)).alloc (.cells #[.int .i64 0, .string ⟨#[]⟩, .int .i64 0] 57)) w.heap.size 52 #[.int .i64 d, .int .i64 a, .int .i64 b] := (Bx.new _ _ _ rfl).ge ((Ge.refl _).alloc _)
  have XA := Lib.hid hXa
  clear hXb hXa
  unfold takenV
  by_cases d0 : d = 0
  · have e0 : (d == 0) = true := by simp [d0]
    have e1 : (d == 1) = false := by simp [d0]
    have HC := Lib.hid (rtake_any H2.out HI.out hl)
    unfold takeV at HC
    have hT : takenL d a b xs = ((takeL xs).1, [], (takeL xs).2.2, (takeL xs).2.1) := by rw [takenL, if_pos d0]
    rw [hT]
    clear hT d0
    generalize takeL xs = L at *
    obtain ⟨la, lk, le⟩ := L
    dsimp only at HC ⊢
    go_enter Try.func29, Try.ntmps29
    go_wp2_with fail
    refine HC.out.mono ?_
    rintro e w1 ⟨rfl, hgg⟩
    have GG := Lib.hid (B0.out.trans hgg)
    have X4 := XB.out.ge hgg
    have c1 := X4.cell
    have l1 := X4.lt
    have f1 := X4.frozen
    have X3 := XA.out.ge hgg
    have c3 := X3.cell
    have l3 := X3.lt
    have f3 := X3.frozen
    clear hgg HC
    go_wp2_with fail
    obtain ⟨XW, GW⟩ := want_end (w := w) rfl GG.out X4 la le (.string ⟨#[]⟩)
    obtain ⟨wz, hwz⟩ : ∃ wz, wz = ((w1.setCell ⟨w.heap.size + 1, 0, none⟩ (.int .i64 la)).setCell ⟨w.heap.size + 1, 1, none⟩ (.string ⟨#[]⟩)).setCell ⟨w.heap.size + 1, 2, none⟩ (.int .i64 le) := ⟨_, rfl⟩
    rw [← hwz] at XW GW ⊢
    have cW := XW.cell
    clear hwz c1 l1 f1 c3 l3 f3 X4 X3
    refine bodyPost_ret (by simp [results, Try.results29, go_sem, cW]; try rfl) rfl ?_
    exact ⟨rfl, GW⟩
  have e0 : (d == 0) = false := by simp [d0]
  by_cases d1 : d = 1
  · have e1 : (d == 1) = true := by simp [d1]
    have HC := Lib.hid (rtake_any H2.out HI.out hl)
    unfold takeV at HC
    have hT : takenL d a b xs = ((inL xs a b).1, [], (inL xs a b).2.2, (inL xs a b).2.1) := by rw [takenL, if_neg d0, if_pos d1]
    have hL : inL xs a b = if (takeL xs).2.2 ≠ 0 then (0, 0, (takeL xs).2.2) else if (takeL xs).1 < a then (0, 0, 70) else if b < (takeL xs).1 then (0, 0, 70) else ((takeL xs).1, (takeL xs).2.1, 0) := rfl
    have hz := takeL_zero (xs := xs)
    rw [hT]
    clear hT d0 d1
    generalize takeL xs = T at *
    obtain ⟨n, k, ee⟩ := T
    dsimp only at HC hL hz
    generalize inL xs a b = L at *
    obtain ⟨la, lk, le⟩ := L
    have HL := Lib.hid hL
    have HZ := Lib.hid hz
    clear hL hz
    dsimp only
    go_enter Try.func29, Try.ntmps29
    go_wp2_with fail
    refine HC.out.mono ?_
    rintro e w1 ⟨rfl, hgg⟩
    have GG := Lib.hid (B0.out.trans hgg)
    have X4 := XB.out.ge hgg
    have c1 := X4.cell
    have l1 := X4.lt
    have f1 := X4.frozen
    have X3 := XA.out.ge hgg
    have c3 := X3.cell
    have l3 := X3.lt
    have f3 := X3.frozen
    clear hgg HC
    by_cases c0 : ee = 0
    · subst c0
      by_cases c2 : n < a
      · have b2 : decide (n < a) = true := by simpa using c2
        have hL := HL.out
        rw [if_neg (by simp), if_pos c2] at hL
        cases hL
        clear c2 HL HZ
        go_wp2_with fail
        obtain ⟨XW, GW⟩ := want_end (w := w) rfl GG.out X4 0 70 (.string ⟨#[]⟩)
        obtain ⟨wz, hwz⟩ : ∃ wz, wz = ((w1.setCell ⟨w.heap.size + 1, 0, none⟩ (.int .i64 0)).setCell ⟨w.heap.size + 1, 1, none⟩ (.string ⟨#[]⟩)).setCell ⟨w.heap.size + 1, 2, none⟩ (.int .i64 70) := ⟨_, rfl⟩
        rw [← hwz] at XW GW ⊢
        have cW := XW.cell
        clear hwz c1 l1 f1 c3 l3 f3 X4 X3
        refine bodyPost_ret (by simp [results, Try.results29, go_sem, cW]; try rfl) rfl ?_
        exact ⟨rfl, GW⟩
      · have b2 : decide (n < a) = false := by simpa using c2
        by_cases c3' : b < n
        · have b3 : decide (b < n) = true := by simpa using c3'
          have hL := HL.out
          rw [if_neg (by simp), if_neg c2, if_pos c3'] at hL
          cases hL
          clear c2 c3' HL HZ
          go_wp2_with fail
          obtain ⟨XW, GW⟩ := want_end (w := w) rfl GG.out X4 0 70 (.string ⟨#[]⟩)
          obtain ⟨wz, hwz⟩ : ∃ wz, wz = ((w1.setCell ⟨w.heap.size + 1, 0, none⟩ (.int .i64 0)).setCell ⟨w.heap.size + 1, 1, none⟩ (.string ⟨#[]⟩)).setCell ⟨w.heap.size + 1, 2, none⟩ (.int .i64 70) := ⟨_, rfl⟩
          rw [← hwz] at XW GW ⊢
          have cW := XW.cell
          clear hwz c1 l1 f1 c3 l3 f3 X4 X3
          refine bodyPost_ret (by simp [results, Try.results29, go_sem, cW]; try rfl) rfl ?_
          exact ⟨rfl, GW⟩
        · have b3 : decide (b < n) = false := by simpa using c3'
          have hL := HL.out
          rw [if_neg (by simp), if_neg c2, if_neg c3'] at hL
          cases hL
          clear c2 c3' HL HZ
          go_wp2_with fail
          obtain ⟨XW, GW⟩ := want_end (w := w) rfl GG.out X4 n 0 (.string ⟨#[]⟩)
          obtain ⟨wz, hwz⟩ : ∃ wz, wz = ((w1.setCell ⟨w.heap.size + 1, 0, none⟩ (.int .i64 n)).setCell ⟨w.heap.size + 1, 1, none⟩ (.string ⟨#[]⟩)).setCell ⟨w.heap.size + 1, 2, none⟩ (.int .i64 0) := ⟨_, rfl⟩
          rw [← hwz] at XW GW ⊢
          have cW := XW.cell
          clear hwz c1 l1 f1 c3 l3 f3 X4 X3
          refine bodyPost_ret (by simp [results, Try.results29, go_sem, cW]; try rfl) rfl ?_
          exact ⟨rfl, GW⟩
    · obtain ⟨rfl, rfl⟩ := HZ.out c0
      have c0' : (ee == 0) = false := by simpa using c0
      have hL := HL.out
      rw [if_pos c0] at hL
      cases hL
      clear c0 HL HZ
      go_wp2_with fail
      obtain ⟨XW, GW⟩ := want_end (w := w) rfl GG.out X4 0 ee (.string ⟨#[]⟩)
      obtain ⟨wz, hwz⟩ : ∃ wz, wz = ((w1.setCell ⟨w.heap.size + 1, 0, none⟩ (.int .i64 0)).setCell ⟨w.heap.size + 1, 1, none⟩ (.string ⟨#[]⟩)).setCell ⟨w.heap.size + 1, 2, none⟩ (.int .i64 ee) := ⟨_, rfl⟩
      rw [← hwz] at XW GW ⊢
      have cW := XW.cell
      clear hwz c1 l1 f1 c3 l3 f3 X4 X3
      refine bodyPost_ret (by simp [results, Try.results29, go_sem, cW]; try rfl) rfl ?_
      exact ⟨rfl, GW⟩
  have e1 : (d == 1) = false := by simp [d1]
  by_cases d2 : d = 2
  · have e2 : (d == 2) = true := by simp [d2]
    have HC := Lib.hid (reftext_any H2.out HI.out hl)
    have hT : takenL d a b xs = (0, (txtL xs).1, (txtL xs).2.2, (txtL xs).2.1) := by rw [takenL, if_neg d0, if_neg d1, if_pos d2]
    rw [hT]
    clear hT d0 d1 d2
    generalize txtL xs = L at *
    obtain ⟨la, lk, le⟩ := L
    dsimp only at HC ⊢
    go_enter Try.func29, Try.ntmps29
    go_wp2_with fail
    refine HC.out.mono ?_
    rintro e w1 ⟨rfl, hgg⟩
    have GG := Lib.hid (B0.out.trans hgg)
    have X4 := XB.out.ge hgg
    have c1 := X4.cell
    have l1 := X4.lt
    have f1 := X4.frozen
    have X3 := XA.out.ge hgg
    have c3 := X3.cell
    have l3 := X3.lt
    have f3 := X3.frozen
    clear hgg HC
    go_wp2_with fail
    obtain ⟨XW, GW⟩ := want_end (w := w) rfl GG.out X4 0 le (.string (strOfNums la))
    obtain ⟨wz, hwz⟩ : ∃ wz, wz = ((w1.setCell ⟨w.heap.size + 1, 0, none⟩ (.int .i64 0)).setCell ⟨w.heap.size + 1, 1, none⟩ (.string (strOfNums la))).setCell ⟨w.heap.size + 1, 2, none⟩ (.int .i64 le) := ⟨_, rfl⟩
    rw [← hwz] at XW GW ⊢
    have cW := XW.cell
    clear hwz c1 l1 f1 c3 l3 f3 X4 X3
    refine bodyPost_ret (by simp [results, Try.results29, go_sem, cW]; try rfl) rfl ?_
    exact ⟨rfl, GW⟩
  have e2 : (d == 2) = false := by simp [d2]
  by_cases d3 : d = 3
  · have e3 : (d == 3) = true := by simp [d3]
    have HC := Lib.hid (rcount_any H2.out HI.out hl)
    have hT : takenL d a b xs = ((lenL xs 65536).1, [], (lenL xs 65536).2.2, (lenL xs 65536).2.1) := by rw [takenL, if_neg d0, if_neg d1, if_neg d2, if_pos d3]
    rw [hT]
    clear hT d0 d1 d2 d3
    generalize lenL xs 65536 = L at *
    obtain ⟨la, lk, le⟩ := L
    dsimp only at HC ⊢
    go_enter Try.func29, Try.ntmps29
    go_wp2_with fail
    refine HC.out.mono ?_
    rintro e w1 ⟨rfl, hgg⟩
    have GG := Lib.hid (B0.out.trans hgg)
    have X4 := XB.out.ge hgg
    have c1 := X4.cell
    have l1 := X4.lt
    have f1 := X4.frozen
    have X3 := XA.out.ge hgg
    have c3 := X3.cell
    have l3 := X3.lt
    have f3 := X3.frozen
    clear hgg HC
    go_wp2_with fail
    obtain ⟨XW, GW⟩ := want_end (w := w) rfl GG.out X4 la le (.string ⟨#[]⟩)
    obtain ⟨wz, hwz⟩ : ∃ wz, wz = ((w1.setCell ⟨w.heap.size + 1, 0, none⟩ (.int .i64 la)).setCell ⟨w.heap.size + 1, 1, none⟩ (.string ⟨#[]⟩)).setCell ⟨w.heap.size + 1, 2, none⟩ (.int .i64 le) := ⟨_, rfl⟩
    rw [← hwz] at XW GW ⊢
    have cW := XW.cell
    clear hwz c1 l1 f1 c3 l3 f3 X4 X3
    refine bodyPost_ret (by simp [results, Try.results29, go_sem, cW]; try rfl) rfl ?_
    exact ⟨rfl, GW⟩
  have e3 : (d == 3) = false := by simp [d3]
  have hA := H.out
  obtain ⟨A, cap, rfl, hle, -⟩ := hA
  have GG := B0
  have X4 := XB.out
  have X3 := XA.out
  have c1 := X4.cell
  have l1 := X4.lt
  have f1 := X4.frozen
  have c3 := X3.cell
  have l3 := X3.lt
  have f3 := X3.frozen
  by_cases hlt : 0 < xs.length
  · have hT : takenL d a b xs = (0, [], 72, 0) := by rw [takenL, if_neg d0, if_neg d1, if_neg d2, if_neg d3, if_pos hlt]
    rw [hT]
    clear hT d0 d1 d2 d3
    dsimp only
    go_enter Try.func29, Try.ntmps29
    go_wp2
    go_returns
    exact ⟨rfl, by go_grown⟩
  · have hT : takenL d a b xs = (0, [], 0, 0) := by rw [takenL, if_neg d0, if_neg d1, if_neg d2, if_neg d3, if_neg hlt]
    rw [hT]
    obtain rfl : xs = [] := List.eq_nil_of_length_eq_zero (by omega)
    clear hT d0 d1 d2 d3 hlt
    dsimp only
    simp only [List.length_nil]
    go_enter Try.func29, Try.ntmps29
    go_wp2
    go_returns
    exact ⟨rfl, by go_grown⟩
end Go.Proofs.Ytonpoloahagddaa
