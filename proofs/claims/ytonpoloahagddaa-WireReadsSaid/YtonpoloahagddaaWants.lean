/-
  Within, Count; takes and wants.
-/
import Derived.Test.YtonpoloahagddaaRText
import Derived.Test.YtonpoloahagddaaNone
namespace Go.Proofs.Ytonpoloahagddaa
open Go.RowKit
attribute [local go_sem] Dr.upT

/-- a number within bounds with which bytes begin -/
def inL (xs : List Int) (lo hi : Int) : Int × Nat × Int :=
  if (takeL xs).2.2 ≠ 0 then (0, 0, (takeL xs).2.2) else if (takeL xs).1 < lo then (0, 0, 70) else if hi < (takeL xs).1 then (0, 0, 70) else ((takeL xs).1, (takeL xs).2.1, 0)

set_option maxHeartbeats 2000000 in
theorem within_any {w : World} {g : Nat} {bs : List Int} {p : Nat} (h : Rd w g bs p) (lo hi : Int) :
    Calls Try.prog 40 #[.pointer (some ⟨g, 0, none⟩), .int .i64 lo, .int .i64 hi] w fun e w' =>
      e = .returned (.tuple #[.int .i64 (inL (bs.drop p) lo hi).1, .int .i64 (inL (bs.drop p) lo hi).2.2]) ∧ Rd w' g bs (p + (inL (bs.drop p) lo hi).2.1) ∧ Gg g w w' := by
  have HR := Lib.hid h
  have hp : p ≤ bs.length := by obtain ⟨A, X, hb, hi, hp, r⟩ := h; exact hp
  clear h
  have hL : inL (bs.drop p) lo hi = if (takeL (bs.drop p)).2.2 ≠ 0 then (0, 0, (takeL (bs.drop p)).2.2) else if (takeL (bs.drop p)).1 < lo then (0, 0, 70) else if hi < (takeL (bs.drop p)).1 then (0, 0, 70) else ((takeL (bs.drop p)).1, (takeL (bs.drop p)).2.1, 0) := rfl
  have HI := Lib.hid (rint_any HR.out)
  generalize takeL (bs.drop p) = T at *
  obtain ⟨n, k, ee⟩ := T
  dsimp only at HI hL
  generalize inL (bs.drop p) lo hi = L at *
  obtain ⟨la, lk, le⟩ := L
  have HL := Lib.hid hL
  clear hL
  dsimp only
  go_enter Try.func40, Try.ntmps40
  go_wp2_with fail
  refine (at_any HR.out).mono ?_
  rintro e w1 ⟨rfl, rfl⟩
  go_wp2_with fail
  refine HI.out.mono ?_
  rintro e w2 ⟨rfl, hr2, hg2⟩
  have R2 := Lib.hid hr2
  have G2 := Lib.hid hg2
  clear hr2 hg2 HI
  by_cases c1 : ee = 0
  · subst c1
    by_cases c2 : n < lo
    · have b2 : decide (n < lo) = true := by simpa using c2
      have C2 := Lib.hid c2
      clear c2
      go_wp2_with fail
      refine (back_no R2.out hp (by decide)).mono ?_
      rintro e w3 ⟨rfl, hr3, hg3⟩
      have R3 := Lib.hid hr3
      have G3 := Lib.hid (G2.out.trans hg3)
      clear hr3 hg3
      go_wp2
      go_returns
      have hL := HL.out
      rw [if_neg (by simp), if_pos C2.out] at hL
      cases hL
      exact ⟨rfl, R3.out, G3.out⟩
    · have b2 : decide (n < lo) = false := by simpa using c2
      have C2 := Lib.hid c2
      clear c2
      by_cases c3 : hi < n
      · have b3 : decide (hi < n) = true := by simpa using c3
        have C3 := Lib.hid c3
        clear c3
        go_wp2_with fail
        refine (back_no R2.out hp (by decide)).mono ?_
        rintro e w3 ⟨rfl, hr3, hg3⟩
        have R3 := Lib.hid hr3
        have G3 := Lib.hid (G2.out.trans hg3)
        clear hr3 hg3
        go_wp2
        go_returns
        have hL := HL.out
        rw [if_neg (by simp), if_neg (by have := C2.out; omega), if_pos C3.out] at hL
        cases hL
        exact ⟨rfl, R3.out, G3.out⟩
      · have b3 : decide (hi < n) = false := by simpa using c3
        have C3 := Lib.hid c3
        clear c3
        go_wp2_with fail
        refine (back_yes R2.out).mono ?_
        rintro e w3 ⟨rfl, rfl⟩
        go_wp2
        go_returns
        have hL := HL.out
        rw [if_neg (by simp), if_neg (by have := C2.out; omega), if_neg (by have := C3.out; omega)] at hL
        cases hL
        exact ⟨rfl, R2.out, G2.out⟩
  · have c1' : (ee != 0) = true := by simpa using c1
    have c1'' : (ee == 0) = false := by simpa using c1
    have C1 := Lib.hid c1
    clear c1
    go_wp2_with fail
    refine (back_no R2.out hp C1.out).mono ?_
    rintro e w3 ⟨rfl, hr3, hg3⟩
    have R3 := Lib.hid hr3
    have G3 := Lib.hid (G2.out.trans hg3)
    clear hr3 hg3
    go_wp2
    go_returns
    have hL := HL.out
    rw [if_pos C1.out] at hL
    cases hL
    exact ⟨rfl, R3.out, G3.out⟩

set_option maxHeartbeats 1000000 in
theorem count_any {w : World} {g : Nat} {bs : List Int} {p : Nat} (h : Rd w g bs p) :
    Calls Try.prog 41 #[.pointer (some ⟨g, 0, none⟩)] w fun e w' =>
      e = .returned (.tuple #[.int .i64 (lenL (bs.drop p) 65536).1, .int .i64 (lenL (bs.drop p) 65536).2.2]) ∧ Rd w' g bs (p + (lenL (bs.drop p) 65536).2.1) ∧ Gg g w w' := by
  have HI := Lib.hid (rlen_any h 65536)
  clear h
  generalize lenL (bs.drop p) 65536 = L at *
  obtain ⟨la, lk, le⟩ := L
  dsimp only at HI ⊢
  go_enter Try.func41, Try.ntmps41
  go_wp2_with fail
  refine HI.out.mono ?_
  rintro e w2 ⟨rfl, hr2, hg2⟩
  have R2 := Lib.hid hr2
  have G2 := Lib.hid hg2
  clear hr2 hg2 HI
  go_wp2
  go_returns
  exact ⟨rfl, R2.out, G2.out⟩

/-- what one take gives: number, text, error, how far -/
def takenL (d a b : Int) (xs : List Int) : Int × List Int × Int × Nat :=
  if d = 0 then ((takeL xs).1, [], (takeL xs).2.2, (takeL xs).2.1) else
  if d = 1 then ((inL xs a b).1, [], (inL xs a b).2.2, (inL xs a b).2.1) else
  if d = 2 then (0, (txtL xs).1, (txtL xs).2.2, (txtL xs).2.1) else
  if d = 3 then ((lenL xs 65536).1, [], (lenL xs 65536).2.2, (lenL xs 65536).2.1) else
  if 0 < xs.length then (0, [], 72, 0) else (0, [], 0, 0)
def takenV (d a b : Int) (xs : List Int) : Value := .agg #[.int .i64 (takenL d a b xs).1, .string (strOfNums (takenL d a b xs).2.1), .int .i64 (takenL d a b xs).2.2.1]

theorem Bx.gg {w w' : World} {g b : Nat} {t : TypeId} {cs : Array Value} (h : Bx w b t cs) (hg : Gg g w w') (hne : b ≠ g) : Bx w' b t cs :=
  (hg.block b h.lt (fun e => hne (by cases e; rfl))).trans h
theorem Rd.other {w : World} {g R : Nat} {bs : List Int} {p k : Nat} {t : TypeId} {x : Int} {cs : List Value} {v : Value} (h : Rd w g bs p) (X : Bx w R t (Array.mk (.int .i64 x :: cs))) (hne : R ≠ g) :
    Rd (w.setCell ⟨R, k, none⟩ v) g bs p := by
  obtain ⟨A, hx, hb, hi, hp, hl, hA⟩ := h
  refine ⟨A, hx.set_ne k v (fun e => hne e.symm), ?_, hi, hp, hl, hA⟩
  by_cases he : bs = []
  · subst he
    exact ⟨A, 0, rfl, Nat.le_refl _, fun h => absurd rfl h⟩
  · rcases hA with ⟨rfl, rfl⟩ | ⟨b, rfl, hbg⟩
    · exact absurd rfl he
    · refine hb.gg (Gg.set R w k v) ?_
      intro e
      subst e
      obtain ⟨A', c', e, hle, hc⟩ := hb
      cases e
      obtain ⟨b', off', e, hblt, hcell⟩ := hc he
      cases e
      have h0 := hcell 0 (by cases bs with | nil => exact absurd rfl he | cons => simp)
      rw [X.cell] at h0
      simp at h0

/-- the end of takes: three cells stored -/
theorem taken_end {w wb w1 : World} {g R : Nat} {bs : List Int} {q : Nat} (h : Rd w1 g bs q) (hg : g < w.heap.size) (hR : R = w.heap.size + 1) (B : Ge w wb) (Xb : Bx wb R 57 #[.int .i64 0, .string ⟨#[]⟩, .int .i64 0]) (G : Gg g wb w1) (n e : Int) (s : Value) :
    Bx (((w1.setCell ⟨R, 0, none⟩ (.int .i64 n)).setCell ⟨R, 1, none⟩ s).setCell ⟨R, 2, none⟩ (.int .i64 e)) R 57 #[.int .i64 n, s, .int .i64 e] ∧
    Rd (((w1.setCell ⟨R, 0, none⟩ (.int .i64 n)).setCell ⟨R, 1, none⟩ s).setCell ⟨R, 2, none⟩ (.int .i64 e)) g bs q ∧
    Gg g w (((w1.setCell ⟨R, 0, none⟩ (.int .i64 n)).setCell ⟨R, 1, none⟩ s).setCell ⟨R, 2, none⟩ (.int .i64 e)) := by
  have hne : R ≠ g := by omega
  have X1 := Xb.gg G hne
  have X2 := X1.set 0 (.int .i64 n)
  have X3 := X2.set 1 s
  have X4 := X3.set 2 (.int .i64 e)
  refine ⟨X4, ((h.other X1 hne).other X2 hne).other X3 hne, ?_⟩
  have G0 : Gg g w w1 := (Gg.of_ge B).trans G
  refine ⟨G0.os, G0.tape, G0.output, by simp [World.setCell]; exact G0.size, fun k hk hkn => ?_⟩
  rw [Below.heap_setCell _ _ _ _ (by show k ≠ R; omega), Below.heap_setCell _ _ _ _ (by show k ≠ R; omega), Below.heap_setCell _ _ _ _ (by show k ≠ R; omega)]
  exact G0.block k hk hkn

set_option maxHeartbeats 4000000 in
theorem takes_any {w : World} {g : Nat} {bs : List Int} {p : Nat} (h : Rd w g bs p) (d a b : Int) :
    Calls Try.prog 27 #[.pointer (some ⟨g, 0, none⟩), .agg #[.int .i64 d, .int .i64 a, .int .i64 b]] w fun e w' =>
      e = .returned (takenV d a b (bs.drop p)) ∧ Rd w' g bs (p + (takenL d a b (bs.drop p)).2.2.2) ∧ Gg g w w' := by
  have hg : g < w.heap.size := by obtain ⟨A, X, _⟩ := h; exact X.lt
  have HG := Lib.hid hg
  have H := Lib.hid h
  clear h hg
  have H2 := Lib.hid (H.out.ge (((Ge.refl w).alloc (.cells #[.int .i64 d, .int .i64 a, .int .i64 b] 52)).alloc (.cells #[.int .i64 0, .string ⟨#[]⟩, .int .i64 0] 57)))
  have B0 := Lib.hid (((Ge.refl w).alloc (.cells #[.int .i64 d, .int .i64 a, .int .i64 b] 52)).alloc (.cells #[.int .i64 0, .string ⟨#[]⟩, .int .i64 0] 57))
  have hXb : Bx ((w.alloc (.cells #[.int .i64 d, .int .i64 a, .int .i64 b] 52)).alloc (.cells #[.int .i64 0, .string ⟨#[]⟩, .int .i64 0] 57)) (w.heap.size + 1) 57 #[.int .i64 0, .string ⟨#[]⟩, .int .i64 0] := Bx.new _ _ _ (by simp)
  have XB := Lib.hid hXb
  clear hXb
  unfold takenV
  by_cases d0 : d = 0
  · have e0 : (d == 0) = true := by simp [d0]
    have HI := Lib.hid (rint_any H2.out)
    have hT : takenL d a b (bs.drop p) = ((takeL (bs.drop p)).1, [], (takeL (bs.drop p)).2.2, (takeL (bs.drop p)).2.1) := by rw [takenL, if_pos d0]
    rw [hT]
    clear hT d0
    generalize takeL (bs.drop p) = L at *
    obtain ⟨la, lk, le⟩ := L
    dsimp only at HI ⊢
    go_enter Try.func27, Try.ntmps27
    go_wp2_with fail
    refine HI.out.mono ?_
    rintro e w1 ⟨rfl, hr, hgg⟩
    have RR := Lib.hid hr
    have GG := Lib.hid hgg
    have X1 := XB.out.gg hgg (by have := HG.out; omega)
    have c1 := X1.cell
    have l1 := X1.lt
    have f1 := X1.frozen
    clear hr hgg HI
    go_wp2_with fail
    obtain ⟨XW, RW, GW⟩ := taken_end RR.out HG.out rfl B0.out XB.out GG.out la le (.string ⟨#[]⟩)
    obtain ⟨wz, hwz⟩ : ∃ wz, wz = ((w1.setCell ⟨w.heap.size + 1, 0, none⟩ (.int .i64 la)).setCell ⟨w.heap.size + 1, 1, none⟩ (.string ⟨#[]⟩)).setCell ⟨w.heap.size + 1, 2, none⟩ (.int .i64 le) := ⟨_, rfl⟩
    rw [← hwz] at XW RW GW ⊢
    have cW := XW.cell
    clear hwz c1 l1 f1
    refine bodyPost_ret (by simp [results, Try.results27, go_sem, cW]; try rfl) rfl ?_
    exact ⟨rfl, RW, GW⟩
  have e0 : (d == 0) = false := by simp [d0]
  by_cases d1 : d = 1
  · have e1 : (d == 1) = true := by simp [d1]
    have HI := Lib.hid (within_any H2.out a b)
    have hT : takenL d a b (bs.drop p) = ((inL (bs.drop p) a b).1, [], (inL (bs.drop p) a b).2.2, (inL (bs.drop p) a b).2.1) := by rw [takenL, if_neg d0, if_pos d1]
    rw [hT]
    clear hT d0 d1
    generalize inL (bs.drop p) a b = L at *
    obtain ⟨la, lk, le⟩ := L
    dsimp only at HI ⊢
    go_enter Try.func27, Try.ntmps27
    go_wp2_with fail
    refine HI.out.mono ?_
    rintro e w1 ⟨rfl, hr, hgg⟩
    have RR := Lib.hid hr
    have GG := Lib.hid hgg
    have X1 := XB.out.gg hgg (by have := HG.out; omega)
    have c1 := X1.cell
    have l1 := X1.lt
    have f1 := X1.frozen
    clear hr hgg HI
    go_wp2_with fail
    obtain ⟨XW, RW, GW⟩ := taken_end RR.out HG.out rfl B0.out XB.out GG.out la le (.string ⟨#[]⟩)
    obtain ⟨wz, hwz⟩ : ∃ wz, wz = ((w1.setCell ⟨w.heap.size + 1, 0, none⟩ (.int .i64 la)).setCell ⟨w.heap.size + 1, 1, none⟩ (.string ⟨#[]⟩)).setCell ⟨w.heap.size + 1, 2, none⟩ (.int .i64 le) := ⟨_, rfl⟩
    rw [← hwz] at XW RW GW ⊢
    have cW := XW.cell
    clear hwz c1 l1 f1
    refine bodyPost_ret (by simp [results, Try.results27, go_sem, cW]; try rfl) rfl ?_
    exact ⟨rfl, RW, GW⟩
  have e1 : (d == 1) = false := by simp [d1]
  by_cases d2 : d = 2
  · have e2 : (d == 2) = true := by simp [d2]
    have HI := Lib.hid (rtext_any H2.out)
    have hT : takenL d a b (bs.drop p) = (0, (txtL (bs.drop p)).1, (txtL (bs.drop p)).2.2, (txtL (bs.drop p)).2.1) := by rw [takenL, if_neg d0, if_neg d1, if_pos d2]
    rw [hT]
    clear hT d0 d1 d2
    generalize txtL (bs.drop p) = L at *
    obtain ⟨la, lk, le⟩ := L
    dsimp only at HI ⊢
    go_enter Try.func27, Try.ntmps27
    go_wp2_with fail
    refine HI.out.mono ?_
    rintro e w1 ⟨rfl, hr, hgg⟩
    have RR := Lib.hid hr
    have GG := Lib.hid hgg
    have X1 := XB.out.gg hgg (by have := HG.out; omega)
    have c1 := X1.cell
    have l1 := X1.lt
    have f1 := X1.frozen
    clear hr hgg HI
    go_wp2_with fail
    obtain ⟨XW, RW, GW⟩ := taken_end RR.out HG.out rfl B0.out XB.out GG.out 0 le (.string (strOfNums la))
    obtain ⟨wz, hwz⟩ : ∃ wz, wz = ((w1.setCell ⟨w.heap.size + 1, 0, none⟩ (.int .i64 0)).setCell ⟨w.heap.size + 1, 1, none⟩ (.string (strOfNums la))).setCell ⟨w.heap.size + 1, 2, none⟩ (.int .i64 le) := ⟨_, rfl⟩
    rw [← hwz] at XW RW GW ⊢
    have cW := XW.cell
    clear hwz c1 l1 f1
    refine bodyPost_ret (by simp [results, Try.results27, go_sem, cW]; try rfl) rfl ?_
    exact ⟨rfl, RW, GW⟩
  have e2 : (d == 2) = false := by simp [d2]
  by_cases d3 : d = 3
  · have e3 : (d == 3) = true := by simp [d3]
    have HI := Lib.hid (count_any H2.out)
    have hT : takenL d a b (bs.drop p) = ((lenL (bs.drop p) 65536).1, [], (lenL (bs.drop p) 65536).2.2, (lenL (bs.drop p) 65536).2.1) := by rw [takenL, if_neg d0, if_neg d1, if_neg d2, if_pos d3]
    rw [hT]
    clear hT d0 d1 d2 d3
    generalize lenL (bs.drop p) 65536 = L at *
    obtain ⟨la, lk, le⟩ := L
    dsimp only at HI ⊢
    go_enter Try.func27, Try.ntmps27
    go_wp2_with fail
    refine HI.out.mono ?_
    rintro e w1 ⟨rfl, hr, hgg⟩
    have RR := Lib.hid hr
    have GG := Lib.hid hgg
    have X1 := XB.out.gg hgg (by have := HG.out; omega)
    have c1 := X1.cell
    have l1 := X1.lt
    have f1 := X1.frozen
    clear hr hgg HI
    go_wp2_with fail
    obtain ⟨XW, RW, GW⟩ := taken_end RR.out HG.out rfl B0.out XB.out GG.out la le (.string ⟨#[]⟩)
    obtain ⟨wz, hwz⟩ : ∃ wz, wz = ((w1.setCell ⟨w.heap.size + 1, 0, none⟩ (.int .i64 la)).setCell ⟨w.heap.size + 1, 1, none⟩ (.string ⟨#[]⟩)).setCell ⟨w.heap.size + 1, 2, none⟩ (.int .i64 le) := ⟨_, rfl⟩
    rw [← hwz] at XW RW GW ⊢
    have cW := XW.cell
    clear hwz c1 l1 f1
    refine bodyPost_ret (by simp [results, Try.results27, go_sem, cW]; try rfl) rfl ?_
    exact ⟨rfl, RW, GW⟩
  have e3 : (d == 3) = false := by simp [d3]
  by_cases hlt : p < bs.length
  · have hT : takenL d a b (bs.drop p) = (0, [], 72, 0) := by
      rw [takenL, if_neg d0, if_neg d1, if_neg d2, if_neg d3, if_pos (by simp; omega)]
    have HE := Lib.hid (end_more H2.out hlt)
    rw [hT]
    clear hT d0 d1 d2 d3
    dsimp only
    go_enter Try.func27, Try.ntmps27
    go_wp2_with fail
    refine HE.out.mono ?_
    rintro e w1 ⟨rfl, hgg⟩
    have RR := Lib.hid (H2.out.ge hgg)
    have GG := Lib.hid (Gg.of_ge (g := g) hgg)
    have X1 := XB.out.ge hgg
    have c1 := X1.cell
    have l1 := X1.lt
    have f1 := X1.frozen
    clear hgg HE
    go_wp2_with fail
    obtain ⟨XW, RW, GW⟩ := taken_end RR.out HG.out rfl B0.out XB.out GG.out 0 72 (.string ⟨#[]⟩)
    obtain ⟨wz, hwz⟩ : ∃ wz, wz = ((w1.setCell ⟨w.heap.size + 1, 0, none⟩ (.int .i64 0)).setCell ⟨w.heap.size + 1, 1, none⟩ (.string ⟨#[]⟩)).setCell ⟨w.heap.size + 1, 2, none⟩ (.int .i64 72) := ⟨_, rfl⟩
    rw [← hwz] at XW RW GW ⊢
    have cW := XW.cell
    clear hwz c1 l1 f1
    refine bodyPost_ret (by simp [results, Try.results27, go_sem, cW]; try rfl) rfl ?_
    exact ⟨rfl, RW, GW⟩
  · have hT : takenL d a b (bs.drop p) = (0, [], 0, 0) := by
      rw [takenL, if_neg d0, if_neg d1, if_neg d2, if_neg d3, if_neg (by simp; omega)]
    have HE := Lib.hid (end_done H2.out hlt)
    rw [hT]
    clear hT d0 d1 d2 d3
    dsimp only
    go_enter Try.func27, Try.ntmps27
    go_wp2_with fail
    refine HE.out.mono ?_
    rintro e w1 ⟨rfl, hgg⟩
    have RR := Lib.hid (H2.out.ge hgg)
    have GG := Lib.hid (Gg.of_ge (g := g) hgg)
    have X1 := XB.out.ge hgg
    have c1 := X1.cell
    have l1 := X1.lt
    have f1 := X1.frozen
    clear hgg HE
    go_wp2_with fail
    obtain ⟨XW, RW, GW⟩ := taken_end RR.out HG.out rfl B0.out XB.out GG.out 0 0 (.string ⟨#[]⟩)
    obtain ⟨wz, hwz⟩ : ∃ wz, wz = ((w1.setCell ⟨w.heap.size + 1, 0, none⟩ (.int .i64 0)).setCell ⟨w.heap.size + 1, 1, none⟩ (.string ⟨#[]⟩)).setCell ⟨w.heap.size + 1, 2, none⟩ (.int .i64 0) := ⟨_, rfl⟩
    rw [← hwz] at XW RW GW ⊢
    have cW := XW.cell
    clear hwz c1 l1 f1
    refine bodyPost_ret (by simp [results, Try.results27, go_sem, cW]; try rfl) rfl ?_
    exact ⟨rfl, RW, GW⟩
end Go.Proofs.Ytonpoloahagddaa
