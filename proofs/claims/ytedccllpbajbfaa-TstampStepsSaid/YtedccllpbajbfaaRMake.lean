/-
  The reference's Make.
-/
import Derived.Test.YtedccllpbajbfaaOwnI
import Derived.Test.YtedccllpbajbfaaFun
namespace Go.Proofs.Ytedccllpbajbfaa
open Go.RowKit

def mkArr (ep : Int) (n : Nat) (xs : List Int) (k : Nat) : Array Value := #[.int .i64 ep, .int .i64 (n : Int), .int .i64 ((xs.take k)[0]?.getD 0), .int .i64 ((xs.take k)[1]?.getD 0), .int .i64 ((xs.take k)[2]?.getD 0), .int .i64 ((xs.take k)[3]?.getD 0)]
theorem mkArr_step (ep : Int) (n : Nat) (xs : List Int) (k : Nat) (hk : k < xs.length) (h4 : k < 4) : (mkArr ep n xs k).setIfInBounds (2 + k) (.int .i64 (xs[k]?.getD 0)) = mkArr ep n xs (k + 1) := by
  have : k = 0 ∨ k = 1 ∨ k = 2 ∨ k = 3 := by omega
  unfold mkArr
  rcases this with rfl | rfl | rfl | rfl <;> simp [List.getElem?_take]

def MkRel (ep : Int) (xs : List Int) (w : World) (i : Value) (wr : World) : Prop :=
  ∃ k : Nat, k ≤ xs.length ∧ i = .int .i64 (k : Int) ∧ Bx wr (w.heap.size + 1) 24 (mkArr ep xs.length xs k) ∧ Bx wr w.heap.size 24 #[.int .i64 0, .int .i64 0, .int .i64 0, .int .i64 0, .int .i64 0, .int .i64 0] ∧ Ge w wr

set_option maxHeartbeats 4000000 in
theorem rmake_any (ep : Int) (sv : Value) (xs : List Int) (w : World) (hs : IntsAt w sv xs) (hlen : xs.length ≤ 1000000) :
    Calls Try.prog 16 #[.int .i64 ep, sv] w fun e w' =>
      e = .returned (.tuple #[.agg #[.int .i64 (makeT ep xs).e, .int .i64 (makeT ep xs).d, .int .i64 (makeT ep xs).l0, .int .i64 (makeT ep xs).l1, .int .i64 (makeT ep xs).l2, .int .i64 (makeT ep xs).l3], .int .i64 (makeE ep xs)]) ∧ Ge w w' := by
  obtain ⟨A, cap, rfl, hA⟩ := hs
  have HA := Lib.hid hA
  clear hA
  by_cases h4 : 4 < xs.length
  · have H4 := Lib.hid h4
    go_enter Try.func16, Try.ntmps16
    go_wp2
    go_returns
    have e1 : makeT ep xs = tz := if_neg (by have := H4.out; omega)
    have e2 : makeE ep xs = 11 := if_pos H4.out
    exact ⟨by rw [e1, e2]; rfl, by go_grown⟩
  · go_enter Try.func16, Try.ntmps16
    go_wp2
    go_loopw [7] (fun i wr => MkRel ep xs w i wr) (fun i _ => xs.length - (intOf i).toNat)
    case atStart =>
      refine ⟨0, by omega, rfl, ?_, ?_, ?_⟩
      · exact Bx.new _ _ _ (by simp)
      · exact (Bx.new _ _ _ rfl).alloc _
      · exact ((Ge.refl w).alloc _).alloc _
    case round =>
      obtain ⟨k, hk, rfl, hx, hz, hge⟩ := hrel
      have G := Lib.hid hge
      by_cases hlt : k < xs.length
      · have hd1 : decide ((k : Int) < (xs.length : Int)) = true := by simp; omega
        have hd2 : decide ((k : Int) < 4) = true := by simp; omega
        obtain ⟨b, off, hAe, hbl, hcell⟩ := HA.out (by intro e; rw [e] at hlt; simp at hlt)
        subst hAe
        have hck := (hge.cell (p := ⟨b, off + k, none⟩) hbl).trans (hcell k hlt)
        have HS := Lib.hid (mkArr_step ep xs.length xs k hlt (by omega))
        obtain ⟨x, hxe⟩ : ∃ x, x = xs[k]?.getD 0 := ⟨_, rfl⟩
        rw [← hxe] at hck HS
        have X := Lib.hid hx
        have Z := Lib.hid hz
        have fz := hx.frozen (2 + k)
        have lz := hx.lt
        have cz : ∃ v, wr.cell? ⟨w.heap.size + 1, 2 + k, none⟩ = some (.int .i64 v) := by
          rw [hx.cell]
          have : k = 0 ∨ k = 1 ∨ k = 2 ∨ k = 3 := by omega
          rcases this with rfl | rfl | rfl | rfl <;> exact ⟨_, rfl⟩
        obtain ⟨old, cz⟩ := cz
        clear hcell hx hz hge hxe
        go_wp2
        refine ⟨⟨k + 1, by omega, by go_num, ?_, Z.out.set_ne _ _ (by omega), Below.setCell G.out (by show _ ≤ w.heap.size + 1; omega) _⟩, by simp [intOf]; omega⟩
        rw [← HS.out]
        exact X.out.set _ _
      · obtain rfl : k = xs.length := by omega
        have hd1 : decide ((xs.length : Int) < (xs.length : Int)) = false := by simp
        obtain ⟨t, ht⟩ : ∃ t, t = mkT ep xs := ⟨_, rfl⟩
        replace hx : Bx wr (w.heap.size + 1) 24 #[.int .i64 t.e, .int .i64 t.d, .int .i64 t.l0, .int .i64 t.l1, .int .i64 t.l2, .int .i64 t.l3] := by
          rw [ht]
          simpa [mkT, mkArr] using hx
        have HT := Lib.hid ht
        have c := hx.cell
        have l := hx.lt
        clear hge ht
        by_cases hc : Chk t
        · have HCH := Lib.hid (rcheck_yes hc)
          have HC := Lib.hid hc
          clear hc
          go_wp2_with fail
          refine (HCH.out _).mono ?_
          rintro e w1 ⟨rfl, hw1⟩
          have hg1 : Ge wr w1 := by rw [hw1]; exact (Ge.refl wr).alloc _
          clear hw1 c l
          have X1 := hx.ge hg1
          have Z1 := hz.ge hg1
          have G1 := Lib.hid (G.out.trans hg1)
          have c := X1.cell
          have l := X1.lt
          have cz := Z1.cell
          have lz := Z1.lt
          have fz := Z1.frozen
          clear hg1
          go_wp2_with fail
          obtain ⟨wz, hwz⟩ : ∃ wz, wz = ((((((w1.setCell ⟨w.heap.size, 0, none⟩ (.int .i64 t.e)).setCell ⟨w.heap.size, 1, none⟩ (.int .i64 t.d)).setCell ⟨w.heap.size, 2, none⟩ (.int .i64 t.l0)).setCell ⟨w.heap.size, 3, none⟩ (.int .i64 t.l1)).setCell ⟨w.heap.size, 4, none⟩ (.int .i64 t.l2)).setCell ⟨w.heap.size, 5, none⟩ (.int .i64 t.l3)) := ⟨_, rfl⟩
          have XW : Bx wz w.heap.size 24 #[.int .i64 t.e, .int .i64 t.d, .int .i64 t.l0, .int .i64 t.l1, .int .i64 t.l2, .int .i64 t.l3] := by rw [hwz]; exact ((((((Z1.set 0 (.int .i64 t.e)).set 1 (.int .i64 t.d)).set 2 (.int .i64 t.l0)).set 3 (.int .i64 t.l1)).set 4 (.int .i64 t.l2)).set 5 (.int .i64 t.l3))
          have GZ : Ge w wz := by rw [hwz]; exact (Below.setCell (Below.setCell (Below.setCell (Below.setCell (Below.setCell (Below.setCell G1.out (Nat.le_refl _) _) (Nat.le_refl _) _) (Nat.le_refl _) _) (Nat.le_refl _) _) (Nat.le_refl _) _) (Nat.le_refl _) _)
          rw [← hwz]
          have cW := XW.cell
          clear hwz
          refine bodyPost_ret (by simp [results, Try.results16, go_sem, cW]; try rfl) rfl ?_
          have hc' := HC.out
          rw [HT.out] at hc'
          refine ⟨?_, GZ⟩
          rw [makeT_yes (by omega) hc', makeE_yes (by omega) hc', ← HT.out]
        · have HCH := Lib.hid (rcheck_no hc)
          have HC := Lib.hid hc
          clear hc
          go_wp2_with fail
          refine (HCH.out _).mono ?_
          rintro e w1 ⟨rfl, hw1⟩
          have hg1 : Ge wr w1 := by rw [hw1]; exact (Ge.refl wr).alloc _
          clear hw1 c l
          have X1 := hx.ge hg1
          have Z1 := hz.ge hg1
          have G1 := Lib.hid (G.out.trans hg1)
          have c := X1.cell
          have l := X1.lt
          have cz := Z1.cell
          have lz := Z1.lt
          have fz := Z1.frozen
          clear hg1
          go_wp2_with fail
          obtain ⟨wz, hwz⟩ : ∃ wz, wz = ((((((w1.setCell ⟨w.heap.size, 0, none⟩ (.int .i64 0)).setCell ⟨w.heap.size, 1, none⟩ (.int .i64 0)).setCell ⟨w.heap.size, 2, none⟩ (.int .i64 0)).setCell ⟨w.heap.size, 3, none⟩ (.int .i64 0)).setCell ⟨w.heap.size, 4, none⟩ (.int .i64 0)).setCell ⟨w.heap.size, 5, none⟩ (.int .i64 0)) := ⟨_, rfl⟩
          have XW : Bx wz w.heap.size 24 #[.int .i64 0, .int .i64 0, .int .i64 0, .int .i64 0, .int .i64 0, .int .i64 0] := by rw [hwz]; exact ((((((Z1.set 0 (.int .i64 0)).set 1 (.int .i64 0)).set 2 (.int .i64 0)).set 3 (.int .i64 0)).set 4 (.int .i64 0)).set 5 (.int .i64 0))
          have GZ : Ge w wz := by rw [hwz]; exact (Below.setCell (Below.setCell (Below.setCell (Below.setCell (Below.setCell (Below.setCell G1.out (Nat.le_refl _) _) (Nat.le_refl _) _) (Nat.le_refl _) _) (Nat.le_refl _) _) (Nat.le_refl _) _) (Nat.le_refl _) _)
          rw [← hwz]
          have cW := XW.cell
          clear hwz
          refine bodyPost_ret (by simp [results, Try.results16, go_sem, cW]; try rfl) rfl ?_
          have hc' := HC.out
          rw [HT.out] at hc'
          refine ⟨?_, GZ⟩
          rw [makeT_no hc', makeE_no (by omega) hc']
          rfl
end Go.Proofs.Ytedccllpbajbfaa
