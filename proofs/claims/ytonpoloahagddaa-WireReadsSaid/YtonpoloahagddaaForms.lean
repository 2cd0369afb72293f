/-
  forms: the numbers that bytes hold, one after the other.
-/
import Derived.Test.YtonpoloahagddaaMoves
namespace Go.Proofs.Ytonpoloahagddaa
open Go.RowKit Go.Shelf

attribute [local go_sem] Oper.semAt_some

def numsF : Nat → List Int → List Int
  | 0, _ => []
  | f + 1, xs => if (takeL xs).2.2 ≠ 0 then [] else (takeL xs).1 :: numsF f (xs.drop (takeL xs).2.1)
/-- the numbers that bytes hold, one after the other, up to what is none -/
def numsL (xs : List Int) : List Int := numsF xs.length xs
theorem takeL_some {xs : List Int} (h : (takeL xs).2.2 = 0) : 1 ≤ (takeL xs).2.1 ∧ xs ≠ [] := by
  cases xs with
  | nil => exact absurd h (by decide)
  | cons c t =>
    refine ⟨?_, by simp⟩
    rw [takeL] at *
    (repeat' split) <;> simp_all
theorem numsF_more : ∀ (f g : Nat) (xs : List Int), xs.length ≤ f → xs.length ≤ g → numsF f xs = numsF g xs := by
  intro f
  induction f with
  | zero =>
    intro g xs hf hg
    obtain rfl : xs = [] := List.eq_nil_of_length_eq_zero (by omega)
    cases g with
    | zero => rfl
    | succ g => simp [numsF, takeL]
  | succ f ih =>
    intro g xs hf hg
    cases g with
    | zero =>
      obtain rfl : xs = [] := List.eq_nil_of_length_eq_zero (by omega)
      simp [numsF, takeL]
    | succ g =>
      rw [numsF, numsF]
      by_cases h : (takeL xs).2.2 = 0
      · have hk := (takeL_some h).1
        rw [if_neg (by simpa using h), if_neg (by simpa using h), ih g _ (by simp; omega) (by simp; omega)]
      · rw [if_pos h, if_pos h]
theorem numsL_eq (xs : List Int) : numsL xs = if (takeL xs).2.2 ≠ 0 then [] else (takeL xs).1 :: numsL (xs.drop (takeL xs).2.1) := by
  by_cases h : (takeL xs).2.2 = 0
  · obtain ⟨hk, hne⟩ := takeL_some h
    rw [if_neg (by simpa using h)]
    unfold numsL
    cases xs with
    | nil => exact absurd rfl hne
    | cons c t =>
      rw [List.length_cons, numsF, if_neg (by simpa using h)]
      rw [numsF_more t.length _ _ (by simp; omega) (Nat.le_refl _)]
  · rw [if_pos h]
    unfold numsL
    cases hx : xs.length with
    | zero => rfl
    | succ m => rw [numsF, if_pos h]
theorem numsL_len (xs : List Int) : (numsL xs).length ≤ xs.length := by
  unfold numsL
  generalize xs.length = f
  induction f generalizing xs with
  | zero => simp [numsF]
  | succ f ih =>
    rw [numsF]
    split
    · simp
    · simp; exact ih _

theorem forms_in (n : Nat) (A : Option Addr) (m cap : Nat) (w : World) :
    CallsIn Fence.wide n Try.prog 42 #[.slice A m cap] w fun e w' => e = .returned (.func (.func 48) #[] #[.pointer (some ⟨w.heap.size, 0, none⟩)]) ∧ w' = w.alloc (.cells #[.slice A m cap] 23) := by
  refine callsIn_of_wp Try.func42 rfl trivial ?_ rfl
  simp only [Try.ntmps42, List.size_toArray, List.length_cons, List.length_nil, Nat.reduceAdd, Nat.reduceSub, Array.replicate_succ, Array.replicate_zero, List.push_toArray, List.append_toArray, List.nil_append, List.cons_append]
  gi_wp2
  go_ret
  exact ⟨rfl, rfl⟩

def lenOfBox (w : World) (B : Nat) : Nat := match w.cell? ⟨B, 0, none⟩ with | some (.slice _ m _) => m | _ => 0

set_option maxRecDepth 100000 in
set_option maxHeartbeats 4000000 in
theorem forms_moves (Bt : Nat) (w0 w : World) (A : Option Addr) (cap : Nat) (xs : List Int) (hb : BytesAt w0 (.slice A xs.length cap) xs) (hi : IsB xs) (hl : xs.length ≤ 140737488355328)
    (hBt : w0.heap.size ≤ Bt) (hg : Ge w0 w) (hX : Bx w Bt 23 #[.slice A xs.length cap]) :
    Moves Bt w0.heap.size (fun ys => ys = numsL xs) xs.length w := fun l J W hW hJ hY h0 => by
  have XW := hX.ge hW
  have GW := Lib.hid (hg.trans hW)
  have HI := Lib.hid hi
  have HB := Lib.hid hb
  have hle : xs.length ≤ cap := by obtain ⟨A', c', e, h1, -⟩ := hb; cases e; exact h1
  have HJ := Lib.hid hJ
  have HY := Lib.hid hY
  clear hi hb hX hg hW hJ hY
  show CallsIn Fence.wide 2 Try.prog 48 #[.func (.yield l) #[] #[], .pointer (some ⟨Bt, 0, none⟩)] W _
  refine callsIn_of_wp Try.func48 rfl trivial ?_ rfl
  simp only [Try.ntmps48, List.size_toArray, List.length_cons, List.length_nil, Nat.reduceAdd, Nat.reduceSub, Array.replicate_succ, Array.replicate_zero, List.push_toArray, List.append_toArray, List.nil_append, List.cons_append]
  gi_wp2
  gi_loopw [4] (fun _ wr => ∃ (pre rest : List Int) (A' : Option Addr) (cap' : Nat), rest.length ≤ xs.length ∧ IsB rest ∧ Bx wr Bt 23 #[.slice A' rest.length cap'] ∧ BytesAt w0 (.slice A' rest.length cap') rest ∧ Ge w0 wr ∧ J pre wr ∧ pre ++ numsL rest = numsL xs)
    (fun _ wr => lenOfBox wr Bt)
  case atStart => exact ⟨[], xs, A, cap, Nat.le_refl _, HI.out, XW, HB.out, GW.out, h0, rfl⟩
  case round =>
    obtain ⟨pre, rest, A', cap', hrl, hri, hrx, hrb, hrg, hrj, hre⟩ := hrel
    have c := hrx.cell
    have lt := hrx.lt
    have fz := hrx.frozen
    have f39 : Fence.wide.fn 39 := trivial
    have hrle : rest.length ≤ cap' := by obtain ⟨A2, c2, e, h1, -⟩ := hrb; cases e; exact h1
    have HC := Lib.hid ((callsIn_wide (n := 1)).2 (take_any (hrb.ge hrg) hri (by omega)))
    unfold takeV at HC
    have hk := takeL_le rest
    have hnu := numsL_eq rest
    have hsome := takeL_some (xs := rest)
    have hlen := numsL_len xs
    generalize takeL rest = T at *
    obtain ⟨z, k, ee⟩ := T
    dsimp only at HC hk hnu hsome
    have HNU := Lib.hid hnu
    have HSO := Lib.hid hsome
    have HRE := Lib.hid hre
    have HRB := Lib.hid hrb
    have HRI := Lib.hid hri
    have HRX := Lib.hid hrx
    have HRJ := Lib.hid hrj
    have HRG := Lib.hid hrg
    have HLE := Lib.hid hlen
    clear hnu hsome hre hrb hri hrx hrj hrg hlen
    gi_wp2_with fail
    refine HC.out.mono ?_
    rintro e w1 ⟨rfl, hg1⟩
    have X1 := HRX.out.ge hg1
    have J1 := Lib.hid (HJ.out _ _ _ HRJ.out (Gg.of_ge hg1))
    have G1 := Lib.hid (HRG.out.trans hg1)
    clear hg1 HC c lt fz
    have c := X1.cell
    have lt := X1.lt
    have fz := X1.frozen
    by_cases c1 : ee = 0
    · subst c1
      have hpl : pre.length < xs.length := by
        have h1 := congrArg List.length HRE.out
        rw [HNU.out] at h1
        have := HLE.out
        simp at h1
        omega
      obtain ⟨fn, tmps, assign, body, hy, hR⟩ := HY.out pre z w1 J1.out hpl
      have HR := Lib.hid hR
      clear hR
      gi_wp2
      refine HR.out.mono ?_
      rintro e W3 ⟨rfl, hJ3, hk3, hb3⟩
      have J3 := Lib.hid hJ3
      have G3 : Ge w0 W3 := Below.trans G1.out hb3
      have X3 : Bx W3 Bt 23 #[.slice A' rest.length cap'] := Eq.trans hk3 X1
      clear hJ3 hk3 hb3 c lt fz
      have c := X3.cell
      have lt := X3.lt
      have fz := X3.frozen
      have hk1 := (HSO.out trivial).1
      have HG3 := Lib.hid G3
      clear G3
      have hnx : (pre ++ [z]) ++ numsL (rest.drop k) = numsL xs := by
        have h1 := HRE.out
        rw [HNU.out, if_neg (by simp)] at h1
        simpa using h1
      have HNX := Lib.hid hnx
      clear hnx
      have hdl : (rest.drop k).length = rest.length - k := by simp
      have hm : lenOfBox wr Bt = rest.length := by unfold lenOfBox; rw [HRX.out.cell]; rfl
      have HM := Lib.hid hm
      clear hm
      by_cases h5 : cap' = k
      · have hz : rest.drop k = [] := List.drop_eq_nil_of_le (by omega)
        have HZ := Lib.hid hz
        clear hz
        subst h5
        gi_wp2
        go_roundw
        case rel =>
          refine ⟨pre ++ [z], [], A', 0, by simp, IsB.nil, X3.set 0 _, BytesAt.none _ _ _, Gg.ge HG3.out (Gg.set Bt W3 0 _) hBt, HJ.out _ _ _ J3.out (Gg.set Bt W3 0 _), ?_⟩
          have := HNX.out
          rw [HZ.out] at this
          exact this
        case measure =>
          rw [HM.out]
          have hX := X3.set 0 (.slice A' 0 0)
          unfold lenOfBox
          rw [hX.cell]
          show 0 < rest.length
          omega
      · gi_wp2
        go_roundw
        case rel =>
          have hp := HRB.out.part (q := k) (m := rest.length - k) (by omega)
          have ht : (rest.drop k).take (rest.length - k) = rest.drop k := List.take_of_length_le (by simp)
          rw [ht] at hp
          refine ⟨pre ++ [z], rest.drop k, Option.map (fun x => x.add k) A', cap' - k, by omega, HRI.out.drop k, ?_, by rw [hdl]; exact hp, Gg.ge HG3.out (Gg.set Bt W3 0 _) hBt, HJ.out _ _ _ J3.out (Gg.set Bt W3 0 _), HNX.out⟩
          rw [hdl]
          exact X3.set 0 _
        case measure =>
          rw [HM.out]
          have hX := X3.set 0 (.slice (Option.map (fun x => x.add k) A') (rest.length - k) (cap' - k))
          unfold lenOfBox
          rw [hX.cell]
          show rest.length - k < rest.length
          omega
    · have c1' : (ee != 0) = true := by simpa using c1
      have C1 := Lib.hid c1
      clear c1
      gi_wp2
      refine ⟨by simp, ?_⟩
      gi_wp2
      refine bodyPost_ret (results_none rfl _ _ _) rfl ?_
      refine ⟨⟨_, rfl⟩, _, ?_, J1.out⟩
      have h1 := HRE.out
      rw [HNU.out, if_pos C1.out, List.append_nil] at h1
      exact h1
end Go.Proofs.Ytonpoloahagddaa
