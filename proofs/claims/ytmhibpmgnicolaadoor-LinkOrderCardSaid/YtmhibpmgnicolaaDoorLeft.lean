/-
  Left: how many messages are in all links.
-/
import Derived.Test.YtmhibpmgnicolaaDoorNetB
namespace Go.Proofs.YtmhibpmgnicolaaDoor
open Go.RowKit

def lens (l : List Lk) : Nat := (l.map (·.l.length)).sum
theorem lens_nil : lens [] = 0 := rfl
theorem lens_snoc (l : List Lk) (r : Lk) : lens (l ++ [r]) = lens l + r.l.length := by simp [lens]
theorem lens_bound : ∀ (l : List Lk), (∀ r ∈ l, r.l.length ≤ 64) → lens l ≤ l.length * 64
  | [], _ => Nat.le_refl _
  | r :: l, h => by
    have h1 := lens_bound l (fun q hq => h q (List.mem_cons_of_mem _ hq))
    have h2 := h r List.mem_cons_self
    have e : lens (r :: l) = r.l.length + lens l := by simp [lens]
    rw [e, List.length_cons]
    omega

theorem left_no {w : World} {v : Value} (h : NoNet w v) : Calls Tryd.prog 23 #[v] w fun e w' => e = .returned (.int .i64 0) ∧ Ge w w' := by
  have HM := Lib.hid (made_no h)
  go_enter Tryd.func23, Tryd.ntmps23
  go_wp2_with fail
  refine HM.out.mono ?_
  rintro e w1 ⟨rfl, g1⟩
  have HG := Lib.hid g1
  clear g1
  go_wp2
  go_returns
  exact ⟨rfl, HG.out⟩

set_option maxRecDepth 100000 in
set_option maxHeartbeats 4000000 in
theorem left_any {B : Nat} {w : World} {p q : Nat} {O : Nat → Option Nat} {S : Nt} {C : Array Value} (h : NetC B w p q O S C) :
    Calls Tryd.prog 23 #[.pointer (some ⟨p, 0, none⟩)] w fun e w' => e = .returned (.int .i64 ((lens S.rows : Nat) : Int)) ∧ Ge w w' := by
  have HM := Lib.hid (made_yes h)
  have HN := Lib.hid (fun w' (g : Ge w w') => (h.net.ge g).cell)
  have HNL := Lib.hid (fun w' (g : Ge w w') => (h.net.ge g).lt)
  have HC := Lib.hid (fun w' (g : Ge w w') => h.row.ge g)
  have HR := Lib.hid h.rows
  have hlen := h.ok.len
  have hsm := h.ok.small
  have hkk : S.k * S.k ≤ 16 * 16 := Nat.mul_le_mul h.ok.k2 h.ok.k2
  clear h
  generalize S.rows = R at *
  generalize S.k * S.k = kk at *
  generalize S.k = k at *
  generalize S.room = room at *
  have HLEN := Lib.hid hlen
  have HSM := Lib.hid (show ∀ m, lens (R.take m) ≤ 16384 from fun m => by
    have h1 := lens_bound (R.take m) (fun r hr => hsm r (List.mem_of_mem_take hr))
    have h2 : (R.take m).length ≤ 256 := by rw [List.length_take]; omega
    omega)
  clear hlen hsm
  go_enter Tryd.func23, Tryd.ntmps23
  go_wp2_with fail
  refine HM.out.mono ?_
  rintro e w1 ⟨rfl, g1⟩
  have c0 := HN.out w1 g1
  have n0 := HNL.out w1 g1
  have HG1 := Lib.hid g1
  clear g1
  go_upto_region 5 with (fail)
  clear c0 n0
  go_loopw [3, 14] (fun s i wr => ∃ m : Nat, m ≤ kk ∧ i = .int .i64 (m : Int) ∧ s = .int .i64 ((lens (R.take m) : Nat) : Int) ∧ Ge w1 wr) (fun _ i _ => kk - (intOf i).toNat)
  case atStart => exact ⟨0, by omega, rfl, rfl, Ge.refl _⟩
  case round =>
    obtain ⟨m, hm, rfl, rfl, hgw⟩ := hrel
    have HG := Lib.hid (HG1.out.trans hgw)
    have HGW := Lib.hid hgw
    have hlR := HLEN.out
    by_cases hlt : m < kk
    · obtain ⟨r, hr⟩ : ∃ r, R[m]? = some r := ⟨_, List.getElem?_eq_getElem (by omega)⟩
      obtain ⟨v, y0, y1, y2, A, cap, rfl, _⟩ := HR.out m r hr
      have hX := HC.out wr HG.out
      have x0 := (hX.cell _).trans y0
      have x1 := (hX.cell _).trans y1
      have x2 := (hX.cell _).trans y2
      have hlb := hX.lt
      have hsn : R.take (m + 1) = R.take m ++ [r] := by
        rw [List.take_succ_eq_append_getElem (by omega)]
        rw [List.getElem?_eq_getElem (by omega)] at hr
        rw [Option.some.inj hr]
      have e0 := lens_snoc (R.take m) r
      rw [← hsn] at e0
      have b1 := HSM.out (m + 1)
      have HE := Lib.hid (show wrap64 (((lens (R.take m) : Nat) : Int) + (r.l.length : Int)) = ((lens (R.take (m + 1)) : Nat) : Int) by
        rw [e0]
        rw [e0] at b1
        unfold wrap64
        omega)
      have i1 : (0 : Int) ≤ (m : Int) := by omega
      have i2 : (m : Int) < (kk : Int) := by omega
      generalize lens (R.take m) = ls at *
      clear hr y0 y1 y2 hX hsn e0 b1 hgw hlR
      go_wp2
      go_roundw
      case rel => exact ⟨m + 1, by omega, by go_num, by rw [HE.out], HGW.out.alloc _⟩
      case measure => simp [intOf]; omega
    · have hml : m = kk := by omega
      have RES := Lib.hid (show R.take m = R by rw [List.take_of_length_le]; omega)
      have hdm : decide ((m : Int) < (kk : Int)) = false := by simp; omega
      clear hml hgw
      go_wp2
      go_returns
      exact ⟨by rw [RES.out]; rfl, HG.out⟩
end Go.Proofs.YtmhibpmgnicolaaDoor
