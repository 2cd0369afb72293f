/-
  The reference's Loops and Text.
-/
import Derived.Test.YtedccllpbajbfaaOwnI
import Derived.Test.YtedccllpbajbfaaDecimal
import Derived.Test.YtedccllpbajbfaaText
namespace Go.Proofs.Ytedccllpbajbfaa
open Go.RowKit

/-- a time's counters -/
def lpL (t : Tm) : List Int := if Chk t then [t.l0, t.l1, t.l2, t.l3].take t.d.toNat else []
def cells4 (t : Tm) : List Int := [t.l0, t.l1, t.l2, t.l3]
theorem cells4_at (t : Tm) (k : Nat) (h : k < 4) : (cells4 t)[k]? = some (cntAt t k) := by
  have : k = 0 ∨ k = 1 ∨ k = 2 ∨ k = 3 := by omega
  rcases this with rfl | rfl | rfl | rfl <;> rfl
theorem cells4_snoc (t : Tm) (k : Nat) (h : k < 4) : (cells4 t).take (k + 1) = (cells4 t).take k ++ [cntAt t k] := by
  rw [List.take_succ_eq_append_getElem (by simpa [cells4] using h)]
  have := cells4_at t k h
  rw [List.getElem?_eq_getElem (by simpa [cells4] using h)] at this
  rw [Option.some.inj this]

def LpRel (t : Tm) (d : Nat) (B : Nat) (w : World) (l i : Value) (wr : World) : Prop :=
  ∃ k : Nat, k ≤ d ∧ i = .int .i64 (k : Int) ∧ OwnI wr (B + 1) l ((cells4 t).take k) ∧ Bx wr B 24 #[.int .i64 t.e, .int .i64 t.d, .int .i64 t.l0, .int .i64 t.l1, .int .i64 t.l2, .int .i64 t.l3] ∧ B + 1 ≤ wr.heap.size ∧ Ge w wr

set_option maxHeartbeats 4000000 in
theorem rloops_yes (t : Tm) (hc : Chk t) (w : World) :
    Calls Try.prog 30 #[.agg #[.int .i64 t.e, .int .i64 t.d, .int .i64 t.l0, .int .i64 t.l1, .int .i64 t.l2, .int .i64 t.l3]] w fun e w' => ∃ v, e = .returned v ∧ OwnI w' (w.heap.size + 1) v (lpL t) ∧ Ge w w' := by
  have HC := Lib.hid (rcheck_yes hc)
  obtain ⟨d, hd⟩ : ∃ d : Nat, t.d = (d : Int) := ⟨t.d.toNat, by have := hc.2.2.1; omega⟩
  have hd4 : d ≤ 4 := by have := hc.2.2.2.1; omega
  have HLP := Lib.hid (show lpL t = (cells4 t).take d by unfold lpL; rw [if_pos hc, hd]; rfl)
  rw [hd] at HC ⊢
  clear hc
  go_enter Try.func30, Try.ntmps30
  go_wp2
  go_loopw [3, 4] (fun l i wr => LpRel { t with d := (d : Int) } d w.heap.size w l i wr) (fun _ i _ => d - (intOf i).toNat)
  case atStart => exact ⟨0, by omega, rfl, by simpa using OwnI.nil _ _, Bx.new _ _ _ rfl, by simp, (Ge.refl w).alloc _⟩
  case round =>
    obtain ⟨k, hk, rfl, ho, hx, hz, hge⟩ := hrel
    have O := Lib.hid ho
    have X := hx
    have G := Lib.hid hge
    have c := X.cell
    have l := X.lt
    clear ho hge hx
    dsimp only at c X
    by_cases hlt : k < d
    · have hdk : decide ((k : Int) < (d : Int)) = true := by simp; omega
      go_wp2_with fail
      refine (HC.out _).mono ?_
      rintro e w1 ⟨rfl, hw1⟩
      have hg1 : Ge wr w1 := by rw [hw1]; exact (Ge.refl wr).alloc _
      clear hw1 c l
      have X1 := X.ge hg1
      have c := X1.cell
      have l := X1.lt
      have hz1 := hg1.size
      have hck : w1.cell? ⟨w.heap.size, 2 + k, none⟩ = some (.int .i64 (cntAt t k)) := by
        rw [c]
        have : k = 0 ∨ k = 1 ∨ k = 2 ∨ k = 3 := by omega
        rcases this with rfl | rfl | rfl | rfl <;> rfl
      have O1 := Lib.hid (O.out.ge hg1)
      have G1 := Lib.hid (G.out.trans hg1)
      have X1' := Lib.hid X1
      clear X hg1 c X1
      have hk4 : k < 4 := by omega
      have O2 := Lib.hid (O1.out.ge ((Ge.refl w1).alloc (.cells #[.int .i64 (cntAt t k)] 2)))
      have C1 := Lib.hid (show (List.take k (cells4 t)).length + 1 ≤ 1000000 by rw [List.length_take]; omega)
      have C2 := Lib.hid (show w.heap.size + 1 ≤ (w1.alloc (.cells #[.int .i64 (cntAt t k)] 2)).heap.size by simp; omega)
      have C3 := Lib.hid (show (w1.alloc (.cells #[.int .i64 (cntAt t k)] 2)).cell? ⟨w1.heap.size, 0, none⟩ = some (.int .i64 (cntAt t k)) from (Bx.new w1 2 #[.int .i64 (cntAt t k)] rfl).cell 0)
      go_wp2_with (at_builtin; refine wpList_app1 rfl (.tmp 16) (.tmp 21) rfl rfl rfl O2.out C3.out C1.out C2.out ?_; intro v' w2 hown hgrow _hat; have HO := Lib.hid hown; have HG := Lib.hid hgrow; clear hown hgrow _hat)
      go_roundw
      case rel =>
        have hs2 := HG.out.size
        simp at hs2
        refine ⟨k + 1, by omega, by go_num, ?_, app1_other O2.out HG.out (X1'.out.alloc _) (fun cs h => by cases h), by omega, ge_app1 (G1.out.alloc _) O2.out (by omega) HG.out⟩
        have := HO.out
        rw [cells4_snoc _ k hk4]
        exact this
      case measure => simp [intOf]; omega
    · obtain rfl : k = d := by omega
      have hdk : decide ((k : Int) < (k : Int)) = false := by simp
      go_wp2
      go_returns
      refine ⟨_, rfl, ?_, G.out⟩
      rw [HLP.out]
      exact O.out

set_option maxHeartbeats 1000000 in
theorem rloops_no (t : Tm) (hc : ¬ Chk t) (w : World) :
    Calls Try.prog 30 #[.agg #[.int .i64 t.e, .int .i64 t.d, .int .i64 t.l0, .int .i64 t.l1, .int .i64 t.l2, .int .i64 t.l3]] w fun e w' => ∃ v, e = .returned v ∧ OwnI w' (w.heap.size + 1) v (lpL t) ∧ Ge w w' := by
  have HC := Lib.hid (rcheck_no hc)
  have HLP := Lib.hid (show lpL t = [] by unfold lpL; rw [if_neg hc])
  clear hc
  by_cases h0 : 0 < t.d
  · have h0' : decide (0 < t.d) = true := by simpa using h0
    go_enter Try.func30, Try.ntmps30
    go_wp2
    refine wp_loop_rounds 1 ?_
    rw [rounds_succ]
    go_wp2_with fail
    refine (HC.out _).mono ?_
    rintro e w1 ⟨rfl, rfl⟩
    go_wp2
    go_returns
    exact ⟨_, rfl, by rw [HLP.out]; exact OwnI.nil _ _, by go_grown⟩
  · have h0' : decide (0 < t.d) = false := by simpa using h0
    go_enter Try.func30, Try.ntmps30
    go_wp2
    refine wp_loop_rounds 1 ?_
    rw [rounds_succ]
    go_wp2
    go_returns
    exact ⟨_, rfl, by rw [HLP.out]; exact OwnI.nil _ _, by go_grown⟩

theorem rloops_any (t : Tm) (w : World) :
    Calls Try.prog 30 #[.agg #[.int .i64 t.e, .int .i64 t.d, .int .i64 t.l0, .int .i64 t.l1, .int .i64 t.l2, .int .i64 t.l3]] w fun e w' => ∃ v, e = .returned v ∧ OwnI w' (w.heap.size + 1) v (lpL t) ∧ Ge w w' := by
  by_cases hc : Chk t
  · exact rloops_yes t hc w
  · exact rloops_no t hc w

theorem text_alt {t : Tm} (hc : Chk t) : textL t = dec t.e ++ (lpL t).flatMap (fun x => 46 :: dec x) := by
  unfold textL lpL
  rw [dif_pos hc, if_pos hc]
  congr 1
  have h0 := hc.2.2.1
  have h4 := hc.2.2.2.1
  have : t.d.toNat = 0 ∨ t.d.toNat = 1 ∨ t.d.toNat = 2 ∨ t.d.toNat = 3 ∨ t.d.toNat = 4 := by omega
  rcases this with e | e | e | e | e <;> rw [e] <;> simp [upto, tailL, cn, cntAt, List.range_succ]

def txtTo (t : Tm) (k : Nat) : List Int := dec t.e ++ ((lpL t).take k).flatMap (fun x => 46 :: dec x)
theorem txtTo_snoc (t : Tm) (k : Nat) (x : Int) (h : (lpL t)[k]? = some x) : txtTo t (k + 1) = txtTo t k ++ (46 :: dec x) := by
  have hk := (List.getElem?_eq_some_iff.1 h).1
  unfold txtTo
  rw [List.take_succ_eq_append_getElem hk, (List.getElem?_eq_some_iff.1 h).2]
  simp
theorem lpL_len (t : Tm) : (lpL t).length ≤ 4 := by
  unfold lpL
  split
  · simp; omega
  · simp
theorem flat_le (l : List Int) : (l.flatMap fun x => 46 :: dec x).length ≤ 11 * l.length := by
  induction l with
  | nil => simp
  | cons x l ih =>
    have := decF_le 10 x
    simp only [List.flatMap_cons, List.length_append, List.length_cons]
    have e : dec x = decF 10 x := rfl
    rw [e]
    omega
theorem txtTo_len (t : Tm) (k : Nat) : (txtTo t k).length ≤ 54 := by
  have h1 := decF_le 10 t.e
  have h2 := flat_le ((lpL t).take k)
  have h3 := lpL_len t
  have e : dec t.e = decF 10 t.e := rfl
  unfold txtTo
  rw [List.length_append, e]
  rw [List.length_take] at h2
  omega
theorem lpL_in {t : Tm} {x : Int} (h : x ∈ lpL t) : 0 ≤ x ∧ x ≤ 1048576 := by
  unfold lpL at h
  split at h
  · rename_i hc
    have := List.mem_of_mem_take h
    obtain ⟨-, -, -, -, ⟨h00, h01, -⟩, ⟨h10, h11, -⟩, ⟨h20, h21, -⟩, h30, h31, -⟩ := hc
    simp at this
    rcases this with rfl | rfl | rfl | rfl <;> omega
  · cases h

def RTxRel (t : Tm) (w : World) (s i : Value) (wr : World) : Prop :=
  ∃ k : Nat, k ≤ (lpL t).length ∧ i = .int .i64 (k : Int) ∧ s = .string (strOfNums (txtTo t k)) ∧ Ge w wr

theorem dot_app2 (xs : List Int) (n : Int) : strOfNums xs ++ ((⟨#[46]⟩ : ByteArray) ++ strOfNums (dec n)) = strOfNums (xs ++ (46 :: dec n)) := by
  have e : (⟨#[46]⟩ : ByteArray) = strOfNums [46] := rfl
  rw [e, app_strs, app_strs]
  simp

set_option maxHeartbeats 4000000 in
theorem rtext_yes (t : Tm) (hc : Chk t) (w : World) :
    Calls Try.prog 33 #[.agg #[.int .i64 t.e, .int .i64 t.d, .int .i64 t.l0, .int .i64 t.l1, .int .i64 t.l2, .int .i64 t.l3]] w fun e w' => e = .returned (.string (strOfNums (textL t))) ∧ Ge w w' := by
  have HC := Lib.hid (rcheck_yes hc)
  have HT := Lib.hid (text_alt hc)
  have he0 := hc.1
  have he1 := hc.2.1
  clear hc
  go_enter Try.func33, Try.ntmps33
  go_wp2_with fail
  refine (HC.out _).mono ?_
  rintro e w1 ⟨rfl, rfl⟩
  go_wp2_with fail
  refine (decimal_any _ he0 he1 _).mono ?_
  rintro e w1 ⟨rfl, rfl⟩
  go_wp2_with fail
  refine (rloops_any t _).mono ?_
  rintro e w2 ⟨v, rfl, hv, hg2⟩
  have G2 := Lib.hid ((((Ge.refl w).alloc _).alloc _).trans hg2)
  obtain ⟨A, cap, rfl, hle, hcells⟩ := hv.ints
  have HL := Lib.hid hcells
  have hl4 := lpL_len t
  clear hv hg2 hcells
  go_wp2
  go_loopw [3, 5] (fun s i wr => RTxRel t w2 s i wr) (fun _ i _ => (lpL t).length - (intOf i).toNat)
  case atStart => exact ⟨0, by omega, rfl, by simp [txtTo], Ge.refl _⟩
  case round =>
    obtain ⟨k, hk, rfl, rfl, hge⟩ := hrel
    have hsz : (strOfNums (txtTo t k)).size ≤ 54 := by rw [strOfNums_size]; exact txtTo_len t k
    have G := Lib.hid hge
    by_cases hlt : k < (lpL t).length
    · obtain ⟨g, hA, -, hgl, hcell⟩ := HL.out (by intro e; rw [e] at hlt; simp at hlt)
      subst hA
      have hck := (hge.cell (p := ⟨g, k, none⟩) hgl).trans (hcell k hlt)
      obtain ⟨x, hx⟩ : ∃ x, x = (lpL t)[k]?.getD 0 := ⟨_, rfl⟩
      rw [← hx] at hck
      have hxs : (lpL t)[k]? = some x := by rw [hx, List.getElem?_eq_getElem hlt]; rfl
      have hxb := lpL_in (List.mem_of_getElem? hxs)
      obtain ⟨x0, x1⟩ := hxb
      have HS := Lib.hid (txtTo_snoc t k x hxs)
      have hsz2 : (strOfNums (dec x)).size ≤ 10 := by rw [strOfNums_size]; exact decF_le 10 x
      clear hcell hge hx hxs
      go_wp2_with fail
      refine (decimal_any _ x0 (by omega) _).mono ?_
      rintro e w3 ⟨rfl, rfl⟩
      go_wp2
      rw [dot_app2, ← HS.out]
      exact ⟨⟨k + 1, by omega, by go_num, rfl, G.out⟩, by simp [intOf]; omega⟩
    · clear hge
      go_wp2
      go_returns
      refine ⟨?_, G2.out.trans G.out⟩
      rw [HT.out, show (lpL t) = (lpL t).take k from (List.take_of_length_le (by omega)).symm]
      rfl

set_option maxHeartbeats 1000000 in
theorem rtext_any (t : Tm) (w : World) :
    Calls Try.prog 33 #[.agg #[.int .i64 t.e, .int .i64 t.d, .int .i64 t.l0, .int .i64 t.l1, .int .i64 t.l2, .int .i64 t.l3]] w fun e w' => e = .returned (.string (strOfNums (textL t))) ∧ Ge w w' := by
  by_cases hc : Chk t
  · exact rtext_yes t hc w
  · have H := Lib.hid (rcheck_no hc)
    have e : textL t = [] := dif_neg hc
    rw [e]
    clear hc e
    go_enter Try.func33, Try.ntmps33
    go_wp2_with fail
    refine (H.out _).mono ?_
    rintro e w1 ⟨rfl, rfl⟩
    go_wp2
    go_returns
    exact ⟨rfl, by go_grown⟩
end Go.Proofs.Ytedccllpbajbfaa
