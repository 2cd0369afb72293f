/-
  An iterator over records.
-/
import Derived.Test.YtidblliobkjeeaaDoorVals
namespace Go.Proofs.YtidblliobkjeeaaDoor
open Go.RowKit Go.Shelf

attribute [local go_sem] Oper.semAt_some

theorem rvals_in (n : Nat) (A : Option Addr) (m cap : Nat) (w : World) :
    CallsIn Fence.wide n Tryd.prog 34 #[.slice A m cap] w fun e w' => e = .returned (.func (.func 39) #[] #[.pointer (some ⟨w.heap.size, 0, none⟩)]) ∧ w' = w.alloc (.cells #[.slice A m cap] 28) := by
  refine callsIn_of_wp Tryd.func34 rfl trivial ?_ rfl
  simp only [Tryd.ntmps34, List.size_toArray, List.length_cons, List.length_nil, Nat.reduceAdd, Nat.reduceSub, Array.replicate_succ, Array.replicate_zero, List.push_toArray, List.append_toArray, List.nil_append, List.cons_append]
  gi_wp2
  go_ret
  exact ⟨rfl, rfl⟩

set_option maxRecDepth 100000 in
set_option maxHeartbeats 2000000 in
theorem rvals_seq (n : Nat) (hn : 1 ≤ n) (Bt : Nat) (w w0 : World) (hg0 : Ge w w0) (v : Value) (rs : List Rc) (hX : Boxed w0 Bt 28 v) (n0 : Nat) (hn0 : w.heap.size ≤ n0) (hn0' : n0 ≤ w0.heap.size) (hv : RecsAt w v rs) (hxl : rs.length ≤ 1000000) :
    SeqStopsK Fence.wide n Tryd.prog 39 #[.pointer (some ⟨Bt, 0, none⟩)] (fun x : Rc => #[.agg #[.int .i64 x.1, .string x.2]]) (Below n0) (fun ys => ys = rs) (fun _ => True) rs.length w0 := fun l J Jx W hW hJ _ hY h0 => by
  have X : Boxed W Bt 28 v := (hW.block Bt hX.lt).trans hX
  have c := X.cell
  have lt := X.lt
  obtain ⟨A, cap, rfl, hle, hc⟩ := hv
  have HC := Lib.hid hc
  have HY := Lib.hid hY
  have HJ := Lib.hid hJ
  have HW := Lib.hid (show Below w.heap.size w W from Ge.trans hg0 hW)
  have hsW : n0 ≤ W.heap.size := Nat.le_trans hn0' hW.size
  clear hY hJ hc hX hW
  show CallsIn Fence.wide n Tryd.prog 39 #[.func (.yield l) #[] #[], .pointer (some ⟨Bt, 0, none⟩)] W _
  refine callsIn_of_wp Tryd.func39 rfl trivial ?_ rfl
  simp only [Tryd.ntmps39, List.size_toArray, List.length_cons, List.length_nil, Nat.reduceAdd, Nat.reduceSub, Array.replicate_succ, Array.replicate_zero, List.push_toArray, List.append_toArray, List.nil_append, List.cons_append]
  gi_wp2
  gi_loopw [7] (fun i wr => ∃ k : Nat, k ≤ rs.length ∧ i = .int .i64 (k : Int) ∧ Below w.heap.size w wr ∧ W.heap.size ≤ wr.heap.size ∧ J (rs.take k) wr) (fun i _ => rs.length - (intOf i).toNat)
  case atStart => exact ⟨0, by omega, rfl, HW.out, Nat.le_refl _, h0⟩
  case round =>
    obtain ⟨k, hk, rfl, hg, hsz, hj⟩ := hrel
    clear X c lt
    have HJ0 := Lib.hid hj
    have HG := Lib.hid hg
    by_cases hlt : k < rs.length
    · obtain ⟨b, off, rfl, hb, hcell⟩ := HC.out (by intro e; rw [e] at hlt; simp at hlt)
      obtain ⟨⟨key, s⟩, hz⟩ : ∃ z : Rc, rs[k]? = some z := ⟨_, List.getElem?_eq_getElem hlt⟩
      have kc := (hg.cell (p := ⟨b, off + k * 2, none⟩) hb).trans (hcell k _ hz).1
      have kd := (hg.cell (p := ⟨b, off + k * 2 + 1, none⟩) hb).trans (hcell k _ hz).2
      dsimp only at kc kd
      have hsn : rs.take (k + 1) = rs.take k ++ [(key, s)] := by
        rw [List.take_succ_eq_append_getElem hlt]
        rw [List.getElem?_eq_getElem hlt] at hz
        rw [Option.some.inj hz]
      have HSN := Lib.hid hsn
      have hja : J (rs.take k) (wr.alloc (.cells #[.int .i64 key, .string s] 32)) := HJ.out _ _ _ none hj (World.grownBy_alloc wr _ none) (fun r e => by cases e)
      obtain ⟨fn, tmps, assign, body, hy, hR⟩ := HY.out (rs.take k) (key, s) _ hja (by simp; omega)
      dsimp only at hy
      have HR := Lib.hid hR
      clear hcell hsn hz hR hg hj hja
      gi_wp2
      refine HR.out.mono ?_
      rintro e W3 (⟨rfl, hJ3, hk3⟩ | ⟨rfl, hJx⟩)
      · have H3 := Lib.hid hJ3
        have hk4 : Below w.heap.size (wr.alloc (.cells #[.int .i64 key, .string s] 32)) W3 := hk3.mono hn0
        have G3 := Lib.hid ((HG.out.alloc HG.out.size (.cells #[.int .i64 key, .string s] 32)).trans hk4)
        have hs3 : W.heap.size ≤ W3.heap.size := by have := hk3.size; simp at this; omega
        clear hJ3 hk3 hk4
        gi_wp2
        go_roundw
        case rel => exact ⟨k + 1, by omega, by go_num, G3.out, hs3, by rw [HSN.out]; exact H3.out⟩
        case measure => simp [intOf]; omega
      · have H3 := Lib.hid hJx
        clear hJx
        gi_wp2
        refine bodyPost_ret (results_none rfl _ _ _) rfl ?_
        exact ⟨⟨_, rfl⟩, .inr ⟨_, trivial, H3.out⟩⟩
    · have hkx : k = rs.length := by omega
      clear hg hj
      gi_wp2
      go_end0
      refine ⟨⟨_, rfl⟩, .inl ⟨_, rfl, ?_⟩⟩
      have := HJ0.out
      rw [hkx, List.take_length] at this
      exact this
end Go.Proofs.YtidblliobkjeeaaDoor
