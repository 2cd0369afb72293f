/-
  The program's sameNode, the equality of lists of nodes.
-/
import Derived.Test.YtmhibpmgnicolaaDoorMsg
namespace Go.Proofs.YtmhibpmgnicolaaDoor
open Go.RowKit
attribute [local go_sem] Dr.upT

set_option maxRecDepth 100000 in
set_option maxHeartbeats 16000000 in
theorem sameNode {B : Nat} {w : World} {r s : Nrw} {a b : Nod} (ha : NodAt B w r a) (hb : NodAt B w s b) (han : a.ins.length ≤ 1000000) :
    Calls Tryd.prog 71 #[.agg (encN r).toArray, .agg (encN s).toArray] w fun e w' => e = .returned (.bool (decide (a = b))) ∧ Ge w w' := by
  obtain ⟨q1, q2, ra, q3, q4, q5, q6⟩ := r
  obtain ⟨ai, ak, al, ⟨afk, afa, afs⟩, an, ac, ad⟩ := a
  obtain ⟨e1, e2, e3, e4, e5, e6, hal⟩ := ha
  dsimp only at e1 e2 e3 e4 e5 e6 hal han
  have e1 := e1.symm
  have e2 := e2.symm
  have e3 := e3.symm
  have e4 := e4.symm
  have e5 := e5.symm
  have e6 := e6.symm
  subst e1 e2 e3 e4 e5 e6
  obtain ⟨q1, q2, rb, q3, q4, q5, q6⟩ := s
  obtain ⟨bi, bk, bl, ⟨bfk, bfa, bfs⟩, bn, bc, bd⟩ := b
  obtain ⟨e1, e2, e3, e4, e5, e6, hbl⟩ := hb
  dsimp only at e1 e2 e3 e4 e5 e6 hbl
  have e1 := e1.symm
  have e2 := e2.symm
  have e3 := e3.symm
  have e4 := e4.symm
  have e5 := e5.symm
  have e6 := e6.symm
  subst e1 e2 e3 e4 e5 e6
  have HL0 := Lib.hid (fun w' (h : Ge w w') => seqI (hal.ge h) (hbl.ge h) (Nat.le_trans han (by decide)))
  obtain ⟨Aa, ca, rfl⟩ := hal.form
  obtain ⟨Ab, cb, rfl⟩ := hbl.form
  clear hal hbl
  simp only [encN]
  have XB0 : Bx ((w.alloc (.cells #[.int .i64 ai, .int .i64 ak, .slice Aa al.length ca, .int .i64 afk, .int .i64 afa, .string afs, .string an, .int .i64 ac, .int .i64 ad] 84)).alloc (.cells #[.int .i64 bi, .int .i64 bk, .slice Ab bl.length cb, .int .i64 bfk, .int .i64 bfa, .string bfs, .string bn, .int .i64 bc, .int .i64 bd] 84)) w.heap.size 84 #[.int .i64 ai, .int .i64 ak, .slice Aa al.length ca, .int .i64 afk, .int .i64 afa, .string afs, .string an, .int .i64 ac, .int .i64 ad] := (Bx.new w 84 _ rfl).alloc _
  have XB1 : Bx ((w.alloc (.cells #[.int .i64 ai, .int .i64 ak, .slice Aa al.length ca, .int .i64 afk, .int .i64 afa, .string afs, .string an, .int .i64 ac, .int .i64 ad] 84)).alloc (.cells #[.int .i64 bi, .int .i64 bk, .slice Ab bl.length cb, .int .i64 bfk, .int .i64 bfa, .string bfs, .string bn, .int .i64 bc, .int .i64 bd] 84)) (w.heap.size + 1) 84 #[.int .i64 bi, .int .i64 bk, .slice Ab bl.length cb, .int .i64 bfk, .int .i64 bfa, .string bfs, .string bn, .int .i64 bc, .int .i64 bd] := Bx.new _ 84 _ (by simp)
  have X0 := bx_all XB0
  have X1 := bx_all XB1
  have GW := Lib.hid (((Ge.refl w).alloc (.cells #[.int .i64 ai, .int .i64 ak, .slice Aa al.length ca, .int .i64 afk, .int .i64 afa, .string afs, .string an, .int .i64 ac, .int .i64 ad] 84)).alloc (.cells #[.int .i64 bi, .int .i64 bk, .slice Ab bl.length cb, .int .i64 bfk, .int .i64 bfa, .string bfs, .string bn, .int .i64 bc, .int .i64 bd] 84))
  clear XB0 XB1
  generalize hD : decide ((⟨ai, ak, al, ⟨afk, afa, afs⟩, an, ac, ad⟩ : Nod) = ⟨bi, bk, bl, ⟨bfk, bfa, bfs⟩, bn, bc, bd⟩) = qq
  have HDEC := Lib.hid hD
  clear hD
  by_cases p0 : ai = bi
  rotate_left
  · have RES := Lib.hid (show qq = false from by rw [← HDEC.out]; exact decide_eq_false fun e => p0 (congrArg Nod.id e))
    have t0 : (ai == bi) = false := by simpa using p0
    clear p0 
    go_enter Tryd.func71, Tryd.ntmps71
    go_wp2
    go_returns
    exact ⟨by rw [RES.out]; rfl, GW.out⟩
  have P0 := Lib.hid p0
  have t0 : (ai == bi) = true := by simp [p0]
  clear p0
  by_cases p1 : ak = bk
  rotate_left
  · have RES := Lib.hid (show qq = false from by rw [← HDEC.out]; exact decide_eq_false fun e => p1 (congrArg Nod.kind e))
    have t1 : (ak == bk) = false := by simpa using p1
    clear p1 
    go_enter Tryd.func71, Tryd.ntmps71
    go_wp2
    go_returns
    exact ⟨by rw [RES.out]; rfl, GW.out⟩
  have P1 := Lib.hid p1
  have t1 : (ak == bk) = true := by simp [p1]
  clear p1
  by_cases p2 : (⟨afk, afa, afs⟩ : Fnv) = ⟨bfk, bfa, bfs⟩
  rotate_left
  · have RES := Lib.hid (show qq = false from by rw [← HDEC.out]; exact decide_eq_false fun e => p2 (congrArg Nod.fn e))
    have hf := eqlF ⟨afk, afa, afs⟩ ⟨bfk, bfa, bfs⟩
    rw [decide_eq_false p2] at hf
    simp only [encF] at hf
    clear p2 
    go_enter Tryd.func71, Tryd.ntmps71
    go_wp2
    go_returns
    exact ⟨by rw [RES.out]; rfl, GW.out⟩
  have P2 := Lib.hid p2
  have hf := eqlF ⟨afk, afa, afs⟩ ⟨bfk, bfa, bfs⟩
  rw [decide_eq_true p2] at hf
  simp only [encF] at hf
  clear p2
  by_cases p3 : an = bn
  rotate_left
  · have RES := Lib.hid (show qq = false from by rw [← HDEC.out]; exact decide_eq_false fun e => p3 (congrArg Nod.name e))
    have t3 : (an.toList == bn.toList) = false := by simpa [str_eq] using p3
    clear p3 
    go_enter Tryd.func71, Tryd.ntmps71
    go_wp2
    go_returns
    exact ⟨by rw [RES.out]; rfl, GW.out⟩
  have P3 := Lib.hid p3
  have t3 : (an.toList == bn.toList) = true := by simp [p3]
  clear p3
  by_cases p4 : ac = bc
  rotate_left
  · have RES := Lib.hid (show qq = false from by rw [← HDEC.out]; exact decide_eq_false fun e => p4 (congrArg Nod.cap e))
    have t4 : (ac == bc) = false := by simpa using p4
    clear p4 
    go_enter Tryd.func71, Tryd.ntmps71
    go_wp2
    go_returns
    exact ⟨by rw [RES.out]; rfl, GW.out⟩
  have P4 := Lib.hid p4
  have t4 : (ac == bc) = true := by simp [p4]
  clear p4
  by_cases p5 : ad = bd
  rotate_left
  · have RES := Lib.hid (show qq = false from by rw [← HDEC.out]; exact decide_eq_false fun e => p5 (congrArg Nod.d e))
    have t5 : (ad == bd) = false := by simpa using p5
    clear p5 
    go_enter Tryd.func71, Tryd.ntmps71
    go_wp2
    go_returns
    exact ⟨by rw [RES.out]; rfl, GW.out⟩
  have P5 := Lib.hid p5
  have t5 : (ad == bd) = true := by simp [p5]
  clear p5
  by_cases p6 : al = bl
  rotate_left
  · have RES := Lib.hid (show qq = false from by rw [← HDEC.out]; exact decide_eq_false fun e => p6 (congrArg Nod.ins e))
    have HL := Lib.hid (fun w' h => by have := HL0.out w' h; rw [decide_eq_false p6] at this; exact this)
    clear p6 
    go_enter Tryd.func71, Tryd.ntmps71
    go_wp2_with fail
    refine (HL.out _ GW.out).mono ?_
    rintro e w1 ⟨rfl, hg1⟩
    have K1 := Lib.hid hg1
    have G1 := Lib.hid (GW.out.trans K1.out)
    have y1 := X0.out _ K1.out
    have z1 := X1.out _ K1.out
    clear hg1
    go_wp2
    go_returns
    exact ⟨by rw [RES.out]; rfl, G1.out⟩
  have P6 := Lib.hid p6
  have HL := Lib.hid (fun w' h => by have := HL0.out w' h; rw [decide_eq_true p6] at this; exact this)
  clear p6
  have RES := Lib.hid (show qq = true from by rw [← HDEC.out]; exact decide_eq_true (by have f := P2.out; cases f; rw [P0.out, P1.out, P3.out, P4.out, P5.out, P6.out]))
  go_enter Tryd.func71, Tryd.ntmps71
  go_wp2_with fail
  refine (HL.out _ GW.out).mono ?_
  rintro e w1 ⟨rfl, hg1⟩
  have K1 := Lib.hid hg1
  have G1 := Lib.hid (GW.out.trans K1.out)
  have y1 := X0.out _ K1.out
  have z1 := X1.out _ K1.out
  clear hg1
  go_wp2
  go_returns
  exact ⟨by rw [RES.out]; rfl, G1.out⟩
end Go.Proofs.YtmhibpmgnicolaaDoor
