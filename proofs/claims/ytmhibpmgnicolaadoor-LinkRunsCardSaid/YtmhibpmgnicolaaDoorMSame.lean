/-
  Equality of messages: the program's, the reference's.
-/
import Derived.Test.YtmhibpmgnicolaaDoorDelta
namespace Go.Proofs.YtmhibpmgnicolaaDoor
open Go.RowKit
attribute [local go_sem] Dr.upT

set_option maxRecDepth 100000 in
set_option maxHeartbeats 16000000 in
theorem same {B : Nat} {w : World} {s s' : Sls} {a b : Msg} (ha : SlAt B w s a) (hb : SlAt B w s' b) (hs : Small a) :
    Calls Tryd.prog 27 #[.agg (encG a s).toArray, .agg (encG b s').toArray] w fun e w' => e = .returned (.bool (decide (a = b))) ∧ Ge w w' := by
  obtain ⟨akd, ave, ap1, ap2, ⟨ate, atd, at0, at1, at2, at3⟩, arl, acl, adl, apl, aml, acu, ael, aye, awy⟩ := a
  obtain ⟨bkd, bve, bp1, bp2, ⟨bte, btd, bt0, bt1, bt2, bt3⟩, brl, bcl, bdl, bpl, bml, bcu, bel, bye, bwy⟩ := b
  obtain ⟨sr, sc, sd, sp, sm, se⟩ := s
  obtain ⟨tr, tc, tdd, tp, tm, te⟩ := s'
  obtain ⟨h1, h2, h3, h4, h5, h6⟩ := ha
  obtain ⟨k1, k2, k3, k4, k5, k6⟩ := hb
  obtain ⟨l1, l2, l3, l4, l4n, l5, l6⟩ := hs
  dsimp only at h1 h2 h3 h4 h5 h6 k1 k2 k3 k4 k5 k6 l1 l2 l3 l4 l4n l5 l6
  have HR0 := Lib.hid (fun w' (h : Ge w w') => seqR (h1.ge h) (k1.ge h) (Nat.le_trans l1 (by decide)))
  have HC0 := Lib.hid (fun w' (h : Ge w w') => seqC (h2.ge h) (k2.ge h) (Nat.le_trans l2 (by decide)))
  have HE0 := Lib.hid (fun w' (h : Ge w w') => seqE (h6.ge h) (k6.ge h) (Nat.le_trans l6 (by decide)))
  have HD0 := Lib.hid (fun w' (h : Ge w w') => sameDelta (h3.ge h) (h4.kp (h.kp B)) (h5.ge h) (k3.ge h) (k4.kp (h.kp B)) (k5.ge h) l3 l4 l4n l5)
  obtain ⟨aArl, aCrl, rfl⟩ := h1.form
  obtain ⟨aAcl, aCcl, rfl⟩ := h2.form
  obtain ⟨aAdl, aCdl, rfl⟩ := h3.form
  obtain ⟨aApl, aCpl, rfl⟩ := h4.form
  obtain ⟨aAml, aCml, rfl⟩ := h5.form
  obtain ⟨aAel, aCel, rfl⟩ := h6.form
  obtain ⟨bArl, bCrl, rfl⟩ := k1.form
  obtain ⟨bAcl, bCcl, rfl⟩ := k2.form
  obtain ⟨bAdl, bCdl, rfl⟩ := k3.form
  obtain ⟨bApl, bCpl, rfl⟩ := k4.form
  obtain ⟨bAml, bCml, rfl⟩ := k5.form
  obtain ⟨bAel, bCel, rfl⟩ := k6.form
  clear h1 h2 h3 h4 h5 h6 k1 k2 k3 k4 k5 k6 l4n
  simp only [encG]
  have XB0 : Bx ((w.alloc (.cells #[.int .i64 akd, .int .i64 ave, .int .i64 ap1, .int .i64 ap2, .int .i64 ate, .int .i64 atd, .int .i64 at0, .int .i64 at1, .int .i64 at2, .int .i64 at3, .slice aArl arl.length aCrl, .slice aAcl acl.length aCcl, .slice aAdl adl.length aCdl, .slice aApl apl.length aCpl, .slice aAml aml.length aCml, .int .i64 acu, .slice aAel ael.length aCel, .bool aye, .int .i64 awy] 45)).alloc (.cells #[.int .i64 bkd, .int .i64 bve, .int .i64 bp1, .int .i64 bp2, .int .i64 bte, .int .i64 btd, .int .i64 bt0, .int .i64 bt1, .int .i64 bt2, .int .i64 bt3, .slice bArl brl.length bCrl, .slice bAcl bcl.length bCcl, .slice bAdl bdl.length bCdl, .slice bApl bpl.length bCpl, .slice bAml bml.length bCml, .int .i64 bcu, .slice bAel bel.length bCel, .bool bye, .int .i64 bwy] 45)) w.heap.size 45 #[.int .i64 akd, .int .i64 ave, .int .i64 ap1, .int .i64 ap2, .int .i64 ate, .int .i64 atd, .int .i64 at0, .int .i64 at1, .int .i64 at2, .int .i64 at3, .slice aArl arl.length aCrl, .slice aAcl acl.length aCcl, .slice aAdl adl.length aCdl, .slice aApl apl.length aCpl, .slice aAml aml.length aCml, .int .i64 acu, .slice aAel ael.length aCel, .bool aye, .int .i64 awy] := (Bx.new w 45 _ rfl).alloc _
  have XB1 : Bx ((w.alloc (.cells #[.int .i64 akd, .int .i64 ave, .int .i64 ap1, .int .i64 ap2, .int .i64 ate, .int .i64 atd, .int .i64 at0, .int .i64 at1, .int .i64 at2, .int .i64 at3, .slice aArl arl.length aCrl, .slice aAcl acl.length aCcl, .slice aAdl adl.length aCdl, .slice aApl apl.length aCpl, .slice aAml aml.length aCml, .int .i64 acu, .slice aAel ael.length aCel, .bool aye, .int .i64 awy] 45)).alloc (.cells #[.int .i64 bkd, .int .i64 bve, .int .i64 bp1, .int .i64 bp2, .int .i64 bte, .int .i64 btd, .int .i64 bt0, .int .i64 bt1, .int .i64 bt2, .int .i64 bt3, .slice bArl brl.length bCrl, .slice bAcl bcl.length bCcl, .slice bAdl bdl.length bCdl, .slice bApl bpl.length bCpl, .slice bAml bml.length bCml, .int .i64 bcu, .slice bAel bel.length bCel, .bool bye, .int .i64 bwy] 45)) (w.heap.size + 1) 45 #[.int .i64 bkd, .int .i64 bve, .int .i64 bp1, .int .i64 bp2, .int .i64 bte, .int .i64 btd, .int .i64 bt0, .int .i64 bt1, .int .i64 bt2, .int .i64 bt3, .slice bArl brl.length bCrl, .slice bAcl bcl.length bCcl, .slice bAdl bdl.length bCdl, .slice bApl bpl.length bCpl, .slice bAml bml.length bCml, .int .i64 bcu, .slice bAel bel.length bCel, .bool bye, .int .i64 bwy] := Bx.new _ 45 _ (by simp)
  have X0 := bx_all XB0
  have X1 := bx_all XB1
  have GW := Lib.hid (((Ge.refl w).alloc (.cells #[.int .i64 akd, .int .i64 ave, .int .i64 ap1, .int .i64 ap2, .int .i64 ate, .int .i64 atd, .int .i64 at0, .int .i64 at1, .int .i64 at2, .int .i64 at3, .slice aArl arl.length aCrl, .slice aAcl acl.length aCcl, .slice aAdl adl.length aCdl, .slice aApl apl.length aCpl, .slice aAml aml.length aCml, .int .i64 acu, .slice aAel ael.length aCel, .bool aye, .int .i64 awy] 45)).alloc (.cells #[.int .i64 bkd, .int .i64 bve, .int .i64 bp1, .int .i64 bp2, .int .i64 bte, .int .i64 btd, .int .i64 bt0, .int .i64 bt1, .int .i64 bt2, .int .i64 bt3, .slice bArl brl.length bCrl, .slice bAcl bcl.length bCcl, .slice bAdl bdl.length bCdl, .slice bApl bpl.length bCpl, .slice bAml bml.length bCml, .int .i64 bcu, .slice bAel bel.length bCel, .bool bye, .int .i64 bwy] 45))
  clear XB0 XB1
  generalize hD : decide ((⟨akd, ave, ap1, ap2, ⟨ate, atd, at0, at1, at2, at3⟩, arl, acl, adl, apl, aml, acu, ael, aye, awy⟩ : Msg) = ⟨bkd, bve, bp1, bp2, ⟨bte, btd, bt0, bt1, bt2, bt3⟩, brl, bcl, bdl, bpl, bml, bcu, bel, bye, bwy⟩) = qq
  have HDEC := Lib.hid hD
  clear hD
  by_cases p0 : akd = bkd
  rotate_left
  · have RES := Lib.hid (show qq = false from by rw [← HDEC.out]; exact decide_eq_false fun e => p0 (congrArg Msg.kind e))
    have t0 : (akd == bkd) = false := by simpa using p0
    clear p0 
    go_enter Tryd.func27, Tryd.ntmps27
    go_wp2
    go_returns
    exact ⟨by rw [RES.out]; rfl, GW.out⟩
  have P0 := Lib.hid p0
  have t0 : (akd == bkd) = true := by simp [p0]
  clear p0
  by_cases p1 : ave = bve
  rotate_left
  · have RES := Lib.hid (show qq = false from by rw [← HDEC.out]; exact decide_eq_false fun e => p1 (congrArg Msg.ver e))
    have t1 : (ave == bve) = false := by simpa using p1
    clear p1 
    go_enter Tryd.func27, Tryd.ntmps27
    go_wp2
    go_returns
    exact ⟨by rw [RES.out]; rfl, GW.out⟩
  have P1 := Lib.hid p1
  have t1 : (ave == bve) = true := by simp [p1]
  clear p1
  by_cases p2 : ap1 = bp1 ∧ ap2 = bp2
  rotate_left
  · have RES := Lib.hid (show qq = false from by rw [← HDEC.out]; exact decide_eq_false fun e => p2 (⟨congrArg Msg.p1 e, congrArg Msg.p2 e⟩))
    have hp := eqlP ap1 ap2 bp1 bp2
    rw [show (decide (ap1 = bp1) && decide (ap2 = bp2)) = false from by simpa using p2] at hp
    clear p2 
    go_enter Tryd.func27, Tryd.ntmps27
    go_wp2
    go_returns
    exact ⟨by rw [RES.out]; rfl, GW.out⟩
  have P2 := Lib.hid p2
  have hp := eqlP ap1 ap2 bp1 bp2
  rw [show (decide (ap1 = bp1) && decide (ap2 = bp2)) = true from by simp [p2.1, p2.2]] at hp
  clear p2
  by_cases p3 : (⟨ate, atd, at0, at1, at2, at3⟩ : Tm) = ⟨bte, btd, bt0, bt1, bt2, bt3⟩
  rotate_left
  · have RES := Lib.hid (show qq = false from by rw [← HDEC.out]; exact decide_eq_false fun e => p3 (congrArg Msg.t e))
    have ht := eqlT ⟨ate, atd, at0, at1, at2, at3⟩ ⟨bte, btd, bt0, bt1, bt2, bt3⟩
    rw [decide_eq_false p3] at ht
    simp only [encT] at ht
    clear p3 
    go_enter Tryd.func27, Tryd.ntmps27
    go_wp2
    go_returns
    exact ⟨by rw [RES.out]; rfl, GW.out⟩
  have P3 := Lib.hid p3
  have ht := eqlT ⟨ate, atd, at0, at1, at2, at3⟩ ⟨bte, btd, bt0, bt1, bt2, bt3⟩
  rw [decide_eq_true p3] at ht
  simp only [encT] at ht
  clear p3
  by_cases p4 : acu = bcu
  rotate_left
  · have RES := Lib.hid (show qq = false from by rw [← HDEC.out]; exact decide_eq_false fun e => p4 (congrArg Msg.cut e))
    have t4 : (acu == bcu) = false := by simpa using p4
    clear p4 
    go_enter Tryd.func27, Tryd.ntmps27
    go_wp2
    go_returns
    exact ⟨by rw [RES.out]; rfl, GW.out⟩
  have P4 := Lib.hid p4
  have t4 : (acu == bcu) = true := by simp [p4]
  clear p4
  by_cases p5 : aye = bye
  rotate_left
  · have RES := Lib.hid (show qq = false from by rw [← HDEC.out]; exact decide_eq_false fun e => p5 (congrArg Msg.yes e))
    have t5 : (aye == bye) = false := by simpa using p5
    clear p5 
    go_enter Tryd.func27, Tryd.ntmps27
    go_wp2
    go_returns
    exact ⟨by rw [RES.out]; rfl, GW.out⟩
  have P5 := Lib.hid p5
  have t5 : (aye == bye) = true := by simp [p5]
  clear p5
  by_cases p6 : awy = bwy
  rotate_left
  · have RES := Lib.hid (show qq = false from by rw [← HDEC.out]; exact decide_eq_false fun e => p6 (congrArg Msg.why e))
    have t6 : (awy == bwy) = false := by simpa using p6
    clear p6 
    go_enter Tryd.func27, Tryd.ntmps27
    go_wp2
    go_returns
    exact ⟨by rw [RES.out]; rfl, GW.out⟩
  have P6 := Lib.hid p6
  have t6 : (awy == bwy) = true := by simp [p6]
  clear p6
  by_cases p7 : arl = brl
  rotate_left
  · have RES := Lib.hid (show qq = false from by rw [← HDEC.out]; exact decide_eq_false fun e => p7 (congrArg Msg.recs e))
    have HR := Lib.hid (fun w' h => by have := HR0.out w' h; rw [decide_eq_false p7] at this; exact this)
    clear p7 
    go_enter Tryd.func27, Tryd.ntmps27
    go_wp2_with fail
    refine (HR.out _ GW.out).mono ?_
    rintro e w1 ⟨rfl, hg1⟩
    have K1 := Lib.hid hg1
    have G1 := Lib.hid (GW.out.trans K1.out)
    have y1 := X0.out _ K1.out
    have z1 := X1.out _ K1.out
    clear hg1
    go_wp2
    go_returns
    exact ⟨by rw [RES.out]; rfl, G1.out⟩
  have P7 := Lib.hid p7
  have HR := Lib.hid (fun w' h => by have := HR0.out w' h; rw [decide_eq_true p7] at this; exact this)
  clear p7
  by_cases p8 : acl = bcl
  rotate_left
  · have RES := Lib.hid (show qq = false from by rw [← HDEC.out]; exact decide_eq_false fun e => p8 (congrArg Msg.chs e))
    have HC := Lib.hid (fun w' h => by have := HC0.out w' h; rw [decide_eq_false p8] at this; exact this)
    clear p8 
    go_enter Tryd.func27, Tryd.ntmps27
    go_wp2_with fail
    refine (HR.out _ GW.out).mono ?_
    rintro e w1 ⟨rfl, hg1⟩
    have K1 := Lib.hid hg1
    have G1 := Lib.hid (GW.out.trans K1.out)
    have y1 := X0.out _ K1.out
    have z1 := X1.out _ K1.out
    clear hg1
    go_wp2_with fail
    refine (HC.out _ G1.out).mono ?_
    rintro e w2 ⟨rfl, hg2⟩
    have K2 := Lib.hid (K1.out.trans hg2)
    have G2 := Lib.hid (GW.out.trans K2.out)
    have y2 := X0.out _ K2.out
    have z2 := X1.out _ K2.out
    clear hg2
    clear y1 z1
    go_wp2
    go_returns
    exact ⟨by rw [RES.out]; rfl, G2.out⟩
  have P8 := Lib.hid p8
  have HC := Lib.hid (fun w' h => by have := HC0.out w' h; rw [decide_eq_true p8] at this; exact this)
  clear p8
  by_cases p9 : ael = bel
  rotate_left
  · have RES := Lib.hid (show qq = false from by rw [← HDEC.out]; exact decide_eq_false fun e => p9 (congrArg Msg.ents e))
    have HE := Lib.hid (fun w' h => by have := HE0.out w' h; rw [decide_eq_false p9] at this; exact this)
    clear p9 
    go_enter Tryd.func27, Tryd.ntmps27
    go_wp2_with fail
    refine (HR.out _ GW.out).mono ?_
    rintro e w1 ⟨rfl, hg1⟩
    have K1 := Lib.hid hg1
    have G1 := Lib.hid (GW.out.trans K1.out)
    have y1 := X0.out _ K1.out
    have z1 := X1.out _ K1.out
    clear hg1
    go_wp2_with fail
    refine (HC.out _ G1.out).mono ?_
    rintro e w2 ⟨rfl, hg2⟩
    have K2 := Lib.hid (K1.out.trans hg2)
    have G2 := Lib.hid (GW.out.trans K2.out)
    have y2 := X0.out _ K2.out
    have z2 := X1.out _ K2.out
    clear hg2
    clear y1 z1
    go_wp2_with fail
    refine (HE.out _ G2.out).mono ?_
    rintro e w3 ⟨rfl, hg3⟩
    have K3 := Lib.hid (K2.out.trans hg3)
    have G3 := Lib.hid (GW.out.trans K3.out)
    have y3 := X0.out _ K3.out
    have z3 := X1.out _ K3.out
    clear hg3
    clear y2 z2
    go_wp2
    go_returns
    exact ⟨by rw [RES.out]; rfl, G3.out⟩
  have P9 := Lib.hid p9
  have HE := Lib.hid (fun w' h => by have := HE0.out w' h; rw [decide_eq_true p9] at this; exact this)
  clear p9
  by_cases p10 : adl = bdl ∧ apl = bpl ∧ aml = bml
  rotate_left
  · have RES := Lib.hid (show qq = false from by rw [← HDEC.out]; exact decide_eq_false fun e => p10 (⟨congrArg Msg.drop e, congrArg Msg.put e, congrArg Msg.moves e⟩))
    have HD := Lib.hid (fun w' h => by have := HD0.out w' h; rw [decide_eq_false p10] at this; exact this)
    clear p10 
    go_enter Tryd.func27, Tryd.ntmps27
    go_wp2_with fail
    refine (HR.out _ GW.out).mono ?_
    rintro e w1 ⟨rfl, hg1⟩
    have K1 := Lib.hid hg1
    have G1 := Lib.hid (GW.out.trans K1.out)
    have y1 := X0.out _ K1.out
    have z1 := X1.out _ K1.out
    clear hg1
    go_wp2_with fail
    refine (HC.out _ G1.out).mono ?_
    rintro e w2 ⟨rfl, hg2⟩
    have K2 := Lib.hid (K1.out.trans hg2)
    have G2 := Lib.hid (GW.out.trans K2.out)
    have y2 := X0.out _ K2.out
    have z2 := X1.out _ K2.out
    clear hg2
    clear y1 z1
    go_wp2_with fail
    refine (HE.out _ G2.out).mono ?_
    rintro e w3 ⟨rfl, hg3⟩
    have K3 := Lib.hid (K2.out.trans hg3)
    have G3 := Lib.hid (GW.out.trans K3.out)
    have y3 := X0.out _ K3.out
    have z3 := X1.out _ K3.out
    clear hg3
    clear y2 z2
    go_wp2_with fail
    refine (HD.out _ G3.out).mono ?_
    rintro e w4 ⟨rfl, hg4⟩
    have K4 := Lib.hid (K3.out.trans hg4)
    have G4 := Lib.hid (GW.out.trans K4.out)
    have y4 := X0.out _ K4.out
    have z4 := X1.out _ K4.out
    clear hg4
    clear y3 z3
    go_wp2
    go_returns
    exact ⟨by rw [RES.out]; rfl, G4.out⟩
  have P10 := Lib.hid p10
  have HD := Lib.hid (fun w' h => by have := HD0.out w' h; rw [decide_eq_true p10] at this; exact this)
  clear p10
  have RES := Lib.hid (show qq = true from by rw [← HDEC.out]; exact decide_eq_true (by have f := P2.out; have g := P3.out; have d := P10.out; cases g; rw [P0.out, P1.out, f.1, f.2, P4.out, P5.out, P6.out, P7.out, P8.out, P9.out, d.1, d.2.1, d.2.2]))
  go_enter Tryd.func27, Tryd.ntmps27
  go_wp2_with fail
  refine (HR.out _ GW.out).mono ?_
  rintro e w1 ⟨rfl, hg1⟩
  have K1 := Lib.hid hg1
  have G1 := Lib.hid (GW.out.trans K1.out)
  have y1 := X0.out _ K1.out
  have z1 := X1.out _ K1.out
  clear hg1
  go_wp2_with fail
  refine (HC.out _ G1.out).mono ?_
  rintro e w2 ⟨rfl, hg2⟩
  have K2 := Lib.hid (K1.out.trans hg2)
  have G2 := Lib.hid (GW.out.trans K2.out)
  have y2 := X0.out _ K2.out
  have z2 := X1.out _ K2.out
  clear hg2
  clear y1 z1
  go_wp2_with fail
  refine (HE.out _ G2.out).mono ?_
  rintro e w3 ⟨rfl, hg3⟩
  have K3 := Lib.hid (K2.out.trans hg3)
  have G3 := Lib.hid (GW.out.trans K3.out)
  have y3 := X0.out _ K3.out
  have z3 := X1.out _ K3.out
  clear hg3
  clear y2 z2
  go_wp2_with fail
  refine (HD.out _ G3.out).mono ?_
  rintro e w4 ⟨rfl, hg4⟩
  have K4 := Lib.hid (K3.out.trans hg4)
  have G4 := Lib.hid (GW.out.trans K4.out)
  have y4 := X0.out _ K4.out
  have z4 := X1.out _ K4.out
  clear hg4
  clear y3 z3
  go_wp2
  go_returns
  exact ⟨by rw [RES.out]; rfl, G4.out⟩
end Go.Proofs.YtmhibpmgnicolaaDoor
