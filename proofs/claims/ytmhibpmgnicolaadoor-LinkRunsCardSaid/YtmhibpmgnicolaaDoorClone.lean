/-
  Clone: a message in memory of its own.
-/
import Derived.Test.YtmhibpmgnicolaaDoorNodes
import Derived.Test.YtmhibpmgnicolaaDoorDrawB
import Derived.Deep.Cut
import Derived.Deep.MidRow
import Derived.Laws.Rows
namespace Go.Proofs.YtmhibpmgnicolaaDoor
open Go.RowKit
attribute [local go_sem] Dr.upT

/-- a store into a block that holds no data, made behind the beginning -/
theorem Kp.set {B : Nat} {w : World} {b : Nat} {t : TypeId} {cs : Array Value} (h : Bx w b t cs) (ht : isD t = false) (hb : B ≤ b) (k : Nat) (v : Value) : Kp B w (w.setCell ⟨b, k, none⟩ v) := by
  refine ⟨by simp [World.setCell], fun c hc => Below.heap_setCell _ _ _ c ?_⟩
  rintro rfl
  rcases hc.2 with h1 | ⟨cs', t', mk, h1, h2⟩
  · omega
  · unfold Bx at h
    rw [h] at h1
    simp at h1
    rw [h1.2.1] at ht
    rw [ht] at h2
    cases h2
def setsA (cs : Array Value) : Nat → List Value → Array Value
  | _, [] => cs
  | o, v :: r => setsA (cs.setIfInBounds o v) (o + 1) r
theorem Bx.sets {b : Nat} {t : TypeId} : ∀ (vs : List Value) (o : Nat) {w : World} {cs : Array Value}, Bx w b t cs → Bx (w.setCells b o vs) b t (setsA cs o vs)
  | [], _, _, _, h => h
  | v :: r, o, _, _, h => Bx.sets r (o + 1) (h.set o v)
theorem Bx.sets_ne {b b' : Nat} {t : TypeId} {cs : Array Value} (hne : b ≠ b') : ∀ (vs : List Value) (o : Nat) {w : World}, Bx w b t cs → Bx (w.setCells b' o vs) b t cs
  | [], _, _, h => h
  | v :: r, o, _, h => Bx.sets_ne hne r (o + 1) (h.set_ne o v hne)
theorem Kp.sets {B b : Nat} {t : TypeId} (ht : isD t = false) (hb : B ≤ b) : ∀ (vs : List Value) (o : Nat) {w : World} {cs : Array Value}, Bx w b t cs → Kp B w (w.setCells b o vs)
  | [], _, w, _, _ => Kp.refl B w
  | v :: r, o, _, _, h => (Kp.set h ht hb o v).trans (Kp.sets ht hb r (o + 1) (h.set o v))
theorem below_sets {B b : Nat} {a : World} (hb : B ≤ b) : ∀ (vs : List Value) (o : Nat) (w : World), Below B a w → Below B a (w.setCells b o vs)
  | [], _, _, h => h
  | v :: r, o, _, h => below_sets hb r (o + 1) _ (Below.setCell h hb v)
theorem setsA_list : ∀ (vs : List Value) (o : Nat) (cs : Array Value), o + vs.length ≤ cs.size → (setsA cs o vs).toList = cs.toList.take o ++ vs ++ cs.toList.drop (o + vs.length)
  | [], o, cs, _ => by simp [setsA]
  | v :: r, o, cs, h => by
    have ho : o < cs.size := by simp at h; omega
    rw [setsA, setsA_list r (o + 1) _ (by simp at h ⊢; omega), Array.toList_setIfInBounds]
    have h1 : (cs.toList.set o v).take (o + 1) = cs.toList.take o ++ [v] := by
      rw [List.take_set, List.take_succ_eq_append_getElem (by simpa using ho), List.set_append_right _ _ (by simp; omega)]
      simp
      rw [Nat.min_eq_left (by omega)]
      simp
    have h2 : (cs.toList.set o v).drop (o + 1 + r.length) = cs.toList.drop (o + (v :: r).length) := by
      rw [List.drop_set_of_lt (by omega), List.length_cons]
      congr 1
      omega
    rw [h1, h2]
    simp
/-- a whole block is written -/
theorem Bx.fill {w : World} {b : Nat} {t : TypeId} {cs : Array Value} (h : Bx w b t cs) (vs : List Value) (hl : vs.length = cs.size) : Bx (w.setCells b 0 vs) b t vs.toArray := by
  have := h.sets vs 0
  have e : setsA cs 0 vs = vs.toArray := by
    apply Array.toList_inj.1
    rw [setsA_list vs 0 cs (by omega), Nat.zero_add, List.take_zero, List.nil_append, List.drop_eq_nil_of_le (by rw [Array.length_toList]; omega), List.append_nil]
  rw [e] at this
  exact this
theorem Bx.there {w : World} {b : Nat} {t : TypeId} {cs : Array Value} (h : Bx w b t cs) : w.there b 0 cs.size := fun j hj => by
  rw [Nat.zero_add, h.cell, h.frozen, Array.getElem?_eq_getElem hj]
  exact ⟨rfl, rfl⟩
theorem Kp.setG {B : Nat} {w w' : World} (hk : Kp B w w') {b : Nat} {t : TypeId} {cs : Array Value} (h : Bx w' b t cs) (ht : isD t = false) (hb : B ≤ b) (k : Nat) (v : Value) : Kp B w (w'.setCell ⟨b, k, none⟩ v) := hk.trans (Kp.set h ht hb k v)

set_option maxRecDepth 100000 in
set_option maxHeartbeats 16000000 in
theorem clone_any {B : Nat} {w : World} {s : Sls} {m : Msg} (h : SlAt B w s m) (hs : Small m) (hB : B ≤ w.heap.size) :
    Calls Tryd.prog 24 #[.agg (encG m s).toArray] w fun e w' => ∃ s', e = .returned (.agg (encG m s').toArray) ∧ SlAt B w' s' m ∧ Ge w w' := by
  obtain ⟨kd, ve, p1, p2, ⟨te, td, t0, t1, t2, t3⟩, rl, cl, dl, pl, ml, cu, el, ye, wy⟩ := m
  obtain ⟨sr, sc, sd, sp, sm, se⟩ := s
  obtain ⟨h1, h2, h3, h4, h5, h6⟩ := h
  obtain ⟨l1, l2, l3, l4, l4n, l5, l6⟩ := hs
  dsimp only at h1 h2 h3 h4 h5 h6 l1 l2 l3 l4 l4n l5 l6
  have HR := Lib.hid (fun w' (g : Ge w w') => cloneR ((h1.ge g).src (fun x _ => one_R x)) (Nat.le_trans l1 (by decide)))
  have HC := Lib.hid (fun w' (g : Ge w w') => cloneC ((h2.ge g).src (fun x _ => one_C x)) (Nat.le_trans l2 (by decide)))
  have HE := Lib.hid (fun w' (g : Ge w w') => cloneE ((h6.ge g).src (fun x _ => one_E x)) (Nat.le_trans l6 (by decide)))
  have HD := Lib.hid (fun w' (k : Kp B w w') => cloneI ((h3.kp k).src (fun x _ => one_I x)) (Nat.le_trans l3 (by decide)))
  have HM := Lib.hid (fun w' (k : Kp B w w') => cloneM ((h5.kp k).src (fun x _ => one_M x)) (Nat.le_trans l5 (by decide)))
  have HP := Lib.hid (fun w' (k : Kp B w w') => nodes_any (h4.kp k) l4 l4n)
  obtain ⟨Ar, cr, rfl⟩ := h1.form
  obtain ⟨Ac, cc, rfl⟩ := h2.form
  obtain ⟨Ad, cd, rfl⟩ := h3.form
  obtain ⟨Ap, cp, rfl⟩ := h4.form
  obtain ⟨Am, cm, rfl⟩ := h5.form
  obtain ⟨Ae, ce, rfl⟩ := h6.form
  clear h1 h2 h3 h4 h5 h6 l4n
  simp only [encG]
  obtain ⟨W2, hW2⟩ : ∃ x, x = (w.alloc (.cells #[.int .i64 kd, .int .i64 ve, .int .i64 p1, .int .i64 p2, .int .i64 te, .int .i64 td, .int .i64 t0, .int .i64 t1, .int .i64 t2, .int .i64 t3, .slice Ar rl.length cr, .slice Ac cl.length cc, .slice Ad dl.length cd, .slice Ap pl.length cp, .slice Am ml.length cm, .int .i64 cu, .slice Ae el.length ce, .bool ye, .int .i64 wy] 45)).alloc (.cells #[.int .i64 0, .int .i64 0, .int .i64 0, .int .i64 0, .int .i64 0, .int .i64 0, .int .i64 0, .int .i64 0, .int .i64 0, .int .i64 0, .slice none 0 0, .slice none 0 0, .slice none 0 0, .slice none 0 0, .slice none 0 0, .int .i64 0, .slice none 0 0, .bool false, .int .i64 0] 45) := ⟨_, rfl⟩
  have XB0 : Bx W2 w.heap.size 45 #[.int .i64 kd, .int .i64 ve, .int .i64 p1, .int .i64 p2, .int .i64 te, .int .i64 td, .int .i64 t0, .int .i64 t1, .int .i64 t2, .int .i64 t3, .slice Ar rl.length cr, .slice Ac cl.length cc, .slice Ad dl.length cd, .slice Ap pl.length cp, .slice Am ml.length cm, .int .i64 cu, .slice Ae el.length ce, .bool ye, .int .i64 wy] := by rw [hW2]; exact (Bx.new w 45 _ rfl).alloc _
  have XB1 : Bx W2 (w.heap.size + 1) 45 #[.int .i64 0, .int .i64 0, .int .i64 0, .int .i64 0, .int .i64 0, .int .i64 0, .int .i64 0, .int .i64 0, .int .i64 0, .int .i64 0, .slice none 0 0, .slice none 0 0, .slice none 0 0, .slice none 0 0, .slice none 0 0, .int .i64 0, .slice none 0 0, .bool false, .int .i64 0] := by rw [hW2]; exact Bx.new _ 45 _ (by simp)
  have HX0 := Lib.hid XB0
  have HX1 := Lib.hid XB1
  have X0 := bx_all XB0
  have GW := Lib.hid (show Ge w W2 by rw [hW2]; exact ((Ge.refl w).alloc _).alloc _)
  clear XB0 XB1
  go_enter Tryd.func24, Tryd.ntmps24
  go_wp2
  rw [← hW2]
  clear hW2
  refine Dr.wp_region_TU 10 (by kernel_rfl) (by kernel_rfl) (by decide) (by kernel_rfl) ?_
  iterate 2 (apply Dr.wpT_det; · (intro u w3 hw hF; clear hF; have k0 := X0.out w3 hw; go_simp; first | exact ⟨Ge.refl _, rfl⟩ | exact Ge.refl _ | rfl))
  refine Dr.wpT_non (fun v wv => LAt eR B wv v rl) (fun v wa wb hg h => h.ge hg) ?_ ?_
  · intro u w3 hw hF
    clear hF
    go_simp
    refine (HR.out w3 (GW.out.trans hw)).mono ?_
    rintro e w4 ⟨v4, rfl, ho, hg⟩
    exact ⟨_, rfl, hg, ho.lat (by decide) B⟩
  iterate 2 (apply Dr.wpT_det; · (intro u w3 hw hF; clear hF; have k0 := X0.out w3 hw; go_simp; first | exact ⟨Ge.refl _, rfl⟩ | exact Ge.refl _ | rfl))
  refine Dr.wpT_non (fun v wv => LAt eC B wv v cl) (fun v wa wb hg h => h.ge hg) ?_ ?_
  · intro u w3 hw hF
    clear hF
    go_simp
    refine (HC.out w3 (GW.out.trans hw)).mono ?_
    rintro e w4 ⟨v4, rfl, ho, hg⟩
    exact ⟨_, rfl, hg, ho.lat (by decide) B⟩
  iterate 2 (apply Dr.wpT_det; · (intro u w3 hw hF; clear hF; have k0 := X0.out w3 hw; go_simp; first | exact ⟨Ge.refl _, rfl⟩ | exact Ge.refl _ | rfl))
  refine Dr.wpT_non (fun v wv => LAt eE B wv v el) (fun v wa wb hg h => h.ge hg) ?_ ?_
  · intro u w3 hw hF
    clear hF
    go_simp
    refine (HE.out w3 (GW.out.trans hw)).mono ?_
    rintro e w4 ⟨v4, rfl, ho, hg⟩
    exact ⟨_, rfl, hg, ho.lat (by decide) B⟩
  iterate 1 (apply Dr.wpT_det; · (intro u w3 hw hF; clear hF; have k0 := X0.out w3 hw; go_simp; first | exact ⟨Ge.refl _, rfl⟩ | exact Ge.refl _ | rfl))
  intro u w3 hw hF
  have hr : LAt eR B w3 (u 2) rl := by simpa using hF 2 (by omega)
  have hc : LAt eC B w3 (u 5) cl := by simpa using hF 5 (by omega)
  have he : LAt eE B w3 (u 8) el := by simpa using hF 8 (by omega)
  clear hF
  obtain ⟨Vr, nr, er⟩ := hr.form
  obtain ⟨Vc, nc, ec⟩ := hc.form
  obtain ⟨Ve, ne, ee⟩ := he.form
  rw [er] at hr
  rw [ec] at hc
  rw [ee] at he
  have XB3 := HX0.out.ge hw
  have HXB3 := Lib.hid XB3
  have c3 := XB3.cell
  have f3 := XB3.frozen
  have n3 := XB3.lt
  have HR3 := Lib.hid hr
  have HC3 := Lib.hid hc
  have HE3 := Lib.hid he
  have HW3 := Lib.hid hw
  simp only [Act.put, List.setIfInBounds_toArray, List.set_cons_zero, List.set_cons_succ, er, ec, ee]
  clear hr hc he XB3 hw er ec ee
  go_wp2
  obtain ⟨W4, hW4⟩ : ∃ x, x = ((w3.setCell ⟨w.heap.size, 10, none⟩ (.slice Vr rl.length nr)).setCell ⟨w.heap.size, 11, none⟩ (.slice Vc cl.length nc)).setCell ⟨w.heap.size, 16, none⟩ (.slice Ve el.length ne) := ⟨_, rfl⟩
  have k1 := Kp.set HXB3.out (by decide) hB 10 (.slice Vr rl.length nr)
  have b1 := HXB3.out.set 10 (.slice Vr rl.length nr)
  have k2 := k1.setG b1 (by decide) hB 11 (.slice Vc cl.length nc)
  have b2 := b1.set 11 (.slice Vc cl.length nc)
  have k3 := k2.setG b2 (by decide) hB 16 (.slice Ve el.length ne)
  have b3 := b2.set 16 (.slice Ve el.length ne)
  have g4 : Ge w (((w3.setCell ⟨w.heap.size, 10, none⟩ (.slice Vr rl.length nr)).setCell ⟨w.heap.size, 11, none⟩ (.slice Vc cl.length nc)).setCell ⟨w.heap.size, 16, none⟩ (.slice Ve el.length ne)) := Below.setCell (Below.setCell (Below.setCell (GW.out.trans HW3.out) (Nat.le_refl _) _) (Nat.le_refl _) _) (Nat.le_refl _) _
  have x1 := ((((HX1.out.ge HW3.out).set_ne (b' := w.heap.size) 10 (.slice Vr rl.length nr) (by omega)).set_ne (b' := w.heap.size) 11 (.slice Vc cl.length nc) (by omega)).set_ne (b' := w.heap.size) 16 (.slice Ve el.length ne) (by omega))
  rw [← hW4] at k3 b3 g4 x1 ⊢
  clear hW4
  have HR4 := Lib.hid (HR3.out.kp k3)
  have HC4 := Lib.hid (HC3.out.kp k3)
  have HE4 := Lib.hid (HE3.out.kp k3)
  have KW := Lib.hid (((GW.out.trans HW3.out).kp B).trans k3)
  replace b3 : Bx W4 w.heap.size 45 #[.int .i64 kd, .int .i64 ve, .int .i64 p1, .int .i64 p2, .int .i64 te, .int .i64 td, .int .i64 t0, .int .i64 t1, .int .i64 t2, .int .i64 t3, .slice Vr rl.length nr, .slice Vc cl.length nc, .slice Ad dl.length cd, .slice Ap pl.length cp, .slice Am ml.length cm, .int .i64 cu, .slice Ve el.length ne, .bool ye, .int .i64 wy] := b3
  have Y0 := bx_all b3
  have HB3 := Lib.hid b3
  have HX14 := Lib.hid x1
  have G4 := Lib.hid g4
  clear k1 k2 k3 b1 b2 b3 g4 x1 c3 f3 n3
  refine Dr.wp_region_TU 14 (by kernel_rfl) (by kernel_rfl) (by decide) (by kernel_rfl) ?_
  iterate 3 (apply Dr.wpT_det; · (intro u w3 hw hF; clear hF; have k0 := Y0.out w3 hw; go_simp; first | exact ⟨Ge.refl _, rfl⟩ | exact Ge.refl _ | rfl))
  refine Dr.wpT_non (fun v wv => LAt eI B wv v dl) (fun v wa wb hg h => h.ge hg) ?_ ?_
  · intro u w3 hw hF
    clear hF
    go_simp
    refine (HD.out w3 (KW.out.trans (hw.kp B))).mono ?_
    rintro e w4 ⟨v4, rfl, ho, hg⟩
    exact ⟨_, rfl, hg, ho.lat (by decide) B⟩
  iterate 3 (apply Dr.wpT_det; · (intro u w3 hw hF; clear hF; have k0 := Y0.out w3 hw; go_simp; first | exact ⟨Ge.refl _, rfl⟩ | exact Ge.refl _ | rfl))
  refine Dr.wpT_non (fun v wv => PutAt B wv v pl) (fun v wa wb hg h => h.kp (hg.kp B)) ?_ ?_
  · intro u w3 hw hF
    clear hF
    go_simp
    refine (HP.out w3 (KW.out.trans (hw.kp B))).mono ?_
    rintro e w4 ⟨v4, rfl, ho, hg⟩
    exact ⟨_, rfl, hg, ho⟩
  iterate 3 (apply Dr.wpT_det; · (intro u w3 hw hF; clear hF; have k0 := Y0.out w3 hw; go_simp; first | exact ⟨Ge.refl _, rfl⟩ | exact Ge.refl _ | rfl))
  refine Dr.wpT_non (fun v wv => LAt eM B wv v ml) (fun v wa wb hg h => h.ge hg) ?_ ?_
  · intro u w3 hw hF
    clear hF
    go_simp
    refine (HM.out w3 (KW.out.trans (hw.kp B))).mono ?_
    rintro e w4 ⟨v4, rfl, ho, hg⟩
    exact ⟨_, rfl, hg, ho.lat (by decide) B⟩
  refine Dr.wpT_non (fun v wv => ∃ vd vp vm, v = .agg #[vd, vp, vm] ∧ LAt eI B wv vd dl ∧ PutAt B wv vp pl ∧ LAt eM B wv vm ml) (fun v wa wb hg h => by obtain ⟨a, b, c, e, x, y, z⟩ := h; exact ⟨a, b, c, e, x.ge hg, y.kp (hg.kp B), z.ge hg⟩) ?_ ?_
  · intro u w3 hw hF
    have q1 : LAt eI B w3 (u 3) dl := by simpa using hF 3 (by simp [Dr.befB, Region.binds])
    have q2 : PutAt B w3 (u 7) pl := by simpa using hF 7 (by simp [Dr.befB, Region.binds])
    have q3 : LAt eM B w3 (u 11) ml := by simpa using hF 11 (by simp [Dr.befB, Region.binds])
    obtain ⟨Vd, nd, ed⟩ := q1.form
    obtain ⟨Vp, np, ep⟩ := q2.form
    obtain ⟨Vm, nm, em⟩ := q3.form
    have Q1 := Lib.hid q1
    have Q2 := Lib.hid q2
    have Q3 := Lib.hid q3
    clear hF q1 q2 q3
    go_simp
    refine ⟨Ge.refl _, _, _, _, ⟨rfl, rfl, rfl⟩, ?_, ?_, ?_⟩
    · have := Q1.out; rw [ed] at this; exact this
    · have := Q2.out; rw [ep] at this; exact this
    · have := Q3.out; rw [em] at this; exact this
  iterate 1 (apply Dr.wpT_det; · (intro u w3 hw hF; clear hF; have k0 := Y0.out w3 hw; go_simp; first | exact ⟨Ge.refl _, rfl⟩ | exact Ge.refl _ | rfl))
  intro u w5 hw hF
  have hx : ∃ vd vp vm, u 12 = .agg #[vd, vp, vm] ∧ LAt eI B w5 vd dl ∧ PutAt B w5 vp pl ∧ LAt eM B w5 vm ml := by simpa using hF 12 (by omega)
  clear hF
  obtain ⟨vd, vp, vm, eu, hd, hp, hm⟩ := hx
  obtain ⟨Vd, nd, rfl⟩ := hd.form
  obtain ⟨Vp, np, rfl⟩ := hp.form
  obtain ⟨Vm, nm, rfl⟩ := hm.form
  have XB5 := HB3.out.ge hw
  have HXB5 := Lib.hid XB5
  have c5 := XB5.cell
  have f5 := XB5.frozen
  have n5 := XB5.lt
  have XZ5 := HX14.out.ge hw
  have HXZ5 := Lib.hid XZ5
  have cz := XZ5.cell
  have fz := XZ5.frozen
  have nz := XZ5.lt
  have HD5 := Lib.hid hd
  have HP5 := Lib.hid hp
  have HM5 := Lib.hid hm
  have HW5 := Lib.hid hw
  simp only [Act.put, List.setIfInBounds_toArray, List.set_cons_zero, List.set_cons_succ, eu]
  clear hd hp hm XB5 XZ5 hw eu
  go_upto_region 3 with (fail)
  obtain ⟨W5, hW5⟩ : ∃ x, x = ((w5.setCell ⟨w.heap.size, 12, none⟩ (.slice Vd dl.length nd)).setCell ⟨w.heap.size, 13, none⟩ (.slice Vp pl.length np)).setCell ⟨w.heap.size, 14, none⟩ (.slice Vm ml.length nm) := ⟨_, rfl⟩
  rw [← hW5]
  have k1 := Kp.sets (by decide) hB [.slice Vd dl.length nd, .slice Vp pl.length np, .slice Vm ml.length nm] 12 HXB5.out
  have y1 := HXB5.out.sets [.slice Vd dl.length nd, .slice Vp pl.length np, .slice Vm ml.length nm] 12
  have z1 := Bx.sets_ne (b' := w.heap.size) (by omega) [.slice Vd dl.length nd, .slice Vp pl.length np, .slice Vm ml.length nm] 12 HXZ5.out
  have g5 : Ge w (w5.setCells w.heap.size 12 [.slice Vd dl.length nd, .slice Vp pl.length np, .slice Vm ml.length nm]) := below_sets (Nat.le_refl _) _ _ _ (G4.out.trans HW5.out)
  replace hW5 : W5 = w5.setCells w.heap.size 12 [.slice Vd dl.length nd, .slice Vp pl.length np, .slice Vm ml.length nm] := hW5
  rw [← hW5] at k1 y1 z1 g5
  replace y1 : Bx W5 w.heap.size 45 #[.int .i64 kd, .int .i64 ve, .int .i64 p1, .int .i64 p2, .int .i64 te, .int .i64 td, .int .i64 t0, .int .i64 t1, .int .i64 t2, .int .i64 t3, .slice Vr rl.length nr, .slice Vc cl.length nc, .slice Vd dl.length nd, .slice Vp pl.length np, .slice Vm ml.length nm, .int .i64 cu, .slice Ve el.length ne, .bool ye, .int .i64 wy] := y1
  have HK1 := Lib.hid k1
  have HY1 := Lib.hid y1
  have HZ1 := Lib.hid z1
  have HG5 := Lib.hid g5
  have HTH := Lib.hid (show W5.there (w.heap.size + 1) 0 19 from z1.there)
  have HONE := Lib.hid (show (#[.int .i64 kd, .int .i64 ve, .int .i64 p1, .int .i64 p2, .int .i64 te, .int .i64 td, .int .i64 t0, .int .i64 t1, .int .i64 t2, .int .i64 t3, .slice Vr rl.length nr, .slice Vc cl.length nc, .slice Vd dl.length nd, .slice Vp pl.length np, .slice Vm ml.length nm, .int .i64 cu, .slice Ve el.length ne, .bool ye, .int .i64 wy] : Array Value).all (fun v => v.oneCell') = true by simp [Value.oneCell'])
  have i45 : (Tryd.prog.info? 45).map (·.size) = some 19 := by kernel_rfl
  have HI45 := Lib.hid i45
  clear hW5 k1 y1 z1 g5 c5 f5 n5 cz fz nz i45
  go_wp2_with (first | (refine wpList_load_row (by rfl) 45 (.tmp 1) (by rfl) w.heap.size (by rfl) 45 #[.int .i64 kd, .int .i64 ve, .int .i64 p1, .int .i64 p2, .int .i64 te, .int .i64 td, .int .i64 t0, .int .i64 t1, .int .i64 t2, .int .i64 t3, .slice Vr rl.length nr, .slice Vc cl.length nc, .slice Vd dl.length nd, .slice Vp pl.length np, .slice Vm ml.length nm, .int .i64 cu, .slice Ve el.length ne, .bool ye, .int .i64 wy] (0, 0) _ HY1.out Tryd.underlying45 rfl HI45.out ?_) | (refine wpList_store_mid (by rfl) 45 (.tmp 2) (.tmp 29) (by rfl) (w.heap.size + 1) 0 #[.int .i64 kd, .int .i64 ve, .int .i64 p1, .int .i64 p2, .int .i64 te, .int .i64 td, .int .i64 t0, .int .i64 t1, .int .i64 t2, .int .i64 t3, .slice Vr rl.length nr, .slice Vc cl.length nc, .slice Vd dl.length nd, .slice Vp pl.length np, .slice Vm ml.length nm, .int .i64 cu, .slice Ve el.length ne, .bool ye, .int .i64 wy] (by rfl) (by rfl) HTH.out HI45.out HONE.out ?_; generalize hW6 : W5.setCells (w.heap.size + 1) 0 #[.int .i64 kd, .int .i64 ve, .int .i64 p1, .int .i64 p2, .int .i64 te, .int .i64 td, .int .i64 t0, .int .i64 t1, .int .i64 t2, .int .i64 t3, .slice Vr rl.length nr, .slice Vc cl.length nc, .slice Vd dl.length nd, .slice Vp pl.length np, .slice Vm ml.length nm, .int .i64 cu, .slice Ve el.length ne, .bool ye, .int .i64 wy].toList = W6; have HW6 := Lib.hid hW6; clear hW6))
  have z2 := HZ1.out.fill #[.int .i64 kd, .int .i64 ve, .int .i64 p1, .int .i64 p2, .int .i64 te, .int .i64 td, .int .i64 t0, .int .i64 t1, .int .i64 t2, .int .i64 t3, .slice Vr rl.length nr, .slice Vc cl.length nc, .slice Vd dl.length nd, .slice Vp pl.length np, .slice Vm ml.length nm, .int .i64 cu, .slice Ve el.length ne, .bool ye, .int .i64 wy].toList rfl
  have k2 := HK1.out.trans (Kp.sets (by decide) (by omega) #[.int .i64 kd, .int .i64 ve, .int .i64 p1, .int .i64 p2, .int .i64 te, .int .i64 td, .int .i64 t0, .int .i64 t1, .int .i64 t2, .int .i64 t3, .slice Vr rl.length nr, .slice Vc cl.length nc, .slice Vd dl.length nd, .slice Vp pl.length np, .slice Vm ml.length nm, .int .i64 cu, .slice Ve el.length ne, .bool ye, .int .i64 wy].toList 0 HZ1.out)
  have g6 : Ge w (W5.setCells (w.heap.size + 1) 0 #[.int .i64 kd, .int .i64 ve, .int .i64 p1, .int .i64 p2, .int .i64 te, .int .i64 td, .int .i64 t0, .int .i64 t1, .int .i64 t2, .int .i64 t3, .slice Vr rl.length nr, .slice Vc cl.length nc, .slice Vd dl.length nd, .slice Vp pl.length np, .slice Vm ml.length nm, .int .i64 cu, .slice Ve el.length ne, .bool ye, .int .i64 wy].toList) := below_sets (by omega) _ _ _ HG5.out
  rw [HW6.out] at z2 k2 g6
  have hr := (HR4.out.ge HW5.out).kp k2
  have hc := (HC4.out.ge HW5.out).kp k2
  have he := (HE4.out.ge HW5.out).kp k2
  have hd := HD5.out.kp k2
  have hp := HP5.out.kp k2
  have hm := HM5.out.kp k2
  refine bodyPost_ret (v := .agg #[.int .i64 kd, .int .i64 ve, .int .i64 p1, .int .i64 p2, .int .i64 te, .int .i64 td, .int .i64 t0, .int .i64 t1, .int .i64 t2, .int .i64 t3, .slice Vr rl.length nr, .slice Vc cl.length nc, .slice Vd dl.length nd, .slice Vp pl.length np, .slice Vm ml.length nm, .int .i64 cu, .slice Ve el.length ne, .bool ye, .int .i64 wy]) (results_cell_row Tryd.results24 _ _ (w.heap.size + 1) 45 #[.int .i64 kd, .int .i64 ve, .int .i64 p1, .int .i64 p2, .int .i64 te, .int .i64 td, .int .i64 t0, .int .i64 t1, .int .i64 t2, .int .i64 t3, .slice Vr rl.length nr, .slice Vc cl.length nc, .slice Vd dl.length nd, .slice Vp pl.length np, .slice Vm ml.length nm, .int .i64 cu, .slice Ve el.length ne, .bool ye, .int .i64 wy] (0, 0) _ rfl z2 Tryd.underlying45 rfl HI45.out) rfl ?_
  exact ⟨⟨.slice Vr rl.length nr, .slice Vc cl.length nc, .slice Vd dl.length nd, .slice Vp pl.length np, .slice Vm ml.length nm, .slice Ve el.length ne⟩, rfl, ⟨hr, hc, hd, hp, hm, he⟩, g6⟩
end Go.Proofs.YtmhibpmgnicolaaDoor
