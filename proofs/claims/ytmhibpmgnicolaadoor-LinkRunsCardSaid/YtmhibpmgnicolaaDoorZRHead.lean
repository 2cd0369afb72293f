/-
  The reference's Clone. Printed by gen_rclone.py.
  The reference's Head. Printed by gen_rhead.py.
  What both nets answer, in one form; the reference's Head.
-/
import Derived.Test.YtmhibpmgnicolaaDoorZChain
import Derived.Test.YtmhibpmgnicolaaDoorRMSame
import Derived.Test.YtmhibpmgnicolaaDoorZRNet
import Derived.Test.YtmhibpmgnicolaaDoorZTake
namespace Go.Proofs.YtmhibpmgnicolaaDoor
open Go.RowKit

/-- 'append(nil, x...)' -/
theorem wpList_clone {α : Type} (E : Elem α) {w : World} {ops : Array Oper} {rest : List Oper} {o : Oper} {a : Act} {Q : Exit → Act → World → Prop} (hgd : o.guard = none) (x : Operand)
    (ho : o.op = .call { callee := .builtin .append, args := #[.const (.slice none 0 0), x], argTypes := #[E.S, E.S] }) {sv : Value} {ys : List α} (hx : a.eval x = sv)
    (hy : SrcAt E w sv ys) (hlen : ys.length ≤ 100000000000)
    (h : ∀ A c w', Ge w w' → OwnL E w' w.heap.size (.slice A ys.length c) ys → wpList Tryd.prog ops Q rest (a.put o.dst (.slice A ys.length c)) w') : wpList Tryd.prog ops Q (o :: rest) a w :=
  wpList_appL E hgd (.const (.slice none 0 0)) x ho (v := .slice none 0 0) rfl hx (xs := []) (World.ownsRow_nil w _ _ _) hy (by simpa using hlen) (Nat.le_refl _) (fun v' w' h1 h2 => by
    obtain ⟨A, c, rfl⟩ := h1.form
    rw [List.nil_append] at h1 ⊢
    exact h A c w' ⟨h2.os, h2.tape, h2.output, h2.size, fun b hb => h2.block b hb (by simp [Value.ownBlock])⟩ h1)

/-- one node, in a row of its own -/
theorem src_one {w : World} {b : Nat} {r : Nrw} {n : Nat} (h : Bx w b 84 (encN r).toArray) (hn : n = 1) (hq : ∃ A k c, r.ins = .slice A k c) : SrcAt eN w (.slice (some ⟨b, 0, none⟩) n n) [r] := by
  subst hn
  refine ⟨⟨some ⟨b, 0, none⟩, 1, rfl, fun _ => ⟨b, 0, rfl, fun j x hj i u hu => ?_⟩⟩, fun x hx u hu => ?_⟩
  · rcases j with _ | j
    · simp at hj
      subst hj
      rw [h.cell]
      replace hu : (encN r)[i]? = some u := hu
      simpa using hu
    · simp at hj
  · simp at hx
    subst hx
    obtain ⟨A, k, c, e⟩ := hq
    simp only [eN, encN, List.mem_cons, List.not_mem_nil, or_false] at hu
    rcases hu with rfl | rfl | rfl | rfl | rfl | rfl | rfl | rfl | rfl
    all_goals first | rfl | (rw [e]; rfl)
theorem own_low {α : Type} {E : Elem α} {w : World} {base b k : Nat} {v u : Value} {xs : List α} (h : OwnL E w base v xs) (hb : b < base) : OwnL E (w.setCell ⟨b, k, none⟩ u) base v xs := by
  refine ⟨h.1, ?_⟩
  rcases h.2 with h2 | ⟨g, cap, cur, hv, hg, hh, r⟩
  · exact Or.inl h2
  · exact Or.inr ⟨g, cap, cur, hv, hg, (Below.heap_setCell _ _ _ g (by show g ≠ b; omega)).trans hh, r⟩
theorem wpList_store_msgK {ops : Array Oper} {rest : List Oper} {o : Oper} {a : Act} {w : World} {Q : Exit → Act → World → Prop} (hgd : o.guard = none) (x y : Operand) (ho : o.op = .store 45 x y) (b : Nat) (cells : Array Value) (hx : a.eval x = .pointer (some ⟨b, 0, none⟩)) (hy : a.eval y = .agg cells)
    {cs0 : Array Value} (hb : Bx w b 45 cs0) (h0 : cs0.size = 19) (hs : cells.size = 19) (h1 : ∀ u ∈ cells.toList, u.oneCell' = true) {w0 : World} (hB : w0.heap.size ≤ b) (hg : Ge w0 w) {B : Nat} (hBb : B ≤ b)
    (h : ∀ w', Bx w' b 45 cells → Ge w0 w' → Kp B w w' → wpList Tryd.prog ops Q rest (a.put o.dst undef) w') : wpList Tryd.prog ops Q (o :: rest) a w := by
  obtain ⟨s1, s2, s3⟩ := stored hb h0 hs hB hg
  exact wpList_store_mid hgd 45 x y ho b 0 cells hx hy (by rw [hs, ← h0]; exact hb.there) (i45s hs) (Array.all_eq_true_iff_forall_mem.2 (fun v hv => h1 v (by simpa using hv))) (h _ s1 s2 (Kp.sets (by decide) hBb _ _ hb))
def SameN (r : Nrw) (n : Nod) : Prop := r.id = n.id ∧ r.kind = n.kind ∧ r.fn = n.fn ∧ r.name = n.name ∧ r.cap = n.cap ∧ r.d = n.d

set_option maxRecDepth 100000 in
set_option maxHeartbeats 16000000 in
theorem rclone_any {B : Nat} {w : World} {s : Sls} {m : Msg} (h : SlAt B w s m) (hs : Small m) (hB : B ≤ w.heap.size) :
    Calls Tryd.prog 33 #[.agg (encG m s).toArray] w fun e w' => ∃ s', e = .returned (.agg (encG m s').toArray) ∧ SlAt B w' s' m ∧ Ge w w' := by
  obtain ⟨kd, ve, p1, p2, ⟨te, td, t0, t1, t2, t3⟩, rl, cl, dl, pl, ml, cu, el, ye, wy⟩ := m
  obtain ⟨sr, sc, sd, sp, sm, se⟩ := s
  obtain ⟨h1, h2, h3, h4, h5, h6⟩ := h
  obtain ⟨l1, l2, l3, l4, l4n, l5, l6⟩ := hs
  dsimp only at h1 h2 h3 h4 h5 h6 l1 l2 l3 l4 l4n l5 l6
  obtain ⟨rs, hrs, hlen, hnod⟩ := h4
  obtain ⟨Ar, cr, rfl⟩ := h1.form
  obtain ⟨Ac, cc, rfl⟩ := h2.form
  obtain ⟨Ad, cd, rfl⟩ := h3.form
  obtain ⟨Ap, cp, rfl, _, hcp⟩ := hrs
  obtain ⟨Am, cm, rfl⟩ := h5.form
  obtain ⟨Ae, ce, rfl⟩ := h6.form
  rw [hlen]
  have HR := Lib.hid (fun w' (g : Ge w w') => (h1.ge g).src (fun x _ => one_R x))
  have HC := Lib.hid (fun w' (g : Ge w w') => (h2.ge g).src (fun x _ => one_C x))
  have HE := Lib.hid (fun w' (g : Ge w w') => (h6.ge g).src (fun x _ => one_E x))
  have HI := Lib.hid (fun w' (g : Ge w w') => (h3.ge g).src (fun x _ => one_I x))
  have HM := Lib.hid (fun w' (g : Ge w w') => (h5.ge g).src (fun x _ => one_M x))
  have L1 := Lib.hid l1
  have L2 := Lib.hid l2
  have L3 := Lib.hid l3
  have L4N := Lib.hid l4n
  have L5 := Lib.hid l5
  have L6 := Lib.hid l6
  have HCP := Lib.hid hcp
  have HNOD := Lib.hid hnod
  have HLEN := Lib.hid hlen
  clear h1 h2 h3 h5 h6 l1 l2 l3 l4n l5 l6 hcp hnod hlen
  simp only [encG]
  obtain ⟨W0, hW0⟩ : ∃ x, x = (w.alloc (.cells #[.int .i64 kd, .int .i64 ve, .int .i64 p1, .int .i64 p2, .int .i64 te, .int .i64 td, .int .i64 t0, .int .i64 t1, .int .i64 t2, .int .i64 t3, .slice Ar rl.length cr, .slice Ac cl.length cc, .slice Ad dl.length cd, .slice Ap pl.length cp, .slice Am ml.length cm, .int .i64 cu, .slice Ae el.length ce, .bool ye, .int .i64 wy] 45)).alloc (.cells #[.int .i64 0, .int .i64 0, .int .i64 0, .int .i64 0, .int .i64 0, .int .i64 0, .int .i64 0, .int .i64 0, .int .i64 0, .int .i64 0, .slice none 0 0, .slice none 0 0, .slice none 0 0, .slice none 0 0, .slice none 0 0, .int .i64 0, .slice none 0 0, .bool false, .int .i64 0] 45) := ⟨_, rfl⟩
  have HX0 := Lib.hid (show Bx W0 w.heap.size 45 #[.int .i64 kd, .int .i64 ve, .int .i64 p1, .int .i64 p2, .int .i64 te, .int .i64 td, .int .i64 t0, .int .i64 t1, .int .i64 t2, .int .i64 t3, .slice Ar rl.length cr, .slice Ac cl.length cc, .slice Ad dl.length cd, .slice Ap pl.length cp, .slice Am ml.length cm, .int .i64 cu, .slice Ae el.length ce, .bool ye, .int .i64 wy] by rw [hW0]; exact (Bx.new w 45 _ rfl).alloc _)
  have HX1 := Lib.hid (show Bx W0 (w.heap.size + 1) 45 #[.int .i64 0, .int .i64 0, .int .i64 0, .int .i64 0, .int .i64 0, .int .i64 0, .int .i64 0, .int .i64 0, .int .i64 0, .int .i64 0, .slice none 0 0, .slice none 0 0, .slice none 0 0, .slice none 0 0, .slice none 0 0, .int .i64 0, .slice none 0 0, .bool false, .int .i64 0] by rw [hW0]; exact Bx.new _ 45 _ (by simp))
  have HG := Lib.hid (show Ge w W0 by rw [hW0]; exact ((Ge.refl w).alloc _).alloc _)
  have HBB := Lib.hid hB
  clear hB
  go_enter Tryd.func33, Tryd.ntmps33
  go_upto_region 1 with (fail)
  rw [← hW0]
  clear hW0
  have c0 := HX0.out.cell
  have n0 := HX0.out.lt
  go_upto_region 2 with (refine wpList_clone eR (by rfl) (.tmp 7) (by rfl) (by rfl) (HR.out W0 HG.out) (Nat.le_trans L1.out (by decide)) ?_; intro A1 k1 v1 g3 l3; have HLN := Lib.hid l3; have HG3 := Lib.hid g3; clear g3 l3 c0 n0; have c1 := (HX0.out.ge HG3.out).cell; have f1 := (HX0.out.ge HG3.out).frozen; have n1 := (HX0.out.ge HG3.out).lt)
  obtain ⟨W1, hW⟩ : ∃ x, x = v1.setCell ⟨w.heap.size, 10, none⟩ (.slice A1 rl.length k1) := ⟨_, rfl⟩
  rw [← hW]
  have kp := Kp.set (B := B) (HX0.out.ge HG3.out) (by decide) HBB.out 10 (.slice A1 rl.length k1)
  have b0 : Bx W1 w.heap.size 45 #[.int .i64 kd, .int .i64 ve, .int .i64 p1, .int .i64 p2, .int .i64 te, .int .i64 td, .int .i64 t0, .int .i64 t1, .int .i64 t2, .int .i64 t3, .slice A1 rl.length k1, .slice Ac cl.length cc, .slice Ad dl.length cd, .slice Ap pl.length cp, .slice Am ml.length cm, .int .i64 cu, .slice Ae el.length ce, .bool ye, .int .i64 wy] := by rw [hW]; exact (HX0.out.ge HG3.out).set 10 _
  have b1 : Bx W1 (w.heap.size + 1) 45 #[.int .i64 0, .int .i64 0, .int .i64 0, .int .i64 0, .int .i64 0, .int .i64 0, .int .i64 0, .int .i64 0, .int .i64 0, .int .i64 0, .slice none 0 0, .slice none 0 0, .slice none 0 0, .slice none 0 0, .slice none 0 0, .int .i64 0, .slice none 0 0, .bool false, .int .i64 0] := by rw [hW]; exact (HX1.out.ge HG3.out).set_ne _ _ (by omega)
  have g' : Ge w W1 := by rw [hW]; exact Below.setCell (HG.out.trans HG3.out) (Nat.le_refl _) _
  rw [← hW] at kp
  have HL1 := Lib.hid (show LAt eR B W1 (.slice A1 rl.length k1) rl from (HLN.out.lat (by decide) B).kp kp)
  replace HX0 := Lib.hid b0
  replace HX1 := Lib.hid b1
  replace HG := Lib.hid g'
  clear hW kp b0 b1 g' c1 f1 n1 HG3 HLN
  have c0 := HX0.out.cell
  have n0 := HX0.out.lt
  go_upto_region 3 with (refine wpList_clone eC (by rfl) (.tmp 11) (by rfl) (by rfl) (HC.out W1 HG.out) (Nat.le_trans L2.out (by decide)) ?_; intro A2 k2 v2 g3 l3; have HLN := Lib.hid l3; have HG3 := Lib.hid g3; clear g3 l3 c0 n0; have c1 := (HX0.out.ge HG3.out).cell; have f1 := (HX0.out.ge HG3.out).frozen; have n1 := (HX0.out.ge HG3.out).lt)
  obtain ⟨W2, hW⟩ : ∃ x, x = v2.setCell ⟨w.heap.size, 11, none⟩ (.slice A2 cl.length k2) := ⟨_, rfl⟩
  rw [← hW]
  have kp := Kp.set (B := B) (HX0.out.ge HG3.out) (by decide) HBB.out 11 (.slice A2 cl.length k2)
  have b0 : Bx W2 w.heap.size 45 #[.int .i64 kd, .int .i64 ve, .int .i64 p1, .int .i64 p2, .int .i64 te, .int .i64 td, .int .i64 t0, .int .i64 t1, .int .i64 t2, .int .i64 t3, .slice A1 rl.length k1, .slice A2 cl.length k2, .slice Ad dl.length cd, .slice Ap pl.length cp, .slice Am ml.length cm, .int .i64 cu, .slice Ae el.length ce, .bool ye, .int .i64 wy] := by rw [hW]; exact (HX0.out.ge HG3.out).set 11 _
  have b1 : Bx W2 (w.heap.size + 1) 45 #[.int .i64 0, .int .i64 0, .int .i64 0, .int .i64 0, .int .i64 0, .int .i64 0, .int .i64 0, .int .i64 0, .int .i64 0, .int .i64 0, .slice none 0 0, .slice none 0 0, .slice none 0 0, .slice none 0 0, .slice none 0 0, .int .i64 0, .slice none 0 0, .bool false, .int .i64 0] := by rw [hW]; exact (HX1.out.ge HG3.out).set_ne _ _ (by omega)
  have g' : Ge w W2 := by rw [hW]; exact Below.setCell (HG.out.trans HG3.out) (Nat.le_refl _) _
  rw [← hW] at kp
  replace HL1 := Lib.hid ((HL1.out.ge HG3.out).kp kp)
  have HL2 := Lib.hid (show LAt eC B W2 (.slice A2 cl.length k2) cl from (HLN.out.lat (by decide) B).kp kp)
  replace HX0 := Lib.hid b0
  replace HX1 := Lib.hid b1
  replace HG := Lib.hid g'
  clear hW kp b0 b1 g' c1 f1 n1 HG3 HLN
  have c0 := HX0.out.cell
  have n0 := HX0.out.lt
  go_upto_region 4 with (refine wpList_clone eE (by rfl) (.tmp 15) (by rfl) (by rfl) (HE.out W2 HG.out) (Nat.le_trans L6.out (by decide)) ?_; intro A3 k3 v3 g3 l3; have HLN := Lib.hid l3; have HG3 := Lib.hid g3; clear g3 l3 c0 n0; have c1 := (HX0.out.ge HG3.out).cell; have f1 := (HX0.out.ge HG3.out).frozen; have n1 := (HX0.out.ge HG3.out).lt)
  obtain ⟨W3, hW⟩ : ∃ x, x = v3.setCell ⟨w.heap.size, 16, none⟩ (.slice A3 el.length k3) := ⟨_, rfl⟩
  rw [← hW]
  have kp := Kp.set (B := B) (HX0.out.ge HG3.out) (by decide) HBB.out 16 (.slice A3 el.length k3)
  have b0 : Bx W3 w.heap.size 45 #[.int .i64 kd, .int .i64 ve, .int .i64 p1, .int .i64 p2, .int .i64 te, .int .i64 td, .int .i64 t0, .int .i64 t1, .int .i64 t2, .int .i64 t3, .slice A1 rl.length k1, .slice A2 cl.length k2, .slice Ad dl.length cd, .slice Ap pl.length cp, .slice Am ml.length cm, .int .i64 cu, .slice A3 el.length k3, .bool ye, .int .i64 wy] := by rw [hW]; exact (HX0.out.ge HG3.out).set 16 _
  have b1 : Bx W3 (w.heap.size + 1) 45 #[.int .i64 0, .int .i64 0, .int .i64 0, .int .i64 0, .int .i64 0, .int .i64 0, .int .i64 0, .int .i64 0, .int .i64 0, .int .i64 0, .slice none 0 0, .slice none 0 0, .slice none 0 0, .slice none 0 0, .slice none 0 0, .int .i64 0, .slice none 0 0, .bool false, .int .i64 0] := by rw [hW]; exact (HX1.out.ge HG3.out).set_ne _ _ (by omega)
  have g' : Ge w W3 := by rw [hW]; exact Below.setCell (HG.out.trans HG3.out) (Nat.le_refl _) _
  rw [← hW] at kp
  replace HL1 := Lib.hid ((HL1.out.ge HG3.out).kp kp)
  replace HL2 := Lib.hid ((HL2.out.ge HG3.out).kp kp)
  have HL3 := Lib.hid (show LAt eE B W3 (.slice A3 el.length k3) el from (HLN.out.lat (by decide) B).kp kp)
  replace HX0 := Lib.hid b0
  replace HX1 := Lib.hid b1
  replace HG := Lib.hid g'
  clear hW kp b0 b1 g' c1 f1 n1 HG3 HLN
  have c0 := HX0.out.cell
  have n0 := HX0.out.lt
  go_upto_region 5 with (refine wpList_clone eI (by rfl) (.tmp 20) (by rfl) (by rfl) (HI.out W3 HG.out) (Nat.le_trans L3.out (by decide)) ?_; intro A4 k4 v4 g3 l3; have HLN := Lib.hid l3; have HG3 := Lib.hid g3; clear g3 l3 c0 n0; have c1 := (HX0.out.ge HG3.out).cell; have f1 := (HX0.out.ge HG3.out).frozen; have n1 := (HX0.out.ge HG3.out).lt)
  obtain ⟨W4, hW⟩ : ∃ x, x = v4.setCell ⟨w.heap.size, 12, none⟩ (.slice A4 dl.length k4) := ⟨_, rfl⟩
  rw [← hW]
  have kp := Kp.set (B := B) (HX0.out.ge HG3.out) (by decide) HBB.out 12 (.slice A4 dl.length k4)
  have b0 : Bx W4 w.heap.size 45 #[.int .i64 kd, .int .i64 ve, .int .i64 p1, .int .i64 p2, .int .i64 te, .int .i64 td, .int .i64 t0, .int .i64 t1, .int .i64 t2, .int .i64 t3, .slice A1 rl.length k1, .slice A2 cl.length k2, .slice A4 dl.length k4, .slice Ap pl.length cp, .slice Am ml.length cm, .int .i64 cu, .slice A3 el.length k3, .bool ye, .int .i64 wy] := by rw [hW]; exact (HX0.out.ge HG3.out).set 12 _
  have b1 : Bx W4 (w.heap.size + 1) 45 #[.int .i64 0, .int .i64 0, .int .i64 0, .int .i64 0, .int .i64 0, .int .i64 0, .int .i64 0, .int .i64 0, .int .i64 0, .int .i64 0, .slice none 0 0, .slice none 0 0, .slice none 0 0, .slice none 0 0, .slice none 0 0, .int .i64 0, .slice none 0 0, .bool false, .int .i64 0] := by rw [hW]; exact (HX1.out.ge HG3.out).set_ne _ _ (by omega)
  have g' : Ge w W4 := by rw [hW]; exact Below.setCell (HG.out.trans HG3.out) (Nat.le_refl _) _
  rw [← hW] at kp
  replace HL1 := Lib.hid ((HL1.out.ge HG3.out).kp kp)
  replace HL2 := Lib.hid ((HL2.out.ge HG3.out).kp kp)
  replace HL3 := Lib.hid ((HL3.out.ge HG3.out).kp kp)
  have HL4 := Lib.hid (show LAt eI B W4 (.slice A4 dl.length k4) dl from (HLN.out.lat (by decide) B).kp kp)
  replace HX0 := Lib.hid b0
  replace HX1 := Lib.hid b1
  replace HG := Lib.hid g'
  clear hW kp b0 b1 g' c1 f1 n1 HG3 HLN
  have c0 := HX0.out.cell
  have n0 := HX0.out.lt
  go_upto_region 6 with (refine wpList_clone eM (by rfl) (.tmp 26) (by rfl) (by rfl) (HM.out W4 HG.out) (Nat.le_trans L5.out (by decide)) ?_; intro A5 k5 v5 g3 l3; have HLN := Lib.hid l3; have HG3 := Lib.hid g3; clear g3 l3 c0 n0; have c1 := (HX0.out.ge HG3.out).cell; have f1 := (HX0.out.ge HG3.out).frozen; have n1 := (HX0.out.ge HG3.out).lt)
  obtain ⟨W5, hW⟩ : ∃ x, x = v5.setCell ⟨w.heap.size, 14, none⟩ (.slice A5 ml.length k5) := ⟨_, rfl⟩
  rw [← hW]
  have kp := Kp.set (B := B) (HX0.out.ge HG3.out) (by decide) HBB.out 14 (.slice A5 ml.length k5)
  have b0 : Bx W5 w.heap.size 45 #[.int .i64 kd, .int .i64 ve, .int .i64 p1, .int .i64 p2, .int .i64 te, .int .i64 td, .int .i64 t0, .int .i64 t1, .int .i64 t2, .int .i64 t3, .slice A1 rl.length k1, .slice A2 cl.length k2, .slice A4 dl.length k4, .slice Ap pl.length cp, .slice A5 ml.length k5, .int .i64 cu, .slice A3 el.length k3, .bool ye, .int .i64 wy] := by rw [hW]; exact (HX0.out.ge HG3.out).set 14 _
  have b1 : Bx W5 (w.heap.size + 1) 45 #[.int .i64 0, .int .i64 0, .int .i64 0, .int .i64 0, .int .i64 0, .int .i64 0, .int .i64 0, .int .i64 0, .int .i64 0, .int .i64 0, .slice none 0 0, .slice none 0 0, .slice none 0 0, .slice none 0 0, .slice none 0 0, .int .i64 0, .slice none 0 0, .bool false, .int .i64 0] := by rw [hW]; exact (HX1.out.ge HG3.out).set_ne _ _ (by omega)
  have g' : Ge w W5 := by rw [hW]; exact Below.setCell (HG.out.trans HG3.out) (Nat.le_refl _) _
  rw [← hW] at kp
  replace HL1 := Lib.hid ((HL1.out.ge HG3.out).kp kp)
  replace HL2 := Lib.hid ((HL2.out.ge HG3.out).kp kp)
  replace HL3 := Lib.hid ((HL3.out.ge HG3.out).kp kp)
  replace HL4 := Lib.hid ((HL4.out.ge HG3.out).kp kp)
  have HL5 := Lib.hid (show LAt eM B W5 (.slice A5 ml.length k5) ml from (HLN.out.lat (by decide) B).kp kp)
  replace HX0 := Lib.hid b0
  replace HX1 := Lib.hid b1
  replace HG := Lib.hid g'
  clear hW kp b0 b1 g' c1 f1 n1 HG3 HLN
  go_upto_region 8 with (fail)
  go_loopw [3, 4] (fun s3 i wr => ∃ (k : Nat) (xs : List Nrw), k ≤ pl.length ∧ i = .int .i64 (k : Int) ∧ OwnL eN wr W5.heap.size s3 xs ∧ xs.length = k ∧ (∀ (j : Nat) (r : Nrw) (n : Nod), xs[j]? = some r → pl[j]? = some n → SameN r n ∧ OwnI1 wr r.ins n.ins) ∧ Ge W5 wr) (fun _ i _ => pl.length - (intOf i).toNat)
  case atStart => exact ⟨0, [], by omega, rfl, World.ownsRow_nil W5 _ _ _, rfl, fun j r n h => by simp at h, Ge.refl _⟩
  case round =>
    obtain ⟨k, xs, hk, rfl, ho, hxl, hxs, hgw⟩ := hrel
    have HO := Lib.hid ho
    have HXL := Lib.hid hxl
    have HXS := Lib.hid hxs
    have HGW := Lib.hid hgw
    have HGG := Lib.hid (HG.out.trans hgw)
    have c0 := (HX0.out.ge hgw).cell
    have n0 := (HX0.out.ge hgw).lt
    clear ho hxl hxs hgw
    by_cases hlt : k < pl.length
    · obtain ⟨b, off, rfl, hb, hcell⟩ := HCP.out (fun e => by have := HLEN.out; rw [e] at this; simp at this; omega)
      obtain ⟨r, hr⟩ : ∃ r, rs[k]? = some r := ⟨_, List.getElem?_eq_getElem (by have := HLEN.out; omega)⟩
      obtain ⟨n, hn⟩ : ∃ n, pl[k]? = some n := ⟨_, List.getElem?_eq_getElem hlt⟩
      have hnd := HNOD.out k r n hr hn
      obtain ⟨Aq, cq, hins⟩ := hnd.2.2.2.2.2.2.form
      have HSI := Lib.hid (fun w' (g : Ge w w') => (hnd.2.2.2.2.2.2.ge g).src (fun x _ => one_I x))
      have HSN := Lib.hid (show SameN r n from ⟨hnd.1, hnd.2.1, hnd.2.2.1, hnd.2.2.2.1, hnd.2.2.2.2.1, hnd.2.2.2.2.2.1⟩)
      have HLI := Lib.hid (L4N.out n (List.mem_of_getElem? hn))
      have HNN := Lib.hid hn
      have HRR := Lib.hid (fun i u h => ((HGG.out.kp B).cell hb _).trans (hcell k r hr i u h))
      obtain ⟨xi, xk, xin, ⟨xf1, xf2, xf3⟩, xnm, xcp, xd⟩ := r
      dsimp only at hins
      subst hins
      have x0 := HRR.out 0 _ rfl
      have x1 := HRR.out 1 _ rfl
      have x2 := HRR.out 2 _ rfl
      have x3 := HRR.out 3 _ rfl
      have x4 := HRR.out 4 _ rfl
      have x5 := HRR.out 5 _ rfl
      have x6 := HRR.out 6 _ rfl
      have x7 := HRR.out 7 _ rfl
      have x8 := HRR.out 8 _ rfl
      simp only [eN, Nat.add_zero] at x0 x1 x2 x3 x4 x5 x6 x7 x8
      have hlb : b < wr.heap.size := Nat.lt_of_lt_of_le hb.1 HGG.out.size
      have i1 : (0 : Int) ≤ (k : Int) := by omega
      have i2 : (k : Int) < (pl.length : Int) := by omega
      clear hcell hr hn hnd hb HRR
      go_upto_region 12 with (refine wpList_clone eI (by rfl) (.tmp 45) (by rfl) (by rfl) (HSI.out _ (HGG.out.trans ((Ge.refl _).alloc _))) (Nat.le_trans HLI.out (by decide)) ?_; intro A9 k9 w9 g9 l9; have HI9 := Lib.hid l9; have HG9 := Lib.hid g9; have HB9 := Lib.hid ((Bx.new wr 84 _ rfl).ge g9); clear g9 l9 c0 n0 x0 x1 x2 x3 x4 x5 x6 x7 x8; have c1 := HB9.out.cell; have f1 := HB9.out.frozen; have n1 := HB9.out.lt)
      obtain ⟨W7, hW⟩ : ∃ x, x = w9.setCell ⟨wr.heap.size, 2, none⟩ (.slice A9 n.ins.length k9) := ⟨_, rfl⟩
      rw [← hW]
      have hB7 : Bx W7 wr.heap.size 84 #[.int .i64 xi, .int .i64 xk, .slice A9 n.ins.length k9, .int .i64 xf1, .int .i64 xf2, .string xf3, .string xnm, .int .i64 xcp, .int .i64 xd] := by rw [hW]; exact HB9.out.set 2 _
      have hG7 : Ge wr W7 := by rw [hW]; exact Below.setCell (((Ge.refl wr).alloc _).trans HG9.out) (Nat.le_refl _) _
      have hI7 : OwnI1 W7 (.slice A9 n.ins.length k9) n.ins := by rw [hW]; exact ⟨_, own_low HI9.out (by simp)⟩
      have HG7 := Lib.hid hG7
      have HI7 := Lib.hid hI7
      have HO7 := Lib.hid (HO.out.ge hG7)
      have HB7 := Lib.hid hB7
      clear hW hB7 hG7 hI7 c1 f1 n1
      have c7 := HB7.out.cell
      have n7 := HB7.out.lt
      go_wp2_with (refine wpList_appL eN (by rfl) (.tmp 48) (.tmp 50) (by rfl) (by rfl) (by rfl) (HO7.out.ge ((Ge.refl _).alloc _)) (src_one (r := ⟨xi, xk, .slice A9 n.ins.length k9, ⟨xf1, xf2, xf3⟩, xnm, xcp, xd⟩) (Bx.new W7 84 _ rfl) rfl ⟨_, _, _, rfl⟩) (by have := HXL.out; simp; omega) (Nat.le_trans HGW.out.size (Nat.le_trans HG7.out.size ((Ge.refl W7).alloc _).size)) ?_; intro v10 w10 o10 g10; have HO10 := Lib.hid o10; have HG10 := Lib.hid g10; clear o10 g10)
      go_roundw
      case rel =>
        have hr := HO7.out.ge ((Ge.refl W7).alloc (.cells #[.int .i64 xi, .int .i64 xk, .slice A9 n.ins.length k9, .int .i64 xf1, .int .i64 xf2, .string xf3, .string xnm, .int .i64 xcp, .int .i64 xd] 84))
        have hgx := ((HG7.out).trans ((Ge.refl W7).alloc (.cells #[.int .i64 xi, .int .i64 xk, .slice A9 n.ins.length k9, .int .i64 xf1, .int .i64 xf2, .string xf3, .string xnm, .int .i64 xcp, .int .i64 xd] 84)))
        refine ⟨k + 1, xs ++ [⟨xi, xk, .slice A9 n.ins.length k9, ⟨xf1, xf2, xf3⟩, xnm, xcp, xd⟩], by omega, by go_num, HO10.out, by simp [HXL.out], fun j r n' hj hn' => ?_, ge_own (HGW.out.trans hgx) hr (Nat.le_refl _) HG10.out⟩
        rcases Nat.lt_or_ge j xs.length with hjl | hjl
        · rw [List.getElem?_append_left hjl] at hj
          obtain ⟨q1, q2⟩ := HXS.out j r n' hj hn'
          exact ⟨q1, (q2.ge hgx).grown hr HG10.out⟩
        · rw [List.getElem?_append_right hjl] at hj
          have hj0 : j - xs.length = 0 := by
            have := (List.getElem?_eq_some_iff.1 hj).1
            simp at this
            omega
          have hjk : j = k := by have := HXL.out; omega
          rw [hj0] at hj
          simp at hj
          subst hj
          subst hjk
          have := HNN.out
          rw [hn'] at this
          cases this
          exact ⟨HSN.out, (HI7.out.ge ((Ge.refl W7).alloc _)).grown hr HG10.out⟩
      case measure => simp [intOf]; omega
    · obtain rfl : k = pl.length := by omega
      have ho := HO.out
      have hxl := HXL.out
      obtain ⟨A6, k6, e6⟩ := ho.form
      rw [hxl] at e6
      subst e6
      have HP := Lib.hid (show PutAt B wr (.slice A6 pl.length k6) pl from ⟨xs, ho.lat (by decide) B, hxl, fun j r n hj hn => by
        obtain ⟨⟨a1, a2, a3, a4, a5, a6⟩, q⟩ := HXS.out j r n hj hn
        exact ⟨a1, a2, a3, a4, a5, a6, q.lat B⟩⟩)
      have f0 := (HX0.out.ge HGW.out).frozen
      have hdm : decide ((pl.length : Int) < (pl.length : Int)) = false := by simp
      clear ho hxl hlt
      go_upto_region 14 with (fail)
      obtain ⟨W8, hW⟩ : ∃ x, x = wr.setCell ⟨w.heap.size, 13, none⟩ (.slice A6 pl.length k6) := ⟨_, rfl⟩
      rw [← hW]
      have kp := Kp.set (B := B) (HX0.out.ge HGW.out) (by decide) HBB.out 13 (.slice A6 pl.length k6)
      have b0 : Bx W8 w.heap.size 45 #[.int .i64 kd, .int .i64 ve, .int .i64 p1, .int .i64 p2, .int .i64 te, .int .i64 td, .int .i64 t0, .int .i64 t1, .int .i64 t2, .int .i64 t3, .slice A1 rl.length k1, .slice A2 cl.length k2, .slice A4 dl.length k4, .slice A6 pl.length k6, .slice A5 ml.length k5, .int .i64 cu, .slice A3 el.length k3, .bool ye, .int .i64 wy] := by rw [hW]; exact (HX0.out.ge HGW.out).set 13 _
      have b1 : Bx W8 (w.heap.size + 1) 45 #[.int .i64 0, .int .i64 0, .int .i64 0, .int .i64 0, .int .i64 0, .int .i64 0, .int .i64 0, .int .i64 0, .int .i64 0, .int .i64 0, .slice none 0 0, .slice none 0 0, .slice none 0 0, .slice none 0 0, .slice none 0 0, .int .i64 0, .slice none 0 0, .bool false, .int .i64 0] := by rw [hW]; exact (HX1.out.ge HGW.out).set_ne _ _ (by omega)
      have g' : Ge w W8 := by rw [hW]; exact Below.setCell HGG.out (Nat.le_refl _) _
      rw [← hW] at kp
      have HS8 := Lib.hid (show SlAt B W8 ⟨.slice A1 rl.length k1, .slice A2 cl.length k2, .slice A4 dl.length k4, .slice A6 pl.length k6, .slice A5 ml.length k5, .slice A3 el.length k3⟩ ⟨kd, ve, p1, p2, ⟨te, td, t0, t1, t2, t3⟩, rl, cl, dl, pl, ml, cu, el, ye, wy⟩ from
        ⟨(HL1.out.ge HGW.out).kp kp, (HL2.out.ge HGW.out).kp kp, (HL4.out.ge HGW.out).kp kp, HP.out.kp kp, (HL5.out.ge HGW.out).kp kp, (HL3.out.ge HGW.out).kp kp⟩)
      have HB8 := Lib.hid b0
      have HZ8 := Lib.hid b1
      have HG8 := Lib.hid g'
      have HONE := Lib.hid (show ∀ u ∈ (#[.int .i64 kd, .int .i64 ve, .int .i64 p1, .int .i64 p2, .int .i64 te, .int .i64 td, .int .i64 t0, .int .i64 t1, .int .i64 t2, .int .i64 t3, .slice A1 rl.length k1, .slice A2 cl.length k2, .slice A4 dl.length k4, .slice A6 pl.length k6, .slice A5 ml.length k5, .int .i64 cu, .slice A3 el.length k3, .bool ye, .int .i64 wy] : Array Value).toList, u.oneCell' = true from fun u hu => encG_one HS8.out u (by simpa [encG] using hu))
      have HSZ := Lib.hid (show (#[.int .i64 kd, .int .i64 ve, .int .i64 p1, .int .i64 p2, .int .i64 te, .int .i64 td, .int .i64 t0, .int .i64 t1, .int .i64 t2, .int .i64 t3, .slice A1 rl.length k1, .slice A2 cl.length k2, .slice A4 dl.length k4, .slice A6 pl.length k6, .slice A5 ml.length k5, .int .i64 cu, .slice A3 el.length k3, .bool ye, .int .i64 wy] : Array Value).size = 19 from rfl)
      have HI := Lib.hid i45
      have HBB1 := Lib.hid (show B ≤ w.heap.size + 1 by have := HBB.out; omega)
      clear hW kp b0 b1 g' c0 n0 f0 hdm
      go_wp2_with (first | (refine wpList_load_rowG (by go_simp) (.tmp 1) (by rfl) w.heap.size (by rfl) #[.int .i64 kd, .int .i64 ve, .int .i64 p1, .int .i64 p2, .int .i64 te, .int .i64 td, .int .i64 t0, .int .i64 t1, .int .i64 t2, .int .i64 t3, .slice A1 rl.length k1, .slice A2 cl.length k2, .slice A4 dl.length k4, .slice A6 pl.length k6, .slice A5 ml.length k5, .int .i64 cu, .slice A3 el.length k3, .bool ye, .int .i64 wy] HB8.out HSZ.out ?_) | (refine wpList_store_msgK (by rfl) (.tmp 2) (.tmp 55) (by rfl) (w.heap.size + 1) #[.int .i64 kd, .int .i64 ve, .int .i64 p1, .int .i64 p2, .int .i64 te, .int .i64 td, .int .i64 t0, .int .i64 t1, .int .i64 t2, .int .i64 t3, .slice A1 rl.length k1, .slice A2 cl.length k2, .slice A4 dl.length k4, .slice A6 pl.length k6, .slice A5 ml.length k5, .int .i64 cu, .slice A3 el.length k3, .bool ye, .int .i64 wy] (by rfl) (by rfl) HZ8.out rfl HSZ.out HONE.out (w0 := w) (Nat.le_succ _) HG8.out HBB1.out ?_; intro w9 x9 g9 k9; have HX9 := Lib.hid x9; have HG9 := Lib.hid g9; have HK9 := Lib.hid k9; clear x9 g9 k9))
      refine bodyPost_ret (v := .agg #[.int .i64 kd, .int .i64 ve, .int .i64 p1, .int .i64 p2, .int .i64 te, .int .i64 td, .int .i64 t0, .int .i64 t1, .int .i64 t2, .int .i64 t3, .slice A1 rl.length k1, .slice A2 cl.length k2, .slice A4 dl.length k4, .slice A6 pl.length k6, .slice A5 ml.length k5, .int .i64 cu, .slice A3 el.length k3, .bool ye, .int .i64 wy]) (results_cell_row Tryd.results33 _ _ (w.heap.size + 1) 45 #[.int .i64 kd, .int .i64 ve, .int .i64 p1, .int .i64 p2, .int .i64 te, .int .i64 td, .int .i64 t0, .int .i64 t1, .int .i64 t2, .int .i64 t3, .slice A1 rl.length k1, .slice A2 cl.length k2, .slice A4 dl.length k4, .slice A6 pl.length k6, .slice A5 ml.length k5, .int .i64 cu, .slice A3 el.length k3, .bool ye, .int .i64 wy] (0, 0) _ rfl HX9.out Tryd.underlying45 rfl HI.out) rfl ?_
      exact ⟨_, rfl, HS8.out.kp HK9.out, HG9.out⟩
end Go.Proofs.YtmhibpmgnicolaaDoor

namespace Go.Proofs.YtmhibpmgnicolaaDoor
open Go.RowKit

variable {B : Nat} {w w' : World} {p qL qG qT : Nat} {O : Nat → Option Nat} {S : Nt} {CL CG CT : Array Value}

set_option maxRecDepth 100000 in
set_option maxHeartbeats 4000000 in
theorem rhead_none (h : NetR B w p qL qG qT O S CL CG CT) {f t : Int} (hi : S.idx f t = none) :
    Calls Tryd.prog 39 #[.pointer (some ⟨p, 0, none⟩), .int .i64 f, .int .i64 t] w fun e w' => e = .returned (.tuple #[.agg (encG mzero nilS).toArray, .bool false]) ∧ Ge w w' := by
  rw [zero_msg]
  have HA := Lib.hid (fun w' (g : Ge w w') => at_any (h.ge g) f t)
  rw [hi] at HA
  obtain ⟨W2, hW2⟩ : ∃ x, x = w.alloc (.cells #[.int .i64 0, .int .i64 0, .int .i64 0, .int .i64 0, .int .i64 0, .int .i64 0, .int .i64 0, .int .i64 0, .int .i64 0, .int .i64 0, .slice none 0 0, .slice none 0 0, .slice none 0 0, .slice none 0 0, .slice none 0 0, .int .i64 0, .slice none 0 0, .bool false, .int .i64 0] 45) := ⟨_, rfl⟩
  have HX2 := Lib.hid (show Bx W2 w.heap.size 45 #[.int .i64 0, .int .i64 0, .int .i64 0, .int .i64 0, .int .i64 0, .int .i64 0, .int .i64 0, .int .i64 0, .int .i64 0, .int .i64 0, .slice none 0 0, .slice none 0 0, .slice none 0 0, .slice none 0 0, .slice none 0 0, .int .i64 0, .slice none 0 0, .bool false, .int .i64 0] by rw [hW2]; exact Bx.new w 45 _ rfl)
  have GW := Lib.hid (show Ge w W2 by rw [hW2]; exact (Ge.refl w).alloc _)
  clear h hi
  go_enter Tryd.func39, Tryd.ntmps39
  go_upto_region 1 with (fail)
  rw [← hW2]
  clear hW2
  go_wp2_with fail
  refine (HA.out _ GW.out).mono ?_
  rintro e w3 ⟨rfl, g3⟩
  have HG3 := Lib.hid (GW.out.trans g3)
  have HX3 := Lib.hid (HX2.out.ge g3)
  clear g3
  unfold atV
  go_wp2_with (refine wpList_store_msg (by rfl) (.tmp 6) (.tmp 26) (by rfl) w.heap.size #[.int .i64 0, .int .i64 0, .int .i64 0, .int .i64 0, .int .i64 0, .int .i64 0, .int .i64 0, .int .i64 0, .int .i64 0, .int .i64 0, .slice none 0 0, .slice none 0 0, .slice none 0 0, .slice none 0 0, .slice none 0 0, .int .i64 0, .slice none 0 0, .bool false, .int .i64 0] (by rfl) (by rfl) HX3.out rfl rfl (by simp [Value.oneCell']) (w0 := w) (Nat.le_refl _) HG3.out ?_; intro w5 x5 g5 f5; clear f5; have HX5 := Lib.hid x5; have HG5 := Lib.hid g5; clear x5 g5)
  refine bodyPost_ret (v := .tuple #[.agg #[.int .i64 0, .int .i64 0, .int .i64 0, .int .i64 0, .int .i64 0, .int .i64 0, .int .i64 0, .int .i64 0, .int .i64 0, .int .i64 0, .slice none 0 0, .slice none 0 0, .slice none 0 0, .slice none 0 0, .slice none 0 0, .int .i64 0, .slice none 0 0, .bool false, .int .i64 0], .bool false]) (results_msg_tmp Tryd.results39 _ w5 w.heap.size _ _ rfl HX5.out rfl rfl) rfl ?_
  exact ⟨rfl, HG5.out⟩

set_option maxRecDepth 100000 in
set_option maxHeartbeats 4000000 in
theorem rhead_empty (h : NetR B w p qL qG qT O S CL CG CT) {f t : Int} {j : Nat} {r : Lk} (hi : S.idx f t = some j) (hr : S.rows[j]? = some r) (hl : r.l = []) :
    Calls Tryd.prog 39 #[.pointer (some ⟨p, 0, none⟩), .int .i64 f, .int .i64 t] w fun e w' => e = .returned (.tuple #[.agg (encG mzero nilS).toArray, .bool false]) ∧ Ge w w' := by
  rw [zero_msg]
  have HA := Lib.hid (fun w' (g : Ge w w') => at_any (h.ge g) f t)
  rw [hi] at HA
  have hjl := Nt.idx_lt hi
  obtain ⟨v, x0, x1, x2, hrow⟩ := h.rows j r (fun h => h) hr
  rw [hl] at hrow
  obtain ⟨A, cap, rfl, _⟩ := hrow
  have HX0 := Lib.hid (fun w' (g : Ge w w') => ((h.L.ge g).cell _).trans x0)
  have HLL := Lib.hid (fun w' (g : Ge w w') => (h.L.ge g).lt)
  have HN := Lib.hid (fun w' (g : Ge w w') => (h.net.ge g).cell)
  have HNL := Lib.hid (fun w' (g : Ge w w') => (h.net.ge g).lt)
  generalize S.k * S.k = kk at *
  generalize S.k = k at *
  generalize S.room = room at *
  have i1 : (0 : Int) ≤ (j : Int) := by omega
  have i2 : (j : Int) < (kk : Int) := by omega
  have u1 : decide ((j : Int) < 0) = false := by simp
  clear x0 x1 x2 hr hl
  obtain ⟨W2, hW2⟩ : ∃ x, x = w.alloc (.cells #[.int .i64 0, .int .i64 0, .int .i64 0, .int .i64 0, .int .i64 0, .int .i64 0, .int .i64 0, .int .i64 0, .int .i64 0, .int .i64 0, .slice none 0 0, .slice none 0 0, .slice none 0 0, .slice none 0 0, .slice none 0 0, .int .i64 0, .slice none 0 0, .bool false, .int .i64 0] 45) := ⟨_, rfl⟩
  have HX2 := Lib.hid (show Bx W2 w.heap.size 45 #[.int .i64 0, .int .i64 0, .int .i64 0, .int .i64 0, .int .i64 0, .int .i64 0, .int .i64 0, .int .i64 0, .int .i64 0, .int .i64 0, .slice none 0 0, .slice none 0 0, .slice none 0 0, .slice none 0 0, .slice none 0 0, .int .i64 0, .slice none 0 0, .bool false, .int .i64 0] by rw [hW2]; exact Bx.new w 45 _ rfl)
  have GW := Lib.hid (show Ge w W2 by rw [hW2]; exact (Ge.refl w).alloc _)
  clear h hi
  go_enter Tryd.func39, Tryd.ntmps39
  go_upto_region 1 with (fail)
  rw [← hW2]
  clear hW2
  go_wp2_with fail
  refine (HA.out _ GW.out).mono ?_
  rintro e w3 ⟨rfl, g3⟩
  have HG3 := Lib.hid (GW.out.trans g3)
  have HX3 := Lib.hid (HX2.out.ge g3)
  clear g3
  unfold atV
  have x0 := HX0.out w3 HG3.out
  have n1 := HLL.out w3 HG3.out
  have c0 := HN.out w3 HG3.out
  have n0 := HNL.out w3 HG3.out
  go_wp2_with (refine wpList_store_msg (by rfl) (.tmp 6) (.tmp 26) (by rfl) w.heap.size #[.int .i64 0, .int .i64 0, .int .i64 0, .int .i64 0, .int .i64 0, .int .i64 0, .int .i64 0, .int .i64 0, .int .i64 0, .int .i64 0, .slice none 0 0, .slice none 0 0, .slice none 0 0, .slice none 0 0, .slice none 0 0, .int .i64 0, .slice none 0 0, .bool false, .int .i64 0] (by rfl) (by rfl) HX3.out rfl rfl (by simp [Value.oneCell']) (w0 := w) (Nat.le_refl _) HG3.out ?_; intro w5 x5 g5 f5; clear f5; have HX5 := Lib.hid x5; have HG5 := Lib.hid g5; clear x5 g5)
  refine bodyPost_ret (v := .tuple #[.agg #[.int .i64 0, .int .i64 0, .int .i64 0, .int .i64 0, .int .i64 0, .int .i64 0, .int .i64 0, .int .i64 0, .int .i64 0, .int .i64 0, .slice none 0 0, .slice none 0 0, .slice none 0 0, .slice none 0 0, .slice none 0 0, .int .i64 0, .slice none 0 0, .bool false, .int .i64 0], .bool false]) (results_msg_tmp Tryd.results39 _ w5 w.heap.size _ _ rfl HX5.out rfl rfl) rfl ?_
  exact ⟨rfl, HG5.out⟩

set_option maxRecDepth 100000 in
set_option maxHeartbeats 4000000 in
theorem rhead_ok (h : NetR B w p qL qG qT O S CL CG CT) {f t : Int} {j : Nat} {r : Lk} {m : Msg} {l : List Msg} (hi : S.idx f t = some j) (hr : S.rows[j]? = some r) (hl : r.l = m :: l) (hsm : Small m) :
    Calls Tryd.prog 39 #[.pointer (some ⟨p, 0, none⟩), .int .i64 f, .int .i64 t] w fun e w' => (∃ s', e = .returned (.tuple #[.agg (encG m s').toArray, .bool true]) ∧ SlAt B w' s' m) ∧ Ge w w' := by
  have HA := Lib.hid (fun w' (g : Ge w w') => at_any (h.ge g) f t)
  rw [hi] at HA
  have hBw : B ≤ w.heap.size := Nat.le_trans h.bp (Nat.le_of_lt h.net.lt)
  have HBW := Lib.hid hBw
  have hjl := Nt.idx_lt hi
  obtain ⟨v, x0, x1, x2, hrow⟩ := h.rows j r (fun h => h) hr
  rw [hl] at hrow
  obtain ⟨A, cap, rfl, hle, _, hcap⟩ := hrow
  obtain ⟨g, off, cs, rfl, hg, hbx, hsz, hms⟩ := hcap (by simp at hle; omega)
  obtain ⟨s', hs', hcell⟩ := hms 0 m rfl
  rw [List.length_cons] at x0
  have HRA := Lib.hid (fun w' (gg : Ge w w') => show w'.rangeAt g off (encG m s') from fun i u hu => by
    rw [(hbx.ge gg).cell]
    have := hcell i u hu
    rwa [Nat.zero_mul, Nat.add_zero] at this)
  have HLEN := Lib.hid (show (encG m s').length = 19 from rfl)
  have HCL := Lib.hid (fun w' (g : Ge w w') => rclone_any (hs'.ge g) hsm (Nat.le_trans hBw g.size))
  have HGL := Lib.hid (fun w' (gg : Ge w w') => (hbx.ge gg).lt)
  have i0 : (0 : Int) < ((l.length + 1 : Nat) : Int) := by omega
  have u0 : (((l.length + 1 : Nat) : Int) == 0) = false := by simp; omega
  have HX0 := Lib.hid (fun w' (g : Ge w w') => ((h.L.ge g).cell _).trans x0)
  have HLL := Lib.hid (fun w' (g : Ge w w') => (h.L.ge g).lt)
  have HN := Lib.hid (fun w' (g : Ge w w') => (h.net.ge g).cell)
  have HNL := Lib.hid (fun w' (g : Ge w w') => (h.net.ge g).lt)
  generalize S.k * S.k = kk at *
  generalize S.k = k at *
  generalize S.room = room at *
  have i1 : (0 : Int) ≤ (j : Int) := by omega
  have i2 : (j : Int) < (kk : Int) := by omega
  have u1 : decide ((j : Int) < 0) = false := by simp
  clear x0 x1 x2 hr hl h hi hs' hcell hms hle hbx hsz hcap hBw
  generalize encG m s' = L at *
  generalize l.length + 1 = n at *
  obtain ⟨W2, hW2⟩ : ∃ x, x = w.alloc (.cells #[.int .i64 0, .int .i64 0, .int .i64 0, .int .i64 0, .int .i64 0, .int .i64 0, .int .i64 0, .int .i64 0, .int .i64 0, .int .i64 0, .slice none 0 0, .slice none 0 0, .slice none 0 0, .slice none 0 0, .slice none 0 0, .int .i64 0, .slice none 0 0, .bool false, .int .i64 0] 45) := ⟨_, rfl⟩
  have HX2 := Lib.hid (show Bx W2 w.heap.size 45 #[.int .i64 0, .int .i64 0, .int .i64 0, .int .i64 0, .int .i64 0, .int .i64 0, .int .i64 0, .int .i64 0, .int .i64 0, .int .i64 0, .slice none 0 0, .slice none 0 0, .slice none 0 0, .slice none 0 0, .slice none 0 0, .int .i64 0, .slice none 0 0, .bool false, .int .i64 0] by rw [hW2]; exact Bx.new w 45 _ rfl)
  have GW := Lib.hid (show Ge w W2 by rw [hW2]; exact (Ge.refl w).alloc _)
  go_enter Tryd.func39, Tryd.ntmps39
  go_upto_region 1 with (fail)
  rw [← hW2]
  clear hW2
  go_wp2_with fail
  refine (HA.out _ GW.out).mono ?_
  rintro e w3 ⟨rfl, g3⟩
  have HG3 := Lib.hid (GW.out.trans g3)
  have HX3 := Lib.hid (HX2.out.ge g3)
  have HR3 := Lib.hid (HRA.out w3 HG3.out)
  have n2 := HGL.out w3 HG3.out
  clear g3
  unfold atV
  have x0 := HX0.out w3 HG3.out
  have n1 := HLL.out w3 HG3.out
  have c0 := HN.out w3 HG3.out
  have n0 := HNL.out w3 HG3.out
  go_wp2_with (refine wpList_load_at (by go_simp) (.tmp 34) (by rfl) g off (by rfl) L HR3.out HLEN.out ?_)
  refine (HCL.out _ HG3.out).mono ?_
  rintro e w4 ⟨s4, rfl, hs4, g4⟩
  have HX4 := Lib.hid (HX3.out.ge g4)
  have HG4 := Lib.hid (HG3.out.trans g4)
  have HS4 := Lib.hid hs4
  have HLS := Lib.hid (show (encG m s4).toArray.size = 19 from rfl)
  have HONE := Lib.hid (show ∀ u ∈ (encG m s4).toArray.toList, u.oneCell' = true from fun u hu => encG_one hs4 u (by simpa using hu))
  have HWB := Lib.hid (show B ≤ w.heap.size from HBW.out)
  clear g4 hs4 x0 n1 c0 n0 n2
  generalize hL4 : encG m s4 = L4 at *
  have HL4 := Lib.hid hL4
  clear hL4
  go_wp2_with (refine wpList_store_msgK (by rfl) (.tmp 6) (.tmp 36) (by rfl) w.heap.size L4.toArray (by rfl) (by rfl) HX4.out rfl HLS.out HONE.out (w0 := w) (Nat.le_refl _) HG4.out HWB.out ?_; intro w5 x5 g5 k5; have HX5 := Lib.hid x5; have HG5 := Lib.hid g5; have HK5 := Lib.hid k5; clear x5 g5 k5)
  refine bodyPost_ret (v := .tuple #[.agg L4.toArray, .bool true]) (results_msg_tmp Tryd.results39 _ w5 w.heap.size _ _ rfl HX5.out HLS.out rfl) rfl ?_
  exact ⟨⟨s4, by rw [HL4.out], HS4.out.kp HK5.out⟩, HG5.out⟩
end Go.Proofs.YtmhibpmgnicolaaDoor

namespace Go.Proofs.YtmhibpmgnicolaaDoor
open Go.RowKit

def cntOf (S : Nt) (f t : Int) : Int × Int := match (S.idx f t).bind (S.rows[·]?) with
  | none => (0, 0)
  | some r => (r.sent, r.taken)
def roomOf (S : Nt) (f t : Int) : Int := match (S.idx f t).bind (S.rows[·]?) with
  | none => 0
  | some r => (S.room : Int) - (r.l.length : Int)
variable {B : Nat} {w : World}
theorem ncounts {p q : Nat} {O : Nat → Option Nat} {S : Nt} {C : Array Value} (h : NetC B w p q O S C) (f t : Int) :
    Calls Tryd.prog 20 #[.pointer (some ⟨p, 0, none⟩), .int .i64 f, .int .i64 t] w fun e w' => e = .returned (.tuple #[.int .i64 (cntOf S f t).1, .int .i64 (cntOf S f t).2]) ∧ Ge w w' := by
  unfold cntOf
  rcases hi : S.idx f t with _ | j
  · exact counts_none h hi
  · obtain ⟨r, hr⟩ : ∃ r, S.rows[j]? = some r := ⟨_, List.getElem?_eq_getElem (by rw [h.ok.len]; exact Nt.idx_lt hi)⟩
    rw [show (some j).bind (S.rows[·]?) = some r from hr]
    exact counts_some h hi hr
theorem nroom {p q : Nat} {O : Nat → Option Nat} {S : Nt} {C : Array Value} (h : NetC B w p q O S C) (f t : Int) :
    Calls Tryd.prog 22 #[.pointer (some ⟨p, 0, none⟩), .int .i64 f, .int .i64 t] w fun e w' => e = .returned (.int .i64 (roomOf S f t)) ∧ Ge w w' := by
  unfold roomOf
  rcases hi : S.idx f t with _ | j
  · exact room_none h hi
  · obtain ⟨r, hr⟩ : ∃ r, S.rows[j]? = some r := ⟨_, List.getElem?_eq_getElem (by rw [h.ok.len]; exact Nt.idx_lt hi)⟩
    rw [show (some j).bind (S.rows[·]?) = some r from hr]
    exact room_some h hi hr
variable {p qL qG qT : Nat} {O : Nat → Option Nat} {S : Nt} {CL CG CT : Array Value}
theorem rcounts' (h : NetR B w p qL qG qT O S CL CG CT) (f t : Int) :
    Calls Tryd.prog 38 #[.pointer (some ⟨p, 0, none⟩), .int .i64 f, .int .i64 t] w fun e w' => e = .returned (.tuple #[.int .i64 (cntOf S f t).1, .int .i64 (cntOf S f t).2]) ∧ Ge w w' := by
  refine (rcounts h f t).mono ?_
  rintro e w' ⟨rfl, g⟩
  refine ⟨?_, g⟩
  unfold cntOf
  cases (S.idx f t).bind (S.rows[·]?) <;> rfl
theorem rroom' (h : NetR B w p qL qG qT O S CL CG CT) (f t : Int) :
    Calls Tryd.prog 41 #[.pointer (some ⟨p, 0, none⟩), .int .i64 f, .int .i64 t] w fun e w' => e = .returned (.int .i64 (roomOf S f t)) ∧ Ge w w' := by
  refine (rroom h f t).mono ?_
  rintro e w' ⟨rfl, g⟩
  refine ⟨?_, g⟩
  unfold roomOf
  cases (S.idx f t).bind (S.rows[·]?) <;> rfl
theorem rall' (h : NetR B w p qL qG qT O S CL CG CT) (f t : Int) :
    Calls Tryd.prog 40 #[.pointer (some ⟨p, 0, none⟩), .int .i64 f, .int .i64 t] w fun e w' => (∃ A c, e = .returned (.slice A (lOf S f t).length c) ∧ RowAt B w' (.slice A (lOf S f t).length c) (lOf S f t) (fun b => b < w'.heap.size)) ∧ Ge w w' := by
  refine (rall h f t).mono ?_
  rintro e w' ⟨⟨v, rfl, hr⟩, g⟩
  replace hr : RowAt B w' v (lOf S f t) (fun b => O b ≠ none) := hr
  have hrow := hr.keep (Kp.refl B w') (fun _ _ => rfl) (G' := fun b => b < w'.heap.size) (fun b hb => by
    obtain ⟨i, hi⟩ := Option.ne_none_iff_exists'.1 hb
    exact Nat.lt_of_lt_of_le (h.bO b i hi).2.1 g.size)
  obtain ⟨A, c, rfl, _⟩ := id hrow
  exact ⟨⟨A, c, rfl, hrow⟩, g⟩
theorem rhead_any (h : NetR B w p qL qG qT O S CL CG CT) (f t : Int) (hsm : ∀ m ∈ lOf S f t, Small m) :
    Calls Tryd.prog 39 #[.pointer (some ⟨p, 0, none⟩), .int .i64 f, .int .i64 t] w fun e w' => (∃ s', e = .returned (.tuple #[.agg (encG (hdM (lOf S f t)).1 s').toArray, .bool (hdM (lOf S f t)).2]) ∧ SlAt B w' s' (hdM (lOf S f t)).1) ∧ Ge w w' := by
  have hnone : ∀ (e : Ending) (w' : World), lOf S f t = [] → (e = .returned (.tuple #[.agg (encG mzero nilS).toArray, .bool false]) ∧ Ge w w') → (∃ s', e = .returned (.tuple #[.agg (encG (hdM (lOf S f t)).1 s').toArray, .bool (hdM (lOf S f t)).2]) ∧ SlAt B w' s' (hdM (lOf S f t)).1) ∧ Ge w w' :=
    fun e w' h0 ⟨he, g⟩ => ⟨⟨nilS, by rw [h0]; exact he, by rw [h0]; exact nilS_at B w' mzero⟩, g⟩
  rcases hi : S.idx f t with _ | j
  · exact (rhead_none h hi).mono (fun e w' => hnone e w' (by unfold lOf; rw [hi]; rfl))
  · obtain ⟨r, hr⟩ : ∃ r, S.rows[j]? = some r := ⟨_, List.getElem?_eq_getElem (by rw [h.ok.len]; exact Nt.idx_lt hi)⟩
    have e0 : lOf S f t = r.l := by unfold lOf; rw [hi]; show (match S.rows[j]? with | none => [] | some r => r.l) = _; rw [hr]
    rcases hl : r.l with _ | ⟨m, l⟩
    · exact (rhead_empty h hi hr hl).mono (fun e w' => hnone e w' (e0.trans hl))
    · rw [e0, hl] at hsm ⊢
      exact rhead_ok h hi hr hl (hsm m List.mem_cons_self)
end Go.Proofs.YtmhibpmgnicolaaDoor
