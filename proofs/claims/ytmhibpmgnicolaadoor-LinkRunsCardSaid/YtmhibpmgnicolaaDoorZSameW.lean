/-
  The law's 'same': a link tells what it must. Printed by gen_samew.py.
-/
import Derived.Test.YtmhibpmgnicolaaDoorZRHead
import Derived.Test.YtmhibpmgnicolaaDoorDrawIn
import Derived.Test.YtmhibpmgnicolaaDoorDrawB
import Derived.Test.YtmhibpmgnicolaaDoorZOpenD
import Derived.Test.YtmhibpmgnicolaaDoorRMSame
import Derived.Test.YtmhibpmgnicolaaDoorRCheck
namespace Go.Proofs.YtmhibpmgnicolaaDoor
open Go.RowKit Go.Shelf
attribute [local go_sem] Oper.semAt_some Dr.upT

structure SB (w : World) (D : Array Value) (W : World) : Prop where
  t : Bx W w.heap.size 47 D
  r : Bx W (w.heap.size + 1) 4 #[.bool false]
  ge : Ge w W
theorem SB.next {w : World} {D : Array Value} {W W' : World} (h : SB w D W) (g : Ge W W') : SB w D W' := ⟨h.t.ge g, h.r.ge g, h.ge.trans g⟩

set_option maxRecDepth 100000 in
set_option maxHeartbeats 16000000 in
theorem same_any {B : Nat} {w : World} {p q : Nat} {O : Nat → Option Nat} {S : Nt} {C : Array Value} (h : NetC B w p q O S C) {pr qL qG qT : Nat} {Or : Nat → Option Nat} {CL CG CT : Array Value} (hr : NetR B w pr qL qG qT Or S CL CG CT)
    (hsm : ∀ r ∈ S.rows, ∀ m ∈ r.l, Small m) (d : Dor) :
    Calls Tryd.prog 18 #[.pointer (some ⟨p, 0, none⟩), .pointer (some ⟨pr, 0, none⟩), .agg (encD d).toArray] w fun e w' => e = .returned (.bool true) ∧ Ge w w' := by
  obtain ⟨f, hf⟩ : ∃ f, f = d.from' := ⟨_, rfl⟩
  obtain ⟨t, ht⟩ : ∃ t, t = d.to' := ⟨_, rfl⟩
  have hD1 : (encD d).toArray[1]? = some (.int .i64 f) := by rw [hf]; rfl
  have hD2 : (encD d).toArray[2]? = some (.int .i64 t) := by rw [ht]; rfl
  have hBw : B ≤ w.heap.size := Nat.le_trans h.bp (Nat.le_of_lt h.net.lt)
  have hls : ∀ m ∈ lOf S f t, Small m := fun m hm => by
    unfold lOf at hm
    rcases hq : (S.idx f t).bind (S.rows[·]?) with _ | r
    · rw [hq] at hm; cases hm
    · rw [hq] at hm
      obtain ⟨j, _, hj⟩ := Option.bind_eq_some_iff.1 hq
      exact hsm r (List.mem_of_getElem? hj) m hm
  have hl64 : (lOf S f t).length ≤ 64 := by
    unfold lOf
    rcases hq : (S.idx f t).bind (S.rows[·]?) with _ | r
    · exact Nat.zero_le _
    · obtain ⟨j, _, hj⟩ := Option.bind_eq_some_iff.1 hq
      exact h.ok.small r (List.mem_of_getElem? hj)
  have HC1 := Lib.hid (fun W (g : Ge w W) => ncounts (h.ge g) f t)
  have HC2 := Lib.hid (fun W (g : Ge w W) => rcounts' (hr.ge g) f t)
  have HH1 := Lib.hid (fun W (g : Ge w W) => head_any (h.ge g) f t hls hl64)
  have HH2 := Lib.hid (fun W (g : Ge w W) => rhead_any (hr.ge g) f t hls)
  have HA1 := Lib.hid (fun W (g : Ge w W) => all_any (h.ge g) f t)
  have HA2 := Lib.hid (fun W (g : Ge w W) => rall' (hr.ge g) f t)
  have HR1 := Lib.hid (fun W (g : Ge w W) => nroom (h.ge g) f t)
  have HR2 := Lib.hid (fun W (g : Ge w W) => rroom' (hr.ge g) f t)
  have HL1 := Lib.hid (fun W (g : Ge w W) => left_any (h.ge g))
  have HL2 := Lib.hid (fun W (g : Ge w W) => rleft (hr.ge g))
  have hsh : Small (hdM (lOf S f t)).1 := by
    rcases hq : lOf S f t with _ | ⟨m, l⟩
    · exact ⟨Nat.zero_le _, Nat.zero_le _, Nat.zero_le _, Nat.zero_le _, (fun _ h => by cases h), Nat.zero_le _, Nat.zero_le _⟩
    · exact hls m (by rw [hq]; exact List.mem_cons_self)
  have HSH := Lib.hid hsh
  have HLS := Lib.hid hls
  have HL64 := Lib.hid hl64
  have HBW := Lib.hid hBw
  clear h hr hsm hls hl64 hBw hsh hf ht
  generalize encD d = D at *
  generalize (cntOf S f t).1 = n1 at *
  generalize (cntOf S f t).2 = n2 at *
  generalize roomOf S f t = rm at *
  generalize lens S.rows = lf at *
  generalize lOf S f t = l at *
  generalize hhm : (hdM l).1 = hm at *
  generalize hhb : (hdM l).2 = hb at *
  clear hhm hhb
  have hG2 := (((Ge.refl w).alloc (.cells D.toArray 47)).alloc (.cells #[.bool false] 4))
  have H := Lib.hid (show SB w D.toArray ((w.alloc (.cells D.toArray 47)).alloc (.cells #[.bool false] 4)) from ⟨(Bx.new w 47 _ rfl).alloc _, by simpa using Bx.new (w.alloc (.cells D.toArray 47)) 4 #[.bool false] rfl, hG2⟩)
  clear hG2
  refine (callsIn_wide (n := 3)).1 ?_
  refine callsIn_of_wp_marks Tryd.func18 rfl trivial ?_ rfl
  simp only [Tryd.ntmps18, List.size_toArray, List.length_cons, List.length_nil, Nat.reduceAdd, Nat.reduceSub, Array.replicate_succ, Array.replicate_zero, List.push_toArray, List.append_toArray, List.nil_append, List.cons_append]
  have f20 : Fence.wide.fn 20 := trivial
  have f38 : Fence.wide.fn 38 := trivial
  have f19 : Fence.wide.fn 19 := trivial
  have f39 : Fence.wide.fn 39 := trivial
  have f21 : Fence.wide.fn 21 := trivial
  have f40 : Fence.wide.fn 40 := trivial
  have f17 : Fence.wide.fn 17 := trivial
  have f22 : Fence.wide.fn 22 := trivial
  have f41 : Fence.wide.fn 41 := trivial
  have f23 : Fence.wide.fn 23 := trivial
  have f42 : Fence.wide.fn 42 := trivial
  obtain ⟨W2, hW2⟩ : ∃ x, x = (w.alloc (.cells D.toArray 47)).alloc (.cells #[.bool false] 4) := ⟨_, rfl⟩
  rw [← hW2] at H
  have HW2 := Lib.hid hW2
  clear hW2
  have cT1 := (H.out.t.cell 1).trans hD1
  have cT2 := (H.out.t.cell 2).trans hD2
  have lT := H.out.t.lt
  rw [HW2.out] at H cT1 cT2 lT
  clear HW2
  gi_wp2_with fail
  refine (callsIn_wide.2 (HC1.out _ H.out.ge)).mono ?_
  rintro e u1 ⟨rfl, hgu⟩
  clear cT1 cT2 lT
  replace H := Lib.hid (H.out.next hgu)
  have cT1 := (H.out.t.cell 1).trans hD1
  have cT2 := (H.out.t.cell 2).trans hD2
  have lT := H.out.t.lt
  gi_wp2_with fail
  refine (callsIn_wide.2 (HC2.out _ H.out.ge)).mono ?_
  rintro e u2 ⟨rfl, hgu⟩
  clear cT1 cT2 lT
  replace H := Lib.hid (H.out.next hgu)
  have cT1 := (H.out.t.cell 1).trans hD1
  have cT2 := (H.out.t.cell 2).trans hD2
  have lT := H.out.t.lt
  gi_wp2_with fail
  refine (callsIn_wide.2 (HH1.out _ H.out.ge)).mono ?_
  rintro e u3 ⟨⟨s1, rfl, hs1⟩, hgu⟩
  clear cT1 cT2 lT
  replace H := Lib.hid (H.out.next hgu)
  have HLN1 := Lib.hid (show (encG hm s1).toArray.size = 19 from rfl)
  have HON1 := Lib.hid (show ∀ u ∈ (encG hm s1).toArray.toList, u.oneCell' = true from fun u hu => encG_one hs1 u (by simpa using hu))
  have HS1 := Lib.hid hs1
  clear hs1 hgu
  generalize hL1 : encG hm s1 = L1 at *
  have HE1 := Lib.hid hL1
  clear hL1
  have cT1 := (H.out.t.cell 1).trans hD1
  have cT2 := (H.out.t.cell 2).trans hD2
  have lT := H.out.t.lt
  gi_wp2_with (refine wpListIn_store_msg (by rfl) (.tmp 11) (.tmp 44) (by rfl) u3.heap.size L1.toArray (by rfl) (by rfl) (Bx.new _ 45 _ rfl) rfl HLN1.out HON1.out (w0 := u3) (Nat.le_refl _) ((Ge.refl _).alloc _) ?_; intro u4 x5 g5 f5; clear f5 cT1 cT2 lT; have HB11 := Lib.hid x5; replace H := Lib.hid (H.out.next g5); replace HS1 := Lib.hid (HS1.out.ge g5); clear x5 g5; have cT1 := (H.out.t.cell 1).trans hD1; have cT2 := (H.out.t.cell 2).trans hD2; have lT := H.out.t.lt)
  refine (callsIn_wide.2 (HH2.out _ H.out.ge)).mono ?_
  rintro e u5 ⟨⟨s2, rfl, hs2⟩, hgu⟩
  clear cT1 cT2 lT
  replace H := Lib.hid (H.out.next hgu)
  replace HB11 := Lib.hid (HB11.out.ge hgu)
  replace HS1 := Lib.hid (HS1.out.ge hgu)
  have HLN2 := Lib.hid (show (encG hm s2).toArray.size = 19 from rfl)
  have HON2 := Lib.hid (show ∀ u ∈ (encG hm s2).toArray.toList, u.oneCell' = true from fun u hu => encG_one hs2 u (by simpa using hu))
  have HS2 := Lib.hid hs2
  clear hs2 hgu
  generalize hL2 : encG hm s2 = L2 at *
  have HE2 := Lib.hid hL2
  clear hL2
  have cT1 := (H.out.t.cell 1).trans hD1
  have cT2 := (H.out.t.cell 2).trans hD2
  have lT := H.out.t.lt
  gi_wp2_with (refine wpListIn_store_msg (by rfl) (.tmp 13) (.tmp 53) (by rfl) u5.heap.size L2.toArray (by rfl) (by rfl) (Bx.new _ 45 _ rfl) rfl HLN2.out HON2.out (w0 := u5) (Nat.le_refl _) ((Ge.refl _).alloc _) ?_; intro u6 x5 g5 f5; clear f5 cT1 cT2 lT; have HB13 := Lib.hid x5; replace H := Lib.hid (H.out.next g5); replace HB11 := Lib.hid (HB11.out.ge g5); replace HS1 := Lib.hid (HS1.out.ge g5); replace HS2 := Lib.hid (HS2.out.ge g5); clear x5 g5; have cT1 := (H.out.t.cell 1).trans hD1; have cT2 := (H.out.t.cell 2).trans hD2; have lT := H.out.t.lt)
  have HGA := Lib.hid H.out.ge
  refine (callsIn_wide.2 (HA1.out _ H.out.ge)).mono ?_
  rintro e u7 ⟨Bt, v, rfl, hX, hrow, hgu⟩
  clear cT1 cT2 lT
  replace H := Lib.hid (H.out.next hgu)
  replace HB11 := Lib.hid (HB11.out.ge hgu)
  replace HB13 := Lib.hid (HB13.out.ge hgu)
  replace HS1 := Lib.hid (HS1.out.ge hgu)
  replace HS2 := Lib.hid (HS2.out.ge hgu)
  have HXB := Lib.hid hX
  have HXB0 := Lib.hid hX
  have HBU := Lib.hid (show B ≤ u7.heap.size from Nat.le_trans HBW.out H.out.ge.size)
  have HROW := Lib.hid hrow
  clear hX hrow hgu
  have hn44 := nil44
  have cT1 := (H.out.t.cell 1).trans hD1
  have cT2 := (H.out.t.cell 2).trans hD2
  have lT := H.out.t.lt
  gi_wp2_with fail
  clear hn44
  refine (callsIn_wide.2 (HA2.out _ H.out.ge)).mono ?_
  rintro e u8 ⟨⟨A2, c2, rfl, hr2⟩, hgu⟩
  clear cT1 cT2 lT
  replace H := Lib.hid (H.out.next hgu)
  replace HB11 := Lib.hid (HB11.out.ge hgu)
  replace HB13 := Lib.hid (HB13.out.ge hgu)
  replace HS1 := Lib.hid (HS1.out.ge hgu)
  replace HS2 := Lib.hid (HS2.out.ge hgu)
  replace HXB := Lib.hid (HXB.out.ge hgu)
  have HG5 := Lib.hid hgu
  have HR2W := Lib.hid hr2
  clear hr2 hgu
  gi_wp2_with fail
  obtain ⟨wz, hwz⟩ : ∃ x, x = u8.alloc (.cells #[.slice A2 l.length c2] 72) := ⟨_, rfl⟩
  have HWZ := Lib.hid hwz
  have HB16 := Lib.hid (show Bx wz u8.heap.size 72 #[.slice A2 l.length c2] by rw [hwz]; exact Bx.new _ 72 _ rfl)
  have hgz : Ge u8 wz := by rw [hwz]; exact (Ge.refl _).alloc _
  replace HB11 := Lib.hid (HB11.out.ge hgz)
  replace HB13 := Lib.hid (HB13.out.ge hgz)
  replace HS1 := Lib.hid (HS1.out.ge hgz)
  replace HS2 := Lib.hid (HS2.out.ge hgz)
  replace HXB := Lib.hid (HXB.out.ge hgz)
  replace H := Lib.hid (H.out.next hgz)
  have HRZ := Lib.hid (show ∀ W, Ge wz W → RowAt B W (.slice A2 l.length c2) l (fun b => b < u8.heap.size) from fun W g => HR2W.out.keep ((hgz.trans g).kp B) (fun b hb => (hgz.trans g).block b hb) (fun _ h => h))
  have HG5Z := Lib.hid (HG5.out.trans hgz)
  clear hwz hgz
  rw [← HWZ.out]
  have HSZ := Lib.hid (show wz.heap.size = u8.heap.size + 1 by rw [HWZ.out]; simp)
  clear HWZ
  have hg9 : Ge wz (wz.alloc (.cells #[.int .i64 0] 3)) := (Ge.refl _).alloc _
  have HI0 := Lib.hid (show Ge wz (wz.alloc (.cells #[.int .i64 0] 3)) ∧ Bx (wz.alloc (.cells #[.int .i64 0] 3)) (u8.heap.size + 1) 3 #[.int .i64 0] from ⟨hg9, by have := Bx.new wz 3 #[.int .i64 0] rfl; rwa [HSZ.out] at this⟩)
  have HSQ := Lib.hid (msgs_seq (HG5Z.out.trans hg9) HXB0.out HROW.out (fun b hb => hb.2) HLS.out HL64.out HBU.out u7.heap.size (Nat.le_refl _) (Nat.le_trans HG5Z.out.size hg9.size))
  have HSU := Lib.hid (show u7.heap.size ≤ u8.heap.size from HG5.out.size)
  have HU9 := Lib.hid (show (wz.alloc (.cells #[.int .i64 0] 3)).heap.size = u8.heap.size + 2 by have := HSZ.out; simp; omega)
  clear hg9 HXB0 HROW HR2W HG5 HC1 HC2 HH1 HH2 HA1 HA2
  generalize wz.alloc (.cells #[.int .i64 0] 3) = w9 at *
  obtain ⟨hgi, hxi⟩ := HI0.out
  have HWZ9 := Lib.hid (show wz.heap.size ≤ w9.heap.size by have := HU9.out; have := HSZ.out; omega)
  have HB9 := Lib.hid (show B ≤ w9.heap.size by have := HU9.out; have := HBU.out; have := HSU.out; omega)
  refine range_msgs rfl rfl (by have := HU9.out; have := HSU.out; omega) HSQ.out
    (fun pre W => Ge wz W ∧ Bx W (u8.heap.size + 1) 3 #[.int .i64 (pre.length : Int)] ∧ pre.length ≤ l.length ∧ w9.heap.size ≤ W.heap.size)
    (fun s A A' g hs => ⟨g.ge HWZ9.out hs.1, g.bx hs.2.1, hs.2.2.1, Nat.le_trans hs.2.2.2 g.size⟩)
    ⟨hgi, hxi, Nat.zero_le _, Nat.le_refl _⟩
    (fun _ _ _ => False)
    (fun _ _ _ _ _ hs => hs)
    (fun pre x a' W => l[pre.length]? = some x.1 ∧ ∃ bx, u8.heap.size + 2 ≤ bx ∧ Bx W bx 45 (encG x.1 x.2).toArray ∧ SlAt B W x.2 x.1 ∧ a' = { tmps := #[Value.pointer (some { block := p, off := 0 }), Value.pointer (some { block := pr, off := 0 }), Value.agg D.toArray, undef, undef, Value.pointer (some { block := w.heap.size, off := 0 }), Value.pointer (some { block := w.heap.size + 1, off := 0 }), Value.int IntKind.i64 n1, Value.int IntKind.i64 n2, Value.int IntKind.i64 n1, Value.int IntKind.i64 n2, Value.pointer (some { block := u3.heap.size, off := 0 }), Value.bool hb, Value.pointer (some { block := u5.heap.size, off := 0 }), Value.bool hb, Value.func (Fn.func 44) #[] #[Value.pointer (some { block := Bt, off := 0 })], Value.pointer (some { block := u8.heap.size, off := 0 }), Value.pointer (some { block := u8.heap.size + 1, off := 0 }), Value.pointer (some { block := bx, off := 0 }), Value.tuple #[Value.int IntKind.i64 n1, Value.int IntKind.i64 n2], Value.pointer (some { block := p, off := 0 }), Value.pointer (some { block := w.heap.size, off := 1 }), Value.int IntKind.i64 f, Value.pointer (some { block := w.heap.size, off := 2 }), Value.int IntKind.i64 t, Value.tuple #[Value.int IntKind.i64 n1, Value.int IntKind.i64 n2], Value.int IntKind.i64 n1, Value.int IntKind.i64 n2, Value.tuple #[Value.int IntKind.i64 n1, Value.int IntKind.i64 n2], Value.pointer (some { block := pr, off := 0 }), Value.pointer (some { block := w.heap.size, off := 1 }), Value.int IntKind.i64 f, Value.pointer (some { block := w.heap.size, off := 2 }), Value.int IntKind.i64 t, Value.tuple #[Value.int IntKind.i64 n1, Value.int IntKind.i64 n2], Value.int IntKind.i64 n1, Value.int IntKind.i64 n2, Value.tuple #[Value.agg L1.toArray, Value.bool hb], Value.pointer (some { block := p, off := 0 }), Value.pointer (some { block := w.heap.size, off := 1 }), Value.int IntKind.i64 f, Value.pointer (some { block := w.heap.size, off := 2 }), Value.int IntKind.i64 t, Value.tuple #[Value.agg L1.toArray, Value.bool hb], Value.agg L1.toArray, Value.bool hb, Value.tuple #[Value.agg L2.toArray, Value.bool hb], Value.pointer (some { block := pr, off := 0 }), Value.pointer (some { block := w.heap.size, off := 1 }), Value.int IntKind.i64 f, Value.pointer (some { block := w.heap.size, off := 2 }), Value.int IntKind.i64 t, Value.tuple #[Value.agg L2.toArray, Value.bool hb], Value.agg L2.toArray, Value.bool hb, Value.pointer (some { block := p, off := 0 }), Value.pointer (some { block := w.heap.size, off := 1 }), Value.int IntKind.i64 f, Value.pointer (some { block := w.heap.size, off := 2 }), Value.int IntKind.i64 t, Value.func (Fn.func 44) #[] #[Value.pointer (some { block := Bt, off := 0 })], Value.func (Fn.func 44) #[] #[Value.pointer (some { block := Bt, off := 0 })], Value.bool false, Value.pointer (some { block := pr, off := 0 }), Value.pointer (some { block := w.heap.size, off := 1 }), Value.int IntKind.i64 f, Value.pointer (some { block := w.heap.size, off := 2 }), Value.int IntKind.i64 t, Value.slice A2 l.length c2, Value.func (Fn.func 44) #[] #[Value.pointer (some { block := Bt, off := 0 })], Value.agg (encG x.1 x.2).toArray, undef, undef, undef, undef, undef, undef, undef, undef, undef, undef, undef, undef, undef, undef, undef, undef, undef, undef, undef, undef, undef, undef, undef, undef, undef, undef, undef, undef, undef, undef, undef, undef, undef, undef, undef, undef, undef, undef, undef, undef, undef, undef, undef, undef, undef, undef, undef, undef, undef, undef, undef, undef, undef, undef, undef, undef, undef, undef, undef, undef, undef], defers := [] })
    (fun pre x a' A A' g hs => by
      obtain ⟨h1, bx, h2, h3, h4, h5⟩ := hs
      exact ⟨h1, bx, h2, g.bx h3, h4.kp (g.kp HB9.out), h5⟩)
    ?assign ?body ?done ?stop
  case assign =>
    rintro lp pre x W K ⟨hgw, hkw, hple, hsz⟩ ⟨_, hx, hsl⟩ hK
    have HLNx := Lib.hid (show (encG x.1 x.2).toArray.size = 19 from rfl)
    have HONx := Lib.hid (show ∀ u ∈ (encG x.1 x.2).toArray.toList, u.oneCell' = true from fun u hu => encG_one hsl u (by simpa using hu))
    have HK := Lib.hid (show ∀ w5, Bx w5 W.heap.size 45 (encG x.1 x.2).toArray → Ge W w5 → K { tmps := #[Value.pointer (some { block := p, off := 0 }), Value.pointer (some { block := pr, off := 0 }), Value.agg D.toArray, undef, undef, Value.pointer (some { block := w.heap.size, off := 0 }), Value.pointer (some { block := w.heap.size + 1, off := 0 }), Value.int IntKind.i64 n1, Value.int IntKind.i64 n2, Value.int IntKind.i64 n1, Value.int IntKind.i64 n2, Value.pointer (some { block := u3.heap.size, off := 0 }), Value.bool hb, Value.pointer (some { block := u5.heap.size, off := 0 }), Value.bool hb, Value.func (Fn.func 44) #[] #[Value.pointer (some { block := Bt, off := 0 })], Value.pointer (some { block := u8.heap.size, off := 0 }), Value.pointer (some { block := u8.heap.size + 1, off := 0 }), Value.pointer (some { block := W.heap.size, off := 0 }), Value.tuple #[Value.int IntKind.i64 n1, Value.int IntKind.i64 n2], Value.pointer (some { block := p, off := 0 }), Value.pointer (some { block := w.heap.size, off := 1 }), Value.int IntKind.i64 f, Value.pointer (some { block := w.heap.size, off := 2 }), Value.int IntKind.i64 t, Value.tuple #[Value.int IntKind.i64 n1, Value.int IntKind.i64 n2], Value.int IntKind.i64 n1, Value.int IntKind.i64 n2, Value.tuple #[Value.int IntKind.i64 n1, Value.int IntKind.i64 n2], Value.pointer (some { block := pr, off := 0 }), Value.pointer (some { block := w.heap.size, off := 1 }), Value.int IntKind.i64 f, Value.pointer (some { block := w.heap.size, off := 2 }), Value.int IntKind.i64 t, Value.tuple #[Value.int IntKind.i64 n1, Value.int IntKind.i64 n2], Value.int IntKind.i64 n1, Value.int IntKind.i64 n2, Value.tuple #[Value.agg L1.toArray, Value.bool hb], Value.pointer (some { block := p, off := 0 }), Value.pointer (some { block := w.heap.size, off := 1 }), Value.int IntKind.i64 f, Value.pointer (some { block := w.heap.size, off := 2 }), Value.int IntKind.i64 t, Value.tuple #[Value.agg L1.toArray, Value.bool hb], Value.agg L1.toArray, Value.bool hb, Value.tuple #[Value.agg L2.toArray, Value.bool hb], Value.pointer (some { block := pr, off := 0 }), Value.pointer (some { block := w.heap.size, off := 1 }), Value.int IntKind.i64 f, Value.pointer (some { block := w.heap.size, off := 2 }), Value.int IntKind.i64 t, Value.tuple #[Value.agg L2.toArray, Value.bool hb], Value.agg L2.toArray, Value.bool hb, Value.pointer (some { block := p, off := 0 }), Value.pointer (some { block := w.heap.size, off := 1 }), Value.int IntKind.i64 f, Value.pointer (some { block := w.heap.size, off := 2 }), Value.int IntKind.i64 t, Value.func (Fn.func 44) #[] #[Value.pointer (some { block := Bt, off := 0 })], Value.func (Fn.func 44) #[] #[Value.pointer (some { block := Bt, off := 0 })], Value.bool false, Value.pointer (some { block := pr, off := 0 }), Value.pointer (some { block := w.heap.size, off := 1 }), Value.int IntKind.i64 f, Value.pointer (some { block := w.heap.size, off := 2 }), Value.int IntKind.i64 t, Value.slice A2 l.length c2, Value.func (Fn.func 44) #[] #[Value.pointer (some { block := Bt, off := 0 })], Value.agg (encG x.1 x.2).toArray, undef, undef, undef, undef, undef, undef, undef, undef, undef, undef, undef, undef, undef, undef, undef, undef, undef, undef, undef, undef, undef, undef, undef, undef, undef, undef, undef, undef, undef, undef, undef, undef, undef, undef, undef, undef, undef, undef, undef, undef, undef, undef, undef, undef, undef, undef, undef, undef, undef, undef, undef, undef, undef, undef, undef, undef, undef, undef, undef, undef, undef], defers := [] } w5 from fun w5 x5 g5 =>
      hK _ w5 g5 ⟨hx, W.heap.size, by have := HU9.out; omega, x5, hsl.ge g5, rfl⟩)
    clear hK hsl hx hgw hkw hgi hxi
    unfold encX
    generalize (encG x.1 x.2).toArray = L at *
    gi_wp2_with (refine wpListIn_store_msg (by rfl) (.tmp 18) (.tmp 70) (by rfl) W.heap.size L (by rfl) (by rfl) (Bx.new _ 45 _ rfl) rfl HLNx.out HONx.out (w0 := W) (Nat.le_refl _) ((Ge.refl _).alloc _) ?_; intro w5 x5 g5 f5; have HX5 := Lib.hid x5; have HG5 := Lib.hid g5; clear x5 g5 f5)
    exact HK.out _ HX5.out HG5.out
  case body =>
    rintro lp pre x a' W ⟨hgw, hkw, hple, hsz⟩ ⟨hx, bx, hbx, hX, hsl, rfl⟩
    obtain ⟨g8, o8, s8, rfl, hg8, hs8, hr8⟩ := row_at (HRZ.out W hgw) (fun b hb => Nat.lt_of_lt_of_le hb (by have := HU9.out; omega)) hx
    have hlt : pre.length < l.length := (List.getElem?_eq_some_iff.1 hx).1
    have HX0 := Lib.hid hX
    have HLNx := Lib.hid (show (encG x.1 x.2).toArray.size = 19 from rfl)
    have HLN8 := Lib.hid (show (encG x.1 s8).length = 19 from rfl)
    have hsame := (fun w' (g : Ge W w') => rsame (hsl.ge g) (hs8.ge g) (HLS.out x.1 (List.mem_of_getElem? hx)))
    rw [decide_eq_true rfl] at hsame
    have HSAME := Lib.hid hsame
    have HR8 := Lib.hid hr8
    have HZ1 := Lib.hid (fun w' (g : Ge W w') => (hkw.ge g).cell 0)
    have HZ2 := Lib.hid (fun w' (g : Ge W w') => (HB16.out.ge (hgw.trans g)).cell 0)
    have HZ3 := Lib.hid (fun w' (g : Ge W w') => (hkw.ge g).frozen 0)
    have HZ4 := Lib.hid (fun w' (g : Ge W w') => (hkw.ge g).lt)
    have HZ5 := Lib.hid (fun w' (g : Ge W w') => (HB16.out.ge (hgw.trans g)).lt)
    have hl64 := HL64.out
    have ew : wrap64 ((pre.length : Int) + 1) = ((pre.length + 1 : Nat) : Int) := by unfold wrap64; omega
    have HP := Lib.hid (show ∀ w3, Ge W w3 → KeepsFrom w9.heap.size W (w3.setCell ⟨u8.heap.size + 1, 0, none⟩ (.int .i64 ((pre.length + 1 : Nat) : Int))) ∧ Below u7.heap.size W (w3.setCell ⟨u8.heap.size + 1, 0, none⟩ (.int .i64 ((pre.length + 1 : Nat) : Int))) ∧
        Ge wz (w3.setCell ⟨u8.heap.size + 1, 0, none⟩ (.int .i64 ((pre.length + 1 : Nat) : Int))) ∧ Bx (w3.setCell ⟨u8.heap.size + 1, 0, none⟩ (.int .i64 ((pre.length + 1 : Nat) : Int))) (u8.heap.size + 1) 3 #[.int .i64 ((pre.length + 1 : Nat) : Int)] ∧ w9.heap.size ≤ (w3.setCell ⟨u8.heap.size + 1, 0, none⟩ (.int .i64 ((pre.length + 1 : Nat) : Int))).heap.size from fun w3 g => by
      have q5 := hkw.ge g
      have q6 : Bx (w3.setCell ⟨u8.heap.size + 1, 0, none⟩ (.int .i64 ((pre.length + 1 : Nat) : Int))) (u8.heap.size + 1) 3 #[.int .i64 ((pre.length + 1 : Nat) : Int)] := q5.set 0 _
      have k6 := keeps_of (W' := w3.setCell ⟨u8.heap.size + 1, 0, none⟩ (.int .i64 ((pre.length + 1 : Nat) : Int))) (fun c hc => Below.heap_setCell _ _ _ c hc) q5 q6
      exact ⟨(g.others.trans k6).from _, Below.setCell (g.mono (by have := HU9.out; have := HSU.out; omega)) (by show _ ≤ u8.heap.size + 1; have := HSU.out; omega) _, Below.setCell (hgw.trans g) (by show wz.heap.size ≤ u8.heap.size + 1; have := HSZ.out; omega) _, q6, Nat.le_trans hsz (Nat.le_trans g.size k6.size)⟩)
    have i1 : (0 : Int) ≤ (pre.length : Int) := by omega
    have i2 : (pre.length : Int) < (l.length : Int) := by omega
    have v1 : decide ((l.length : Int) ≤ (pre.length : Int)) = false := by simp; omega
    clear hx hX hsl hgw hkw hple hsz hs8 hr8 hsame hgi hxi
    generalize (encG x.1 x.2).toArray = L at *
    generalize encG x.1 s8 = E8 at *
    have HPL := Lib.hid (show (pre ++ [x]).length = pre.length + 1 by simp)
    generalize hkp : pre.length = k at *
    gi_wp2_with fail
    refine Dr.wpIn_region_T (w0 := W) (by kernel_rfl) (by kernel_rfl) (by kernel_rfl) ?_
    iterate 5 (apply Dr.wpT_det; · (intro u w3 hw hF; clear hF; have z1 := HZ1.out w3 hw; have z2 := HZ2.out w3 hw; go_simp; first | exact ⟨Ge.refl _, rfl⟩ | exact Ge.refl _ | rfl))
    refine wpT_msg (.tmp 18) bx L (by rfl) (by intro u; go_simp) (fun _ g => HX0.out.ge g) HLNx.out (by intro u; go_simp) ?_
    iterate 3 (apply Dr.wpT_det; · (intro u w3 hw hF; clear hF; have z1 := HZ1.out w3 hw; have z2 := HZ2.out w3 hw; go_simp; first | exact ⟨Ge.refl _, rfl⟩ | exact Ge.refl _ | rfl))
    refine wpT_msg_at (.tmp 79) g8 (o8 + k * 19) E8 (by rfl) (by intro u; go_simp) (fun w3 g => HR8.out w3 g) HLN8.out (by intro u; go_simp) ?_
    refine wpT_call 17 #[.agg L, .agg E8.toArray] (.bool true) (by intro u; go_simp) (by intro u w7; go_simp) (fun w7 g => HSAME.out w7 g) ?_
    iterate 2 (apply Dr.wpT_det; · (intro u w3 hw hF; clear hF; go_simp; first | exact ⟨Ge.refl _, rfl⟩ | exact Ge.refl _ | rfl))
    intro u w3 hw hF
    clear hF
    have HPP := Lib.hid (HP.out w3 hw)
    have z1 := HZ1.out w3 hw
    have z3 := HZ3.out w3 hw
    have z4 := HZ4.out w3 hw
    clear hw
    simp only [Act.put, List.setIfInBounds_toArray, List.set_cons_zero, List.set_cons_succ]
    gi_wp2
    exact ⟨HPP.out.1, HPP.out.2.1, HPP.out.2.2.1, by rw [HPL.out]; exact HPP.out.2.2.2.1, by rw [HPL.out]; omega, HPP.out.2.2.2.2⟩
  case done =>
    rintro D xs W hD hS ⟨hgw, hkw, hple, hsz⟩ hK
    have hxl : xs.length = l.length := by rw [← hS]; simp
    rw [hxl] at hkw
    have hH := H.out.next hgw
    have HDK := Lib.hid (fun w' (g : Ge W w') => (g.block D (Array.getElem?_eq_some_iff.1 hK).1).trans hK)
    have HZ1 := Lib.hid (fun w' (g : Ge W w') => (hkw.ge g).cell 0)
    have HZ2 := Lib.hid (fun w' (g : Ge W w') => (HB16.out.ge (hgw.trans g)).cell 0)
    have HZ11 := Lib.hid (fun w' (g : Ge W w') => HB11.out.ge (hgw.trans g))
    have HZ13 := Lib.hid (fun w' (g : Ge W w') => HB13.out.ge (hgw.trans g))
    have HZT1 := Lib.hid (fun w' (g : Ge W w') => ((hH.t.ge g).cell 1).trans hD1)
    have HZT2 := Lib.hid (fun w' (g : Ge W w') => ((hH.t.ge g).cell 2).trans hD2)
    have HZT3 := Lib.hid (fun w' (g : Ge W w') => (hH.t.ge g).lt)
    have HZR := Lib.hid (fun w' (g : Ge W w') => hH.r.ge g)
    have HZG := Lib.hid hH.ge
    have hsame := (fun w' (g : Ge W w') => rsame (HS1.out.ge (hgw.trans g)) (HS2.out.ge (hgw.trans g)) HSH.out)
    rw [decide_eq_true rfl, HE1.out, HE2.out] at hsame
    have HSAME := Lib.hid hsame
    have HDD := Lib.hid (show w.heap.size + 2 ≤ D from Nat.le_trans (show w.heap.size + 2 ≤ w9.heap.size by have := H.out.r.lt; have := HU9.out; have := HSZ.out; omega) hD)
    clear hsame hH hkw hgw hK hS hxl hple hsz hD hgi hxi
    gi_wp2_with fail
    refine wpIn_wide.2 ?_
    refine Dr.wp_region_TU 46 (by kernel_rfl) (by kernel_rfl) (by decide) (by kernel_rfl) ?_
    iterate 15 (apply Dr.wpT_det; · (intro u w3 hw hF; clear hF; have z1 := HZ1.out w3 hw; have z2 := HZ2.out w3 hw; go_simp; first | exact ⟨Ge.refl _, rfl⟩ | exact Ge.refl _ | rfl))
    refine wpT_msg (.tmp 11) u3.heap.size L1.toArray (by rfl) (by intro u; go_simp) (fun w3 g => HZ11.out w3 g) HLN1.out (by intro u; go_simp) ?_
    refine wpT_msg (.tmp 13) u5.heap.size L2.toArray (by rfl) (by intro u; go_simp) (fun w3 g => HZ13.out w3 g) HLN2.out (by intro u; go_simp) ?_
    refine wpT_call 17 #[.agg L1.toArray, .agg L2.toArray] (.bool true) (by intro u; go_simp) (by intro u w7; go_simp) (fun w7 g => HSAME.out w7 g) ?_
    iterate 12 (apply Dr.wpT_det; · (intro u w3 hw hF; clear hF; have z1 := HZT1.out w3 hw; have z2 := HZT2.out w3 hw; go_simp; first | exact ⟨Ge.refl _, rfl⟩ | exact Ge.refl _ | rfl))
    refine wpT_call 22 #[.pointer (some ⟨p, 0, none⟩), .int .i64 f, .int .i64 t] (.int .i64 rm) (by intro u; go_simp) (by intro u w7; go_simp) (fun w7 g => HR1.out w7 (HZG.out.trans g)) ?_
    iterate 5 (apply Dr.wpT_det; · (intro u w3 hw hF; clear hF; have z1 := HZT1.out w3 hw; have z2 := HZT2.out w3 hw; go_simp; first | exact ⟨Ge.refl _, rfl⟩ | exact Ge.refl _ | rfl))
    refine wpT_call 41 #[.pointer (some ⟨pr, 0, none⟩), .int .i64 f, .int .i64 t] (.int .i64 rm) (by intro u; go_simp) (by intro u w7; go_simp) (fun w7 g => HR2.out w7 (HZG.out.trans g)) ?_
    iterate 4 (apply Dr.wpT_det; · (intro u w3 hw hF; clear hF; go_simp; first | exact ⟨Ge.refl _, rfl⟩ | exact Ge.refl _ | rfl))
    refine wpT_call 23 #[.pointer (some ⟨p, 0, none⟩)] (.int .i64 (lf : Int)) (by intro u; go_simp) (by intro u w7; go_simp) (fun w7 g => HL1.out w7 (HZG.out.trans g)) ?_
    iterate 1 (apply Dr.wpT_det; · (intro u w3 hw hF; clear hF; go_simp; first | exact ⟨Ge.refl _, rfl⟩ | exact Ge.refl _ | rfl))
    refine wpT_call 42 #[.pointer (some ⟨pr, 0, none⟩)] (.int .i64 (lf : Int)) (by intro u; go_simp) (by intro u w7; go_simp) (fun w7 g => HL2.out w7 (HZG.out.trans g)) ?_
    iterate 2 (apply Dr.wpT_det; · (intro u w3 hw hF; clear hF; go_simp; first | exact ⟨Ge.refl _, rfl⟩ | exact Ge.refl _ | rfl))
    intro u w7 hw hF
    clear hF
    have hq := HZR.out w7 hw
    have HQ := Lib.hid hq
    have HDW := Lib.hid (HDK.out w7 hw)
    have HGW := Lib.hid (HZG.out.trans hw)
    have c6 := hq.cell
    have z6 := hq.frozen
    have n6 := hq.lt
    clear hw hq
    simp only [Act.put, List.setIfInBounds_toArray, List.set_cons_zero, List.set_cons_succ]
    go_wp2
    obtain ⟨w8', hw8⟩ : ∃ x, x = w7.setCell ⟨w.heap.size + 1, 0, none⟩ (.bool true) := ⟨_, rfl⟩
    rw [← hw8]
    have hdd := HDD.out
    have k8 : w8'.heap[D]? = some (.deferred (some [])) := by rw [hw8]; exact (Below.heap_setCell _ _ _ _ (by show D ≠ w.heap.size + 1; omega)).trans HDW.out
    have G8 : Ge w w8' := by rw [hw8]; exact Below.setCell HGW.out (by show w.heap.size ≤ w.heap.size + 1; omega) _
    have B8 : Bx w8' (w.heap.size + 1) 4 #[.bool true] := by rw [hw8]; exact HQ.out.set 0 _
    have B9 : Bx (w8'.putObj D (.deferred none)) (w.heap.size + 1) 4 #[.bool true] := (World.putObj_heap_other (by omega)).trans B8
    have G9 : Ge w (w8'.putObj D (.deferred none)) := Below.trans G8 (belowK_b (w := w) (Nat.le_refl _) _ D _ _ (by omega) k8 rfl rfl)
    have c3 := B9.cell
    clear hw8 c6 z6 n6 B8 G8
    gi_wp2
    refine ⟨by simp, .inl ⟨_, _, rfl, run_takeDeferred k8, ?_⟩⟩
    refine ⟨.bool true, by simp [results, Tryd.results18, go_sem, c3], rfl, G9⟩
  case stop =>
    rintro D c pre W hD _ hf hK
    exact hf.elim
end Go.Proofs.YtmhibpmgnicolaaDoor
