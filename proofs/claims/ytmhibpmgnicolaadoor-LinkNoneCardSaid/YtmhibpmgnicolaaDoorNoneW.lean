/-
  LinkNone: the walk. Printed by gen_nonew.py.
-/
import Derived.Test.YtmhibpmgnicolaaDoorNone
import Derived.Test.YtmhibpmgnicolaaDoorLive
namespace Go.Proofs.YtmhibpmgnicolaaDoor
open Go.RowKit Go.Shelf
attribute [local go_sem] Oper.semAt_some

structure Hn (w : World) (T R Z Y : Nat) (D : Array Value) (ds : List Nat) (W : World) : Prop where
  t : Bx W T 47 D
  r : Bx W R 4 #[.bool false]
  z : Bx W Z 58 #[.int .i64 0, .int .i64 0, .slice none 0 0]
  y : Bx W Y 24 #[.pointer none, .pointer (some ⟨Z, 0, none⟩)]
  ge : Ge w W
  df : ∀ d ∈ ds, w.heap.size ≤ d ∧ W.heap[d]? = some (.deferred (some []))
theorem Hn.next {w : World} {T R Z Y : Nat} {D : Array Value} {ds : List Nat} {W W' : World} (h : Hn w T R Z Y D ds W) (g : Ge W W') : Hn w T R Z Y D ds W' :=
  ⟨h.t.ge g, h.r.ge g, h.z.ge g, h.y.ge g, h.ge.trans g, fun d hd => ⟨(h.df d hd).1, (g.block d (Array.getElem?_eq_some_iff.1 (h.df d hd).2).1).trans (h.df d hd).2⟩⟩

set_option maxRecDepth 100000 in
set_option maxHeartbeats 16000000 in
theorem none_any {w : World} (hT : Tabs w) (d f t : Int) (m : Msg) (s : Sls) :
    Calls Tryd.prog 4 #[.agg (.int .i64 d :: .int .i64 f :: .int .i64 t :: encG m s).toArray] w fun e w' => e = .returned (.bool true) ∧ Ge w w' := by
  obtain ⟨D, hD⟩ : ∃ D : Array Value, D = (.int .i64 d :: .int .i64 f :: .int .i64 t :: encG m s).toArray := ⟨_, rfl⟩
  rw [← hD]
  have hD1 : D[1]? = some (.int .i64 f) := by rw [hD]; simp
  have hD2 : D[2]? = some (.int .i64 t) := by rw [hD]; simp
  have HD3 := Lib.hid (show ∀ j v, (encG m s)[j]? = some v → D[3 + j]? = some v from fun j v hv => by rw [hD, show 3 + j = j + 1 + 1 + 1 by omega]; simpa using hv)
  have HLEN := Lib.hid (show (encG m s).length = 19 from rfl)
  have HHEAD := Lib.hid (fun W v (h : NoNet W v) => head_no h f t)
  have HTAKE := Lib.hid (fun W v (h : NoNet W v) => take_no h f t)
  have HSEND := Lib.hid (fun W v (h : NoNet W v) => send_no h f t m s)
  have HS1 := Lib.hid (fun W => rsame (nilS_at 0 W mzero) (nilS_at 0 W mzero) (a := mzero) (b := mzero) ⟨Nat.zero_le _, Nat.zero_le _, Nat.zero_le _, Nat.zero_le _, (fun _ h => by cases h), Nat.zero_le _, Nat.zero_le _⟩)
  rw [decide_eq_true (rfl : mzero = mzero)] at HS1
  have HS2 := HS1
  have hz := zero_msg
  have HSZ := Lib.hid (show (encG mzero nilS).toArray.size = 19 from rfl)
  have HONE := Lib.hid (show ∀ u ∈ (encG mzero nilS).toArray.toList, u.oneCell' = true from by intro u hu; exact encG_one (show SlAt 0 w nilS mzero from nilS_at 0 w mzero) u (by simpa using hu))
  generalize hZM : (encG mzero nilS).toArray = ZM at *
  have HS3 := Lib.hid (show ∀ W, Calls Tryd.prog 17 #[.agg ZM, .agg #[.int .i64 0, .int .i64 0, .int .i64 0, .int .i64 0, .int .i64 0, .int .i64 0, .int .i64 0, .int .i64 0, .int .i64 0, .int .i64 0, .slice none 0 0, .slice none 0 0, .slice none 0 0, .slice none 0 0, .slice none 0 0, .int .i64 0, .slice none 0 0, .bool false, .int .i64 0]] W fun e w' => e = .returned (.bool true) ∧ Ge W w' from fun W => by rw [← hz]; exact HS2.out W)
  clear hz hZM HS2 hD
  generalize encG m s = EM at *
  refine (callsIn_wide (n := 3)).1 ?_
  refine callsIn_of_wp_marks Tryd.func4 rfl trivial ?_ rfl
  simp only [Tryd.ntmps4, List.size_toArray, List.length_cons, List.length_nil, Nat.reduceAdd, Nat.reduceSub, Array.replicate_succ, Array.replicate_zero, List.push_toArray, List.append_toArray, List.nil_append, List.cons_append]
  have f8 : Fence.wide.fn 8 := trivial
  have f19 : Fence.wide.fn 19 := trivial
  have f13 : Fence.wide.fn 13 := trivial
  have f20 : Fence.wide.fn 20 := trivial
  have f21 : Fence.wide.fn 21 := trivial
  have f17 : Fence.wide.fn 17 := trivial
  have f14 : Fence.wide.fn 14 := trivial
  have f22 : Fence.wide.fn 22 := trivial
  have f23 : Fence.wide.fn 23 := trivial
  have f12 : Fence.wide.fn 12 := trivial
  gi_wp2_with fail
  refine (callsIn_wide.2 (live_any (hT.ge (((Ge.refl w).alloc _).alloc _)))).mono ?_
  rintro e w1 ⟨rfl, hg1⟩
  have XT := Lib.hid (((Bx.new w 47 D rfl).alloc (.cells #[.bool false] 4)).ge hg1)
  have XR := Lib.hid (show Bx w1 (w.heap.size + 1) 4 #[.bool false] by simpa using (Bx.new (w.alloc (.cells D 47)) 4 #[.bool false] rfl).ge hg1)
  have G1 := Lib.hid ((((Ge.refl w).alloc _).alloc _).trans hg1)
  clear hg1 hT
  gi_wp2
  obtain ⟨W1, hW1⟩ : ∃ W1, W1 = (w1.alloc (.cells #[.int .i64 0, .int .i64 0, .slice none 0 0] 58)).alloc (.cells #[.pointer none, .pointer (some ⟨w1.heap.size, 0, none⟩)] 24) := ⟨_, rfl⟩
  rw [← hW1]
  have H : Hn w w.heap.size (w.heap.size + 1) w1.heap.size (w1.heap.size + 1) D [] W1 := by
    rw [hW1]
    exact ⟨(XT.out.alloc _).alloc _, (XR.out.alloc _).alloc _, (Bx.new _ _ _ rfl).alloc _, Bx.new _ _ _ (by simp), (G1.out.alloc _).alloc _, fun d hd => by cases hd⟩
  have hw1 : w.heap.size + 1 < w1.heap.size := XR.out.lt
  clear hW1 XT XR G1
  replace H := Lib.hid H
  refine wpIn_loop_rounds 3 ?_
  -- round 0
  have HNN := Lib.hid (show NoNet W1 (.pointer none) from .inl rfl)
  have cT1 := (H.out.t.cell 1).trans hD1
  have cT2 := (H.out.t.cell 2).trans hD2
  have lT := H.out.t.lt
  have cY := H.out.y.cell
  have lY := H.out.y.lt
  rw [roundsIn_succ]
  gi_wp2_with fail
  refine (callsIn_wide.2 (HHEAD.out _ _ HNN.out)).mono ?_
  rintro e u1 ⟨rfl, hgu⟩
  clear cT1 cT2 lT cY lY
  replace H := Lib.hid (H.out.next hgu)
  replace HNN := Lib.hid (HNN.out.ge hgu)
  clear hgu
  have cT1 := (H.out.t.cell 1).trans hD1
  have cT2 := (H.out.t.cell 2).trans hD2
  have lT := H.out.t.lt
  have cY := H.out.y.cell
  have lY := H.out.y.lt
  gi_wp2_with (refine wpListIn_store_msg (by rfl) (.tmp 5) (.tmp 29) (by rfl) u1.heap.size ZM (by rfl) (by rfl) (Bx.new _ 45 _ rfl) rfl HSZ.out HONE.out (w0 := u1) (Nat.le_refl _) ((Ge.refl _).alloc _) ?_; intro u2 x5 g5 f5; clear f5 cT1 cT2 lT cY lY; have HB5 := Lib.hid x5; replace H := Lib.hid (H.out.next g5); replace HNN := Lib.hid (HNN.out.ge g5); clear x5 g5; have cT1 := (H.out.t.cell 1).trans hD1; have cT2 := (H.out.t.cell 2).trans hD2; have lT := H.out.t.lt; have cY := H.out.y.cell; have lY := H.out.y.lt)
  refine (callsIn_wide.2 (HTAKE.out _ _ HNN.out)).mono ?_
  rintro e u3 ⟨rfl, hgu⟩
  clear cT1 cT2 lT cY lY
  replace H := Lib.hid (H.out.next hgu)
  replace HNN := Lib.hid (HNN.out.ge hgu)
  replace HB5 := Lib.hid (HB5.out.ge hgu)
  clear hgu
  have cT1 := (H.out.t.cell 1).trans hD1
  have cT2 := (H.out.t.cell 2).trans hD2
  have lT := H.out.t.lt
  have cY := H.out.y.cell
  have lY := H.out.y.lt
  gi_wp2_with (refine wpListIn_store_msg (by rfl) (.tmp 7) (.tmp 38) (by rfl) u3.heap.size ZM (by rfl) (by rfl) (Bx.new _ 45 _ rfl) rfl HSZ.out HONE.out (w0 := u3) (Nat.le_refl _) ((Ge.refl _).alloc _) ?_; intro u4 x5 g5 f5; clear f5 cT1 cT2 lT cY lY; have HB7 := Lib.hid x5; replace H := Lib.hid (H.out.next g5); replace HNN := Lib.hid (HNN.out.ge g5); replace HB5 := Lib.hid (HB5.out.ge g5); clear x5 g5; have cT1 := (H.out.t.cell 1).trans hD1; have cT2 := (H.out.t.cell 2).trans hD2; have lT := H.out.t.lt; have cY := H.out.y.cell; have lY := H.out.y.lt)
  refine (callsIn_wide.2 (counts_no HNN.out f t)).mono ?_
  rintro e u5 ⟨rfl, hgu⟩
  clear cT1 cT2 lT cY lY
  replace H := Lib.hid (H.out.next hgu)
  replace HNN := Lib.hid (HNN.out.ge hgu)
  replace HB5 := Lib.hid (HB5.out.ge hgu)
  replace HB7 := Lib.hid (HB7.out.ge hgu)
  clear hgu
  have cT1 := (H.out.t.cell 1).trans hD1
  have cT2 := (H.out.t.cell 2).trans hD2
  have lT := H.out.t.lt
  have cY := H.out.y.cell
  have lY := H.out.y.lt
  gi_wp2_with fail
  refine (callsIn_wide.2 (all_no HNN.out f t)).mono ?_
  rintro e u6 ⟨Bt0, rfl, hXB, hgu⟩
  clear cT1 cT2 lT cY lY
  replace H := Lib.hid (H.out.next hgu)
  replace HNN := Lib.hid (HNN.out.ge hgu)
  replace HB5 := Lib.hid (HB5.out.ge hgu)
  replace HB7 := Lib.hid (HB7.out.ge hgu)
  have HXB := Lib.hid hXB
  clear hXB
  clear hgu
  have cT1 := (H.out.t.cell 1).trans hD1
  have cT2 := (H.out.t.cell 2).trans hD2
  have lT := H.out.t.lt
  have cY := H.out.y.cell
  have lY := H.out.y.lt
  have hn44 := nil44
  gi_wp2_with fail
  clear hn44
  have HSZW := Lib.hid H.out.ge.size
  refine range_none (gf := 44) (lb := #[.pointer (some ⟨Bt0, 0, none⟩)]) rfl (enters_of Tryd.func44 (by kernel_rfl) rfl) (seq_none _ _ HXB.out) ?_
  rintro D0 V0 hD hgu hK
  clear cT1 cT2 lT cY lY
  clear HXB
  replace H := Lib.hid (H.out.next hgu)
  replace HNN := Lib.hid (HNN.out.ge hgu)
  replace HB5 := Lib.hid (HB5.out.ge hgu)
  replace HB7 := Lib.hid (HB7.out.ge hgu)
  skip
  replace H : Hid (Hn w w.heap.size (w.heap.size + 1) w1.heap.size (w1.heap.size + 1) D [D0] V0) := Lib.hid ⟨H.out.t, H.out.r, H.out.z, H.out.y, H.out.ge, fun d hd => by
    rcases List.mem_cons.1 hd with rfl | hd
    · exact ⟨Nat.le_trans HSZW.out hD, hK⟩
    · exact H.out.df d hd⟩
  clear hD hgu hK HSZW
  have cT1 := (H.out.t.cell 1).trans hD1
  have cT2 := (H.out.t.cell 2).trans hD2
  have lT := H.out.t.lt
  have cY := H.out.y.cell
  have lY := H.out.y.lt
  gi_wp2_with (first | (refine wpListIn_load_msg (by go_simp) (.tmp 5) (by rfl) _ (by rfl) ZM HB5.out HSZ.out ?_) | (refine wpListIn_load_msg (by go_simp) (.tmp 7) (by rfl) _ (by rfl) ZM HB7.out HSZ.out ?_))
  refine (callsIn_wide.2 (HS1.out _)).mono ?_
  rintro e u7 ⟨rfl, hgu⟩
  clear cT1 cT2 lT cY lY
  replace H := Lib.hid (H.out.next hgu)
  replace HNN := Lib.hid (HNN.out.ge hgu)
  replace HB5 := Lib.hid (HB5.out.ge hgu)
  replace HB7 := Lib.hid (HB7.out.ge hgu)
  clear hgu
  have cT1 := (H.out.t.cell 1).trans hD1
  have cT2 := (H.out.t.cell 2).trans hD2
  have lT := H.out.t.lt
  have cY := H.out.y.cell
  have lY := H.out.y.lt
  gi_wp2_with (first | (refine wpListIn_load_msg (by go_simp) (.tmp 5) (by rfl) _ (by rfl) ZM HB5.out HSZ.out ?_))
  refine (callsIn_wide.2 (HS3.out _)).mono ?_
  rintro e u8 ⟨rfl, hgu⟩
  clear cT1 cT2 lT cY lY
  replace H := Lib.hid (H.out.next hgu)
  replace HNN := Lib.hid (HNN.out.ge hgu)
  replace HB5 := Lib.hid (HB5.out.ge hgu)
  replace HB7 := Lib.hid (HB7.out.ge hgu)
  clear hgu
  have cT1 := (H.out.t.cell 1).trans hD1
  have cT2 := (H.out.t.cell 2).trans hD2
  have lT := H.out.t.lt
  have cY := H.out.y.cell
  have lY := H.out.y.lt
  have HRG := Lib.hid (show World.rangeAt u8 w.heap.size 3 EM from fun j v hj => (H.out.t.cell _).trans (HD3.out j v hj))
  gi_wp2_with (refine wpListIn_load_at (by go_simp) (.tmp 90) (by rfl) w.heap.size 3 (by rfl) EM HRG.out HLEN.out ?_)
  refine (callsIn_wide.2 (HSEND.out _ _ HNN.out)).mono ?_
  rintro e u9 ⟨rfl, hgu⟩
  clear cT1 cT2 lT cY lY
  replace H := Lib.hid (H.out.next hgu)
  replace HNN := Lib.hid (HNN.out.ge hgu)
  replace HB5 := Lib.hid (HB5.out.ge hgu)
  replace HB7 := Lib.hid (HB7.out.ge hgu)
  clear HRG
  clear hgu
  have cT1 := (H.out.t.cell 1).trans hD1
  have cT2 := (H.out.t.cell 2).trans hD2
  have lT := H.out.t.lt
  have cY := H.out.y.cell
  have lY := H.out.y.lt
  gi_wp2_with fail
  refine (callsIn_wide.2 (room_no HNN.out f t)).mono ?_
  rintro e u10 ⟨rfl, hgu⟩
  clear cT1 cT2 lT cY lY
  replace H := Lib.hid (H.out.next hgu)
  replace HNN := Lib.hid (HNN.out.ge hgu)
  replace HB5 := Lib.hid (HB5.out.ge hgu)
  replace HB7 := Lib.hid (HB7.out.ge hgu)
  clear hgu
  have cT1 := (H.out.t.cell 1).trans hD1
  have cT2 := (H.out.t.cell 2).trans hD2
  have lT := H.out.t.lt
  have cY := H.out.y.cell
  have lY := H.out.y.lt
  gi_wp2_with fail
  refine (callsIn_wide.2 (left_no HNN.out)).mono ?_
  rintro e u11 ⟨rfl, hgu⟩
  clear cT1 cT2 lT cY lY
  replace H := Lib.hid (H.out.next hgu)
  replace HNN := Lib.hid (HNN.out.ge hgu)
  replace HB5 := Lib.hid (HB5.out.ge hgu)
  replace HB7 := Lib.hid (HB7.out.ge hgu)
  clear hgu
  have cT1 := (H.out.t.cell 1).trans hD1
  have cT2 := (H.out.t.cell 2).trans hD2
  have lT := H.out.t.lt
  have cY := H.out.y.cell
  have lY := H.out.y.lt
  gi_wp2_with fail
  refine (callsIn_wide.2 (clone_no HNN.out)).mono ?_
  rintro e u12 ⟨rfl, hgu⟩
  clear cT1 cT2 lT cY lY
  replace H := Lib.hid (H.out.next hgu)
  replace HNN := Lib.hid (HNN.out.ge hgu)
  replace HB5 := Lib.hid (HB5.out.ge hgu)
  replace HB7 := Lib.hid (HB7.out.ge hgu)
  clear hgu
  have cT1 := (H.out.t.cell 1).trans hD1
  have cT2 := (H.out.t.cell 2).trans hD2
  have lT := H.out.t.lt
  have cY := H.out.y.cell
  have lY := H.out.y.lt
  skip
  gi_wp2
  clear cT1 cT2 lT cY lY
  clear HB5 HB7 HNN
  -- round 1
  have HNN := Lib.hid (show NoNet u12 (.pointer (some ⟨w1.heap.size, 0, none⟩)) from .inr ⟨_, rfl, H.out.z.cell 0⟩)
  have cT1 := (H.out.t.cell 1).trans hD1
  have cT2 := (H.out.t.cell 2).trans hD2
  have lT := H.out.t.lt
  have cY := H.out.y.cell
  have lY := H.out.y.lt
  rw [roundsIn_succ]
  gi_wp2_with fail
  refine (callsIn_wide.2 (HHEAD.out _ _ HNN.out)).mono ?_
  rintro e u13 ⟨rfl, hgu⟩
  clear cT1 cT2 lT cY lY
  replace H := Lib.hid (H.out.next hgu)
  replace HNN := Lib.hid (HNN.out.ge hgu)
  clear hgu
  have cT1 := (H.out.t.cell 1).trans hD1
  have cT2 := (H.out.t.cell 2).trans hD2
  have lT := H.out.t.lt
  have cY := H.out.y.cell
  have lY := H.out.y.lt
  gi_wp2_with (refine wpListIn_store_msg (by rfl) (.tmp 5) (.tmp 29) (by rfl) u13.heap.size ZM (by rfl) (by rfl) (Bx.new _ 45 _ rfl) rfl HSZ.out HONE.out (w0 := u13) (Nat.le_refl _) ((Ge.refl _).alloc _) ?_; intro u14 x5 g5 f5; clear f5 cT1 cT2 lT cY lY; have HB5 := Lib.hid x5; replace H := Lib.hid (H.out.next g5); replace HNN := Lib.hid (HNN.out.ge g5); clear x5 g5; have cT1 := (H.out.t.cell 1).trans hD1; have cT2 := (H.out.t.cell 2).trans hD2; have lT := H.out.t.lt; have cY := H.out.y.cell; have lY := H.out.y.lt)
  refine (callsIn_wide.2 (HTAKE.out _ _ HNN.out)).mono ?_
  rintro e u15 ⟨rfl, hgu⟩
  clear cT1 cT2 lT cY lY
  replace H := Lib.hid (H.out.next hgu)
  replace HNN := Lib.hid (HNN.out.ge hgu)
  replace HB5 := Lib.hid (HB5.out.ge hgu)
  clear hgu
  have cT1 := (H.out.t.cell 1).trans hD1
  have cT2 := (H.out.t.cell 2).trans hD2
  have lT := H.out.t.lt
  have cY := H.out.y.cell
  have lY := H.out.y.lt
  gi_wp2_with (refine wpListIn_store_msg (by rfl) (.tmp 7) (.tmp 38) (by rfl) u15.heap.size ZM (by rfl) (by rfl) (Bx.new _ 45 _ rfl) rfl HSZ.out HONE.out (w0 := u15) (Nat.le_refl _) ((Ge.refl _).alloc _) ?_; intro u16 x5 g5 f5; clear f5 cT1 cT2 lT cY lY; have HB7 := Lib.hid x5; replace H := Lib.hid (H.out.next g5); replace HNN := Lib.hid (HNN.out.ge g5); replace HB5 := Lib.hid (HB5.out.ge g5); clear x5 g5; have cT1 := (H.out.t.cell 1).trans hD1; have cT2 := (H.out.t.cell 2).trans hD2; have lT := H.out.t.lt; have cY := H.out.y.cell; have lY := H.out.y.lt)
  refine (callsIn_wide.2 (counts_no HNN.out f t)).mono ?_
  rintro e u17 ⟨rfl, hgu⟩
  clear cT1 cT2 lT cY lY
  replace H := Lib.hid (H.out.next hgu)
  replace HNN := Lib.hid (HNN.out.ge hgu)
  replace HB5 := Lib.hid (HB5.out.ge hgu)
  replace HB7 := Lib.hid (HB7.out.ge hgu)
  clear hgu
  have cT1 := (H.out.t.cell 1).trans hD1
  have cT2 := (H.out.t.cell 2).trans hD2
  have lT := H.out.t.lt
  have cY := H.out.y.cell
  have lY := H.out.y.lt
  gi_wp2_with fail
  refine (callsIn_wide.2 (all_no HNN.out f t)).mono ?_
  rintro e u18 ⟨Bt1, rfl, hXB, hgu⟩
  clear cT1 cT2 lT cY lY
  replace H := Lib.hid (H.out.next hgu)
  replace HNN := Lib.hid (HNN.out.ge hgu)
  replace HB5 := Lib.hid (HB5.out.ge hgu)
  replace HB7 := Lib.hid (HB7.out.ge hgu)
  have HXB := Lib.hid hXB
  clear hXB
  clear hgu
  have cT1 := (H.out.t.cell 1).trans hD1
  have cT2 := (H.out.t.cell 2).trans hD2
  have lT := H.out.t.lt
  have cY := H.out.y.cell
  have lY := H.out.y.lt
  have hn44 := nil44
  gi_wp2_with fail
  clear hn44
  have HSZW := Lib.hid H.out.ge.size
  have HL0 := Lib.hid (show D0 < u18.heap.size from (Array.getElem?_eq_some_iff.1 (H.out.df D0 (by simp)).2).1)
  refine range_none (gf := 44) (lb := #[.pointer (some ⟨Bt1, 0, none⟩)]) rfl (enters_of Tryd.func44 (by kernel_rfl) rfl) (seq_none _ _ HXB.out) ?_
  rintro D1 V1 hD hgu hK
  clear cT1 cT2 lT cY lY
  clear HXB
  replace H := Lib.hid (H.out.next hgu)
  replace HNN := Lib.hid (HNN.out.ge hgu)
  replace HB5 := Lib.hid (HB5.out.ge hgu)
  replace HB7 := Lib.hid (HB7.out.ge hgu)
  skip
  replace H : Hid (Hn w w.heap.size (w.heap.size + 1) w1.heap.size (w1.heap.size + 1) D [D1, D0] V1) := Lib.hid ⟨H.out.t, H.out.r, H.out.z, H.out.y, H.out.ge, fun d hd => by
    rcases List.mem_cons.1 hd with rfl | hd
    · exact ⟨Nat.le_trans HSZW.out hD, hK⟩
    · exact H.out.df d hd⟩
  have HNE := Lib.hid (show D0 < D1 from Nat.lt_of_lt_of_le HL0.out hD)
  clear HL0
  clear hD hgu hK HSZW
  have cT1 := (H.out.t.cell 1).trans hD1
  have cT2 := (H.out.t.cell 2).trans hD2
  have lT := H.out.t.lt
  have cY := H.out.y.cell
  have lY := H.out.y.lt
  gi_wp2_with (first | (refine wpListIn_load_msg (by go_simp) (.tmp 5) (by rfl) _ (by rfl) ZM HB5.out HSZ.out ?_) | (refine wpListIn_load_msg (by go_simp) (.tmp 7) (by rfl) _ (by rfl) ZM HB7.out HSZ.out ?_))
  refine (callsIn_wide.2 (HS1.out _)).mono ?_
  rintro e u19 ⟨rfl, hgu⟩
  clear cT1 cT2 lT cY lY
  replace H := Lib.hid (H.out.next hgu)
  replace HNN := Lib.hid (HNN.out.ge hgu)
  replace HB5 := Lib.hid (HB5.out.ge hgu)
  replace HB7 := Lib.hid (HB7.out.ge hgu)
  clear hgu
  have cT1 := (H.out.t.cell 1).trans hD1
  have cT2 := (H.out.t.cell 2).trans hD2
  have lT := H.out.t.lt
  have cY := H.out.y.cell
  have lY := H.out.y.lt
  gi_wp2_with (first | (refine wpListIn_load_msg (by go_simp) (.tmp 5) (by rfl) _ (by rfl) ZM HB5.out HSZ.out ?_))
  refine (callsIn_wide.2 (HS3.out _)).mono ?_
  rintro e u20 ⟨rfl, hgu⟩
  clear cT1 cT2 lT cY lY
  replace H := Lib.hid (H.out.next hgu)
  replace HNN := Lib.hid (HNN.out.ge hgu)
  replace HB5 := Lib.hid (HB5.out.ge hgu)
  replace HB7 := Lib.hid (HB7.out.ge hgu)
  clear hgu
  have cT1 := (H.out.t.cell 1).trans hD1
  have cT2 := (H.out.t.cell 2).trans hD2
  have lT := H.out.t.lt
  have cY := H.out.y.cell
  have lY := H.out.y.lt
  have HRG := Lib.hid (show World.rangeAt u20 w.heap.size 3 EM from fun j v hj => (H.out.t.cell _).trans (HD3.out j v hj))
  gi_wp2_with (refine wpListIn_load_at (by go_simp) (.tmp 90) (by rfl) w.heap.size 3 (by rfl) EM HRG.out HLEN.out ?_)
  refine (callsIn_wide.2 (HSEND.out _ _ HNN.out)).mono ?_
  rintro e u21 ⟨rfl, hgu⟩
  clear cT1 cT2 lT cY lY
  replace H := Lib.hid (H.out.next hgu)
  replace HNN := Lib.hid (HNN.out.ge hgu)
  replace HB5 := Lib.hid (HB5.out.ge hgu)
  replace HB7 := Lib.hid (HB7.out.ge hgu)
  clear HRG
  clear hgu
  have cT1 := (H.out.t.cell 1).trans hD1
  have cT2 := (H.out.t.cell 2).trans hD2
  have lT := H.out.t.lt
  have cY := H.out.y.cell
  have lY := H.out.y.lt
  gi_wp2_with fail
  refine (callsIn_wide.2 (room_no HNN.out f t)).mono ?_
  rintro e u22 ⟨rfl, hgu⟩
  clear cT1 cT2 lT cY lY
  replace H := Lib.hid (H.out.next hgu)
  replace HNN := Lib.hid (HNN.out.ge hgu)
  replace HB5 := Lib.hid (HB5.out.ge hgu)
  replace HB7 := Lib.hid (HB7.out.ge hgu)
  clear hgu
  have cT1 := (H.out.t.cell 1).trans hD1
  have cT2 := (H.out.t.cell 2).trans hD2
  have lT := H.out.t.lt
  have cY := H.out.y.cell
  have lY := H.out.y.lt
  gi_wp2_with fail
  refine (callsIn_wide.2 (left_no HNN.out)).mono ?_
  rintro e u23 ⟨rfl, hgu⟩
  clear cT1 cT2 lT cY lY
  replace H := Lib.hid (H.out.next hgu)
  replace HNN := Lib.hid (HNN.out.ge hgu)
  replace HB5 := Lib.hid (HB5.out.ge hgu)
  replace HB7 := Lib.hid (HB7.out.ge hgu)
  clear hgu
  have cT1 := (H.out.t.cell 1).trans hD1
  have cT2 := (H.out.t.cell 2).trans hD2
  have lT := H.out.t.lt
  have cY := H.out.y.cell
  have lY := H.out.y.lt
  gi_wp2_with fail
  refine (callsIn_wide.2 (clone_no HNN.out)).mono ?_
  rintro e u24 ⟨rfl, hgu⟩
  clear cT1 cT2 lT cY lY
  replace H := Lib.hid (H.out.next hgu)
  replace HNN := Lib.hid (HNN.out.ge hgu)
  replace HB5 := Lib.hid (HB5.out.ge hgu)
  replace HB7 := Lib.hid (HB7.out.ge hgu)
  clear hgu
  have cT1 := (H.out.t.cell 1).trans hD1
  have cT2 := (H.out.t.cell 2).trans hD2
  have lT := H.out.t.lt
  have cY := H.out.y.cell
  have lY := H.out.y.lt
  skip
  gi_wp2
  clear cT1 cT2 lT cY lY
  clear HB5 HB7 HNN
  have cY := H.out.y.cell
  have lY := H.out.y.lt
  have cR := H.out.r.cell
  have lR := H.out.r.lt
  have fR := H.out.r.frozen
  rw [roundsIn_succ]
  gi_wp2
  obtain ⟨W2, hW2⟩ : ∃ W2, W2 = u24.setCell ⟨w.heap.size + 1, 0, none⟩ (.bool true) := ⟨_, rfl⟩
  rw [← hW2]
  have X2 : Bx W2 (w.heap.size + 1) 4 #[.bool true] := by rw [hW2]; exact H.out.r.set 0 _
  have q1 := H.out.df D1 (by simp)
  have q0 := H.out.df D0 (by simp)
  have XR := H.out.r
  have d1 : D1 ≠ w.heap.size + 1 := by rintro rfl; unfold Bx at XR; rw [XR] at q1; cases q1.2
  have d0 : D0 ≠ w.heap.size + 1 := by rintro rfl; unfold Bx at XR; rw [XR] at q0; cases q0.2
  have k1 : W2.heap[D1]? = some (.deferred (some [])) := by rw [hW2]; exact (Below.heap_setCell _ _ _ _ d1).trans q1.2
  have k0 : W2.heap[D0]? = some (.deferred (some [])) := by rw [hW2]; exact (Below.heap_setCell _ _ _ _ d0).trans q0.2
  have g2 : Ge w W2 := by rw [hW2]; exact Below.setCell H.out.ge (by show w.heap.size ≤ w.heap.size + 1; omega) _
  clear hW2 cR lR fR cY lY
  have k0' : (W2.putObj D1 (.deferred none)).heap[D0]? = some (.deferred (some [])) := (World.putObj_heap_other (by have := HNE.out; omega)).trans k0
  have X3 : Bx ((W2.putObj D1 (.deferred none)).putObj D0 (.deferred none)) (w.heap.size + 1) 4 #[.bool true] := (World.putObj_heap_other (by omega)).trans ((World.putObj_heap_other (by omega)).trans X2)
  have g3 : Ge w ((W2.putObj D1 (.deferred none)).putObj D0 (.deferred none)) := (Below.trans g2 (belowK_b (w := w) (Nat.le_refl _) W2 D1 _ _ q1.1 k1 rfl rfl)).trans (belowK_b (w := w) (Nat.le_refl _) _ D0 _ _ q0.1 k0' rfl rfl)
  have c3 := X3.cell
  refine ⟨by simp, .inl ⟨_, _, rfl, run_takeDeferred k1, by simp, .inl ⟨_, _, rfl, run_takeDeferred k0', ?_⟩⟩⟩
  refine ⟨.bool true, by simp [results, Tryd.results4, go_sem, c3], rfl, g3⟩
end Go.Proofs.YtmhibpmgnicolaaDoor
