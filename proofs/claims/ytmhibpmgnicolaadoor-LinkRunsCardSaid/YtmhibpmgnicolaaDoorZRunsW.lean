/-
  LinkRuns: the walk.
-/
import Derived.Test.YtmhibpmgnicolaaDoorZRunsN
import Derived.Test.YtmhibpmgnicolaaDoorZDrawD
import Derived.Test.YtmhibpmgnicolaaDoorZOpenD
import Derived.Test.YtmhibpmgnicolaaDoorFew
import Derived.Test.YtmhibpmgnicolaaDoorZLive
namespace Go.Proofs.YtmhibpmgnicolaaDoor
open Go.RowKit
attribute [local go_sem] Dr.upT

/-- what is asked of all writers: this block stays -/
def RB (x : Nat) (a b : World) : Prop := a.heap.size ≤ b.heap.size ∧ (x < a.heap.size → b.heap[x]? = a.heap[x]?)
theorem rel_rb (x : Nat) : Dr.Rel (RB x) := ⟨fun _ _ _ h k => ⟨Nat.le_trans h.1 k.1, fun hx => (k.2 (Nat.lt_of_lt_of_le hx h.1)).trans (h.2 hx)⟩, fun _ _ g => ⟨g.size, fun hx => g.block x hx⟩⟩
theorem Bx.rb {x : Nat} {a b : World} {t : TypeId} {cs : Array Value} (h : Bx a x t cs) (r : RB x a b) : Bx b x t cs := (r.2 h.lt).trans h
theorem wpD_msg_at {ops : Array Oper} {K : Act → World → Prop} {w0 : World} {R : World → World → Prop} {C : List Nat} {S : (Nat → Bool) → World → Prop} {j : Nat} {o : Oper} {rest : List Oper} {fr : (Nat → Value) → Act} {F : Nat → (Nat → Value) → World → Prop}
    (x : Operand) (b k : Nat) (cs : List Value) (hc : C.contains j = false)
    (ho : o.op = .load 45 x) (hx : ∀ u, (fr u).eval x = .pointer (some ⟨b, k, none⟩)) (hB : ∀ w, R w0 w → w.rangeAt b k cs) (hs : cs.length = 19) (hw : ∀ u, Region.wanted o (yielded ops (fr u).tmps) = true)
    (h2 : Dr.wpD Tryd.prog ops K w0 R C S (j + 1) rest (fun u => (fr u).put o.dst (.agg cs.toArray)) (fun k u w => if k = j then True else F k u w)) :
    Dr.wpD Tryd.prog ops K w0 R C S j (o :: rest) fr F := by
  refine Dr.wpD_det (.agg cs.toArray) hc (fun u w hg _ => ?_) h2
  rw [if_pos (hw u)]
  have hl := run_loadAt_mid (P := Tryd.prog) w b k 45 cs _ (hB w hg) Tryd.underlying45 rfl (by rw [hs]; exact i45)
  unfold execOp
  simp only [ho, hx, hl, Sem.run_bind, Sem.run_pure, Result.andThen_ok]
  exact ⟨Ge.refl _, rfl⟩
theorem wpD_call {ops : Array Oper} {K : Act → World → Prop} {w0 : World} {R : World → World → Prop} {C : List Nat} {S : (Nat → Bool) → World → Prop} {j : Nat} {o : Oper} {rest : List Oper} {fr : (Nat → Value) → Act} {F : Nat → (Nat → Value) → World → Prop}
    (k : Nat) (vs : Array Value) (v : Value) (hc : C.contains j = true)
    (hw : ∀ u, Region.wanted o (yielded ops (fr u).tmps) = true) (hr : ∀ u w, (execOp (fr u).eval o).run Tryd.prog w = .ok (.enter k vs) w)
    (hs : ∀ w (d : Nat → Bool), R w0 w → d j = false → S d w → Calls Tryd.prog k vs w fun e w' => e = .returned v ∧ R w w' ∧ S (fun k => k == j || d k) w')
    (h2 : Dr.wpD Tryd.prog ops K w0 R C S (j + 1) rest (fun u => (fr u).put o.dst v) (fun k u w => if k = j then True else F k u w)) :
    Dr.wpD Tryd.prog ops K w0 R C S j (o :: rest) fr F := by
  refine Dr.wpD_writer v hc (fun u w hg _ d hd hS => ?_) h2
  rw [if_pos (hw u), hr u w]
  exact (hs w d hg hd hS).mono fun e w' ⟨h1, h3, h4⟩ => ⟨v, h1, h3, rfl, h4⟩


set_option maxRecDepth 100000 in
set_option maxHeartbeats 16000000 in
theorem runs_any {w : World} (hT : Tabs w) (workers room : Int) {v : Value} {xs : List Dor} (hxs : LAt eD w.heap.size w v xs) (kxs : ∀ a ∈ xs, SlAt w.heap.size w a.s a.m) :
    Calls Tryd.prog 3 #[.int .i64 workers, .int .i64 room, v] w fun e w' => e = .returned (.bool true) ∧ Ge w w' := by
  obtain ⟨A, cap, rfl, hle, hc⟩ := hxs
  have HT := Lib.hid hT
  have HC := Lib.hid hc
  have HSL := Lib.hid kxs
  clear hc kxs hT
  by_cases hbad : workers < 1 ∨ 16 < workers ∨ room < 1 ∨ 64 < room
  · have HN := Lib.hid (fun W => new_bad (w := W) hbad)
    have HN2 := Lib.hid (fun W => rnew_bad (w := W) hbad)
    clear hbad hle
    go_enter Tryd.func3, Tryd.ntmps3
    go_wp2_with fail
    refine (live_any HT.out).mono ?_
    rintro e w3 ⟨rfl, g3⟩
    have HG := Lib.hid g3
    clear g3
    go_wp2_with fail
    refine (HN.out _).mono ?_
    rintro e w4 ⟨rfl, g4⟩
    replace HG := Lib.hid (HG.out.trans g4)
    clear g4
    go_wp2_with fail
    refine (HN2.out _).mono ?_
    rintro e w5 ⟨rfl, g5⟩
    replace HG := Lib.hid (HG.out.trans g5)
    clear g5
    go_wp2
    go_returns
    exact ⟨rfl, HG.out⟩
  obtain ⟨k, rfl⟩ : ∃ k : Nat, workers = (k : Int) := ⟨workers.toNat, by omega⟩
  obtain ⟨rm, rfl⟩ : ∃ k : Nat, room = (k : Int) := ⟨room.toNat, by omega⟩
  have HKR := Lib.hid (show 1 ≤ k ∧ k ≤ 16 ∧ 1 ≤ rm ∧ rm ≤ 64 by omega)
  obtain ⟨n, hn⟩ : ∃ n : Nat, n = min xs.length 200 := ⟨_, rfl⟩
  have HNL := Lib.hid (show n ≤ xs.length ∧ n ≤ 200 by omega)
  have hmin : min (xs.length : Int) 200 = (n : Int) := by omega
  have hnc : (n : Int) ≤ (cap : Int) := by omega
  clear hbad hn hle
  go_enter Tryd.func3, Tryd.ntmps3
  go_wp2_with fail
  refine (live_any HT.out).mono ?_
  rintro e w3 ⟨rfl, g3⟩
  have HG := Lib.hid g3
  clear g3
  go_wp2_with fail
  refine (new_ok (B := w.heap.size) HG.out.size HKR.out.1 HKR.out.2.1 HKR.out.2.2.1 HKR.out.2.2.2).mono ?_
  rintro e w4 ⟨p0, q0, C0, rfl, h1, h2, h3, h4⟩
  have HRN := Lib.hid (ls_rnew (w0 := w) h1 (HG.out.trans h2) (Nat.le_trans HG.out.size h3) (Nat.le_trans HG.out.size h4) HKR.out.1 HKR.out.2.1 HKR.out.2.2.1 HKR.out.2.2.2)
  clear h1 h2 h3 h4
  go_wp2_with fail
  refine HRN.out.mono ?_
  rintro e w5 ⟨pr, rfl, hls⟩
  have HLS := Lib.hid hls
  have HI0 := Lib.hid (show InvS ⟨k, rm, zRows k⟩ from fun r hr => by rw [List.eq_of_mem_replicate hr]; exact ⟨Nat.zero_le _, fun m h => by cases h⟩)
  generalize (⟨k, rm, zRows k⟩ : Nt) = S0 at *
  clear hls HRN HG
  go_upto_region 10 with (fail)
  clear hmin hnc
  go_loopw [7, 50] (fun s7 i wr => ∃ (j p : Nat) (S : Nt), j ≤ n ∧ i = .int .i64 (j : Int) ∧ s7 = .pointer (some ⟨p, 0, none⟩) ∧ LS w (fun _ => False) p pr S S wr ∧ InvS S) (fun _ i _ => n - (intOf i).toNat)
  case atStart => exact ⟨0, p0, S0, by omega, rfl, rfl, HLS.out, HI0.out⟩
  case round =>
    clear HLS HI0
    obtain ⟨j, p, S, hj, rfl, rfl, hls, hinv⟩ := hrel
    have HLS := Lib.hid hls
    have HINV := Lib.hid hinv
    clear hls hinv
    have hn200 : n ≤ 200 := HNL.out.2
    by_cases hlt : j < n
    rotate_left
    · obtain rfl : j = n := by omega
      have hdm : decide ((j : Int) < (j : Int)) = false := by simp
      have HG := Lib.hid HLS.out.ge
      clear hlt hj
      go_wp2
      go_returns
      exact ⟨rfl, HG.out⟩
    obtain ⟨b, off, rfl, hb, hcell⟩ := HC.out (fun e => by have := HNL.out.1; rw [e] at this; simp at this; omega)
    obtain ⟨d, hd⟩ : ∃ d, xs[j]? = some d := ⟨_, List.getElem?_eq_getElem (by have := HNL.out.1; omega)⟩
    have HRA := Lib.hid (show wr.rangeAt b (off + j * 22) (encD d) from fun i u hu => ((HLS.out.ge.kp w.heap.size).cell hb _).trans (hcell j d hd i u hu))
    have hsl := HSL.out d (List.mem_of_getElem? hd)
    have HS := Lib.hid hsl
    have hlb : b < wr.heap.size := Nat.lt_of_lt_of_le hb.1 HLS.out.ge.size
    have i1 : (0 : Int) ≤ (j : Int) := by omega
    have i2 : (j : Int) < (n : Int) := by omega
    have HLEN := Lib.hid (show (encD d).length = 22 from rfl)
    have HONE := Lib.hid (show ∀ u ∈ (encD d).toArray.toList, u.oneCell' = true from fun u hu => encD_one hsl u (by simpa using hu))
    have HFEW := Lib.hid (fun w' (g : Ge w w') => few_any (hsl.ge g))
    have HSM := Lib.hid (@few_small d.m)
    have hD0 : (encD d).toArray[0]? = some (.int .i64 d.kind) := rfl
    have hD1 : (encD d).toArray[1]? = some (.int .i64 d.from') := rfl
    have hD2 : (encD d).toArray[2]? = some (.int .i64 d.to') := rfl
    have HD3 := Lib.hid (show ∀ j v, (encG d.m d.s)[j]? = some v → (encD d).toArray[3 + j]? = some v from fun j v hv => by simp only [encD]; rw [show 3 + j = j + 1 + 1 + 1 by omega]; simpa using hv)
    have HEL := Lib.hid (show (encG d.m d.s).length = 19 from rfl)
    have HDW := Lib.hid (show ∀ i u, (encD d)[i]? = some u → (encD d).toArray[i]? = some u from fun i u hu => by rw [List.getElem?_toArray]; exact hu)
    clear hcell hb hsl hd
    generalize hED : encD d = ED at *
    have HED := Lib.hid hED
    generalize hEM : encG d.m d.s = EM at *
    have HEM := Lib.hid hEM
    clear hEM hED
    generalize d.kind = kd at *
    generalize hfr : d.from' = fr at *
    generalize htt : d.to' = tt at *
    generalize hq : fewM d.m = q at *
    have HQ := Lib.hid hq
    clear hq hfr htt
    go_wp2_with (first | (refine wpList_load_do (by rfl) (.tmp 53) (by rfl) b (off + j * 22) (by rfl) ED HRA.out HLEN.out ?_) | (refine wpList_store_do (by rfl) (.tmp 12) (.tmp 54) (by rfl) wr.heap.size ED.toArray (by rfl) (by rfl) (Bx.new _ 47 _ rfl) rfl (by simp [HLEN.out]) HONE.out (w0 := wr) (Nat.le_refl _) ((Ge.refl _).alloc _) ?_; intro w5 x5 g5; have HB5 := Lib.hid x5; have HO5 := Lib.hid (HLS.out.fresh g5 x5.lt); have HM5 := Lib.hid (show w5.rangeAt wr.heap.size 3 EM from fun j v hj => (x5.cell _).trans (HD3.out j v hj)); clear x5 g5) | (refine wpList_load_at (by go_simp) (.tmp 55) (by rfl) wr.heap.size 3 (by rfl) EM HM5.out HEL.out ?_))
    refine (HFEW.out _ HO5.out.ge).mono ?_
    rintro e w6 ⟨rfl, g6⟩
    replace HB5 := Lib.hid (HB5.out.ge g6)
    replace HO5 := Lib.hid (HO5.out.next g6)
    clear g6 HM5
    rcases q with _ | _
    · go_wp2
      go_roundw
      case rel => exact ⟨j + 1, p, S, by omega, by go_num, rfl, HO5.out.free, HINV.out⟩
      case measure => simp [intOf]; omega
    have HSML := Lib.hid (HSM.out (by first | trivial | rfl))
    clear HQ HSM HFEW
    have c0 := (HB5.out.cell 0).trans hD0
    have c1 := (HB5.out.cell 1).trans hD1
    have c2 := (HB5.out.cell 2).trans hD2
    have lB := HB5.out.lt
    go_upto_if 61 with (fail)
    go_cut [7, 13] from 51 to 128 (fun s7 s13 wx => ∃ p : Nat, s7 = .pointer (some ⟨p, 0, none⟩) ∧ LS w (fun b => b = wr.heap.size) p pr S S wx ∧ Bx wx wr.heap.size 47 ED.toArray)
    case first =>
      by_cases h5 : (j : Int) % 5 = 2
      rotate_left
      · have e5 : ((j : Int) % 5 == 2) = false := by simpa using h5
        clear h5
        go_wp2_with fail
        go_meet
        exact ⟨p, rfl, HO5.out, HB5.out⟩
      have e5 : ((j : Int) % 5 == 2) = true := by simpa using h5
      clear h5
      have HCL := Lib.hid (ls_clone HO5.out)
      go_wp2_with fail
      refine HCL.out.mono ?_
      rintro e w7 ⟨p', rfl, hls2, hkeep⟩
      have hB7 : Bx w7 wr.heap.size 47 ED.toArray := (hkeep _ rfl).trans HB5.out
      have HB7 := Lib.hid hB7
      have HDR := Lib.hid (ls_drop hls2 (fun b hb => by rw [hb]; exact hB7.lt) fr tt)
      clear c0 c1 c2 lB hls2 hkeep hB7 HCL
      have c1 := (HB7.out.cell 1).trans hD1
      have c2 := (HB7.out.cell 2).trans hD2
      have lB := HB7.out.lt
      go_wp2_with fail
      refine HDR.out.mono ?_
      rintro e w8 ⟨⟨v, rfl⟩, hls, hkeep⟩
      have HLS8 := Lib.hid hls
      have HB8 := Lib.hid (show Bx w8 wr.heap.size 47 ED.toArray from (hkeep _ rfl).trans HB7.out)
      clear hls hkeep c1 c2 lB HDR
      go_wp2_with fail
      go_meet
      exact ⟨p', rfl, HLS8.out, HB8.out⟩
    case rest =>
      clear c0 c1 c2 lB HO5 HB5
      obtain ⟨p1, rfl, hls, hB5⟩ := hcut
      have HO5 := Lib.hid hls
      have HB5 := Lib.hid hB5
      clear hls hB5
      have c0 := (HB5.out.cell 0).trans hD0
      have c1 := (HB5.out.cell 1).trans hD1
      have c2 := (HB5.out.cell 2).trans hD2
      have lB := HB5.out.lt
      go_upto_block 2 with (fail)
      go_cut [14, 15, 16, 17] from 75 to 128 (fun s14 s15 s16 s17 wx => ∃ S' : Nt, LS w (fun b => b = wr.heap.size) p1 pr S' S' wx ∧ InvS S' ∧ Bx wx wr.heap.size 47 ED.toArray)
      case first =>
        by_cases k0 : kd = 0
        · subst k0
          have HMX := Lib.hid (show ∀ wv, Bx wv wr.heap.size 47 ED.toArray → wv.rangeAt wr.heap.size 3 EM from fun wv x j v hj => (x.cell _).trans (HD3.out j v hj))
          obtain ⟨S1, hS1⟩ : ∃ S1 : Nt, S1 = (sendS S fr tt d.m).1 := ⟨_, rfl⟩
          have HN1 := Lib.hid (fun wv Sr (h : LS w (fun b => b = wr.heap.size) p1 pr S Sr wv) => ls_nsend HT.out h fr tt HS.out HSML.out)
          have HN2 := Lib.hid (fun wv Sn (h : LS w (fun b => b = wr.heap.size) p1 pr Sn S wv) => ls_rsend h HINV.out fr tt HS.out HSML.out)
          have HINV1 := Lib.hid (show InvS S1 by rw [hS1]; exact inv_send HINV.out HSML.out)
          rw [HEM.out, ← hS1] at HN1 HN2
          clear hS1
          generalize (sendS S fr tt d.m).2 = cc at *
          have HPS := Lib.hid (fun (wv : World) (x : LS w (fun b => b = wr.heap.size) p1 pr S S wv) => x.out)
          go_upto_region 21 with (fail)
          refine Dr.wp_region_D (RB wr.heap.size) [7, 15] (fun dn wv => LS w (fun b => b = wr.heap.size) p1 pr (if dn 7 then S1 else S) (if dn 15 then S1 else S) wv) (rel_rb _) (by kernel_rfl) (by kernel_rfl) (by kernel_rfl) (fun _ _ _ g h => h.next g) HO5.out ?_
          clear c0 c1 c2 lB
          iterate 6 (apply Dr.wpD_det (hc := by rfl); · (intro u w7 hw hF; clear hF; have z1 := ((HB5.out.rb hw).cell 1).trans hD1; have z2 := ((HB5.out.rb hw).cell 2).trans hD2; have z3 := (HB5.out.rb hw).lt; go_simp; first | exact ⟨Ge.refl _, rfl⟩ | exact Ge.refl _ | rfl))
          refine wpD_msg_at (.tmp 82) wr.heap.size 3 EM (by rfl) (by rfl) (by intro u; go_simp) (fun wv hw => HMX.out wv (HB5.out.rb hw)) HEL.out (by intro u; go_simp) ?_
          refine wpD_call 14 #[.pointer (some ⟨p1, 0, none⟩), .int .i64 fr, .int .i64 tt, .agg EM.toArray] (.int .i64 cc) (by rfl) (by intro u; go_simp) (by intro u w7; go_simp) (fun wv dn hw hd hS => ?_) ?_
          · simp only [hd] at hS
            refine (HN1.out wv _ hS).mono ?_
            rintro e w8 ⟨rfl, hls, hk, hz⟩
            refine ⟨rfl, ⟨hz, fun _ => hk _ rfl⟩, ?_⟩
            simpa using hls
          iterate 6 (apply Dr.wpD_det (hc := by rfl); · (intro u w7 hw hF; clear hF; have z1 := ((HB5.out.rb hw).cell 1).trans hD1; have z2 := ((HB5.out.rb hw).cell 2).trans hD2; have z3 := (HB5.out.rb hw).lt; go_simp; first | exact ⟨Ge.refl _, rfl⟩ | exact Ge.refl _ | rfl))
          refine wpD_msg_at (.tmp 90) wr.heap.size 3 EM (by rfl) (by rfl) (by intro u; go_simp) (fun wv hw => HMX.out wv (HB5.out.rb hw)) HEL.out (by intro u; go_simp) ?_
          refine wpD_call 15 #[.pointer (some ⟨pr, 0, none⟩), .int .i64 fr, .int .i64 tt, .agg EM.toArray] (.int .i64 cc) (by rfl) (by intro u; go_simp) (by intro u w7; go_simp) (fun wv dn hw hd hS => ?_) ?_
          · simp only [hd] at hS
            refine (HN2.out wv _ hS).mono ?_
            rintro e w8 ⟨rfl, hls, hk, hz⟩
            refine ⟨rfl, ⟨hz, fun _ => hk _ rfl⟩, ?_⟩
            simpa using hls
          iterate 1 (apply Dr.wpD_det (hc := by rfl); · (intro u w7 hw hF; clear hF; go_simp; first | exact ⟨Ge.refl _, rfl⟩ | exact Ge.refl _ | rfl))
          intro u w7 hw hF hS
          clear hF
          have hS' : LS w (fun b => b = wr.heap.size) p1 pr S1 S1 w7 := by simpa using hS
          have HS7 := Lib.hid hS'
          have HB7 := Lib.hid (HB5.out.rb hw)
          clear hS hS' hw
          simp only [Act.put, List.setIfInBounds_toArray, List.set_cons_zero, List.set_cons_succ]
          go_wp2_with fail
          go_meet
          exact ⟨S1, HS7.out, HINV1.out, HB7.out⟩
        have e0 : (kd == 0) = false := by simpa using k0
        by_cases k1 : kd = 1
        · subst k1
          have HTK := Lib.hid (ls_ntake HO5.out fr tt)
          have HIT := Lib.hid (inv_take (f := fr) (t := tt) HINV.out)
          clear e0 k0
          go_wp2_with fail
          refine HTK.out.mono ?_
          rintro e w7 ⟨⟨s1, rfl, hs1⟩, hls7, hk7⟩
          have HB7 := Lib.hid (show Bx w7 wr.heap.size 47 ED.toArray from (hk7 _ rfl).trans HB5.out)
          have HO7 := Lib.hid hls7
          have HLN1 := Lib.hid (show (encG (takeS S fr tt).2.1 s1).toArray.size = 19 from rfl)
          have HON1 := Lib.hid (show ∀ u ∈ (encG (takeS S fr tt).2.1 s1).toArray.toList, u.oneCell' = true from fun u hu => encG_one hs1 u (by simpa using hu))
          have HS1 := Lib.hid hs1
          clear hs1 hls7 hk7 HTK c0 c1 c2 lB
          generalize hL1 : encG (takeS S fr tt).2.1 s1 = L1 at *
          have HE1 := Lib.hid hL1
          clear hL1
          go_upto_region 25 with (refine wpList_store_msg (by rfl) (.tmp 14) (.tmp 103) (by rfl) w7.heap.size L1.toArray (by rfl) (by rfl) (Bx.new _ 45 _ rfl) rfl HLN1.out HON1.out (w0 := w7) (Nat.le_refl _) ((Ge.refl _).alloc _) ?_; intro w8 x5 g5 f5; clear f5; have HX8 := Lib.hid x5; have HO8 := Lib.hid (HO7.out.more g5 x5.lt); have HB8 := Lib.hid (HB7.out.ge g5); have HS8 := Lib.hid (HS1.out.ge g5); clear x5 g5)
          have HTK := Lib.hid (ls_rtake HO8.out fr tt)
          have c1 := (HB8.out.cell 1).trans hD1
          have c2 := (HB8.out.cell 2).trans hD2
          have lB := HB8.out.lt
          go_wp2_with fail
          refine HTK.out.mono ?_
          rintro e w9 ⟨⟨s2, rfl, hs2⟩, hls9, hk9, kp9⟩
          have HB9 := Lib.hid (show Bx w9 wr.heap.size 47 ED.toArray from (hk9 _ (.inl rfl)).trans HB8.out)
          have HX9 := Lib.hid (show Bx w9 w7.heap.size 45 L1.toArray from (hk9 _ (.inr rfl)).trans HX8.out)
          have HO9 := Lib.hid hls9
          have HS9 := Lib.hid (HS8.out.kp kp9)
          have HLN2 := Lib.hid (show (encG (takeS S fr tt).2.1 s2).toArray.size = 19 from rfl)
          have HON2 := Lib.hid (show ∀ u ∈ (encG (takeS S fr tt).2.1 s2).toArray.toList, u.oneCell' = true from fun u hu => encG_one hs2 u (by simpa using hu))
          have hsame := (fun w' (g : Ge w9 w') => rsame (HS9.out.ge g) (hs2.ge g) HIT.out.2)
          rw [decide_eq_true rfl, HE1.out] at hsame
          have HSAME := Lib.hid hsame
          clear hs2 hls9 hk9 kp9 HTK c1 c2 lB hsame
          generalize encG (takeS S fr tt).2.1 s2 = L2 at *
          generalize (takeS S fr tt).2.2 = cc at *
          go_wp2_with (first | (refine wpList_store_msg (by rfl) (.tmp 16) (.tmp 112) (by rfl) w9.heap.size L2.toArray (by rfl) (by rfl) (Bx.new _ 45 _ rfl) rfl HLN2.out HON2.out (w0 := w9) (Nat.le_refl _) ((Ge.refl _).alloc _) ?_; intro w10 x5 g5 f5; clear f5; have HX16 := Lib.hid x5; have HX14 := Lib.hid (HX9.out.ge g5); have HG10 := Lib.hid g5; clear x5 g5) | (refine wpList_load_rowG (by go_simp) (.tmp 14) (by rfl) w7.heap.size (by rfl) L1.toArray HX14.out HLN1.out ?_) | (refine wpList_load_rowG (by go_simp) (.tmp 16) (by rfl) w9.heap.size (by rfl) L2.toArray HX16.out HLN2.out ?_))
          refine (HSAME.out _ HG10.out).mono ?_
          rintro e w11 ⟨rfl, g11⟩
          have HO11 := Lib.hid ((HO9.out.next (HG10.out.trans g11)).weak (P' := fun b => b = wr.heap.size) (fun b hb => .inl hb))
          have HB11 := Lib.hid (HB9.out.ge (HG10.out.trans g11))
          clear g11
          go_wp2_with fail
          go_meet
          exact ⟨_, HO11.out, HIT.out.1, HB11.out⟩
        have e1 : (kd == 1) = false := by simpa using k1
        clear k0 k1
        go_wp2_with fail
        go_meet
        exact ⟨S, HO5.out, HINV.out, HB5.out⟩
      case rest =>
        clear c0 c1 c2 lB HO5 HB5
        obtain ⟨S', hls, hinv, hB5⟩ := hcut
        have HSA := Lib.hid (ls_same hls hinv d)
        rw [HED.out] at HSA
        have HRW := Lib.hid (show World.rangeAt _ wr.heap.size 0 ED from fun i u hu => by rw [Nat.zero_add]; exact (hB5.cell i).trans (HDW.out i u hu))
        have HLS2 := Lib.hid hls
        have HINV2 := Lib.hid hinv
        clear hls hinv hB5
        go_wp2_with (refine wpList_load_do (by rfl) (.tmp 12) (by rfl) wr.heap.size 0 (by rfl) ED HRW.out HLEN.out ?_)
        refine HSA.out.mono ?_
        rintro e w9 ⟨rfl, g9⟩
        have HLS3 := Lib.hid (HLS2.out.next g9)
        clear g9 HSA HRW
        go_wp2
        go_roundw
        case rel => exact ⟨j + 1, p1, S', by omega, by go_num, rfl, HLS3.out.free, HINV2.out⟩
        case measure => simp [intOf]; omega
end Go.Proofs.YtmhibpmgnicolaaDoor
