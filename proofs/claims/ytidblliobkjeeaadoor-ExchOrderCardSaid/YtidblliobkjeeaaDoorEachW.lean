/-
  ExchEach, its walk.
-/
import Derived.Test.YtidblliobkjeeaaDoorEachP
import Derived.Test.YtidblliobkjeeaaDoorIndex
import Derived.Test.YtidblliobkjeeaaDoorDelete
import Derived.Test.YtidblliobkjeeaaDoorBegun
import Derived.Test.YtidblliobkjeeaaDoorFew
import Derived.Test.YtidblliobkjeeaaDoorOpenR
import Derived.Maps.OwnSet
import Derived.Deep.LoopGhost
import Derived.IntWalk
namespace Go.Proofs.YtidblliobkjeeaaDoor
open Go.RowKit Go.Maps
attribute [local go_sem] Dr.upT

theorem keyed2 : Keyed Tryd.prog 2 := int_keyed Tryd.underlying2
theorem keyed3 : Keyed Tryd.prog 3 := int_keyed Tryd.underlying3
theorem zero3 (w : World) : (zeroValue 3).run Tryd.prog w = .ok (.int .i64 0) w := by kernel_rfl
theorem Ge.grown {w w' : World} (h : Ge w w') (row : Option Nat) : w.grownBy w' row := ⟨h.os, h.tape, h.output, h.size, fun k hk _ => h.block k hk⟩
theorem ge_map {w wr w1 : World} {B : Nat} (hge : Ge w wr) (hB : w.heap.size ≤ B) (hg : wr.grownBy w1 (some B)) : Ge w w1 :=
  Below.grown hge hg hge.size (fun k hk => by cases hk; exact hB)
theorem wf_in {n : Int} (h : inI n) : (Lit.int .i64 n).wf = true := by
  obtain ⟨h1, h2⟩ := h
  simp [Lit.wf, IntKind.min, IntKind.max, IntKind.signed, IntKind.bits]
  omega
theorem mapKept {w w' : World} {P : Program} {k : TypeId} {R : Value → Option (DataW Unit × List MemPlace)} {b n : Nat} {D : DataW Unit} (h : w.ownsMap P k R b n D) (hg : Ge w w') : w'.ownsMap P k R b n D := h.kept (hg.grown none) (by simp)

def destV (kind worker workers : Int) (key : Int) : Int := if keyB kind = true then ofV key workers else worker
theorem toV_dest (kind worker workers : Int) (r : Rc) : toV kind worker workers r = destV kind worker workers r.1 := rfl
theorem flat_le (ps : List (Int × List Rc)) (k : Nat) : (flatR (ps.take k)).length ≤ (flatR ps).length := by
  have : flatR ps = flatR (ps.take k) ++ flatR (ps.drop k) := by
    unfold flatR
    rw [← List.flatMap_append, List.take_append_drop]
  rw [this, List.length_append]
  omega
theorem destV_in {kind worker workers : Int} (hm : mayB worker workers = true) (r : Rc) : inI (destV kind worker workers r.1) := by
  have := toV_range (kind := kind) hm r
  have h2 := (mayB_iff _ _).1 hm
  rw [toV_dest] at this
  exact ⟨by omega, by omega⟩

set_option maxRecDepth 100000 in
set_option maxHeartbeats 16000000 in
theorem each_walk {w : World} (hT : Tabs w) (kind worker other workers : Int) {v : Value} {rs : List Rc} (hv : RecsAt w v rs) (hl : rs.length ≤ 9223372036854775807) (hk : ∀ r ∈ rs, inI r.1) :
    Calls Tryd.prog 5 #[.int .i64 kind, .int .i64 worker, .int .i64 other, .int .i64 workers, v] w fun e w' => e = .returned (.bool true) ∧ Ge w w' := by
  have hmm := @run_makeMap Tryd.prog
  have HT := Lib.hid hT
  have HB := Lib.hid (begun_any hT)
  have HV := Lib.hid (fun w' (h : Ge w w') => hv.ge h)
  have HKI := Lib.hid hk
  obtain ⟨A, cap, rfl, -⟩ := hv
  clear hT hk
  go_enter Tryd.func5, Tryd.ntmps5
  go_wp2_with fail
  refine HB.out.mono ?_
  rintro e w1 ⟨rfl, hg1⟩
  have HF := Lib.hid (few_any (HV.out w1 hg1) hl)
  have G1 := Lib.hid hg1
  clear hg1
  go_wp2_with fail
  refine HF.out.mono ?_
  rintro e w2 ⟨q, rfl, hq, hg2⟩
  have G2 := Lib.hid (G1.out.trans hg2)
  clear hg2
  rcases q with _ | _
  · have HB2 := Lib.hid (begun_any (HT.out.ge G2.out))
    go_wp2_with fail
    refine HB2.out.mono ?_
    rintro e w3 ⟨rfl, hg3⟩
    have G3 := Lib.hid (G2.out.trans hg3)
    clear hg3
    go_wp2
    go_returns
    exact ⟨rfl, G3.out⟩
  replace hq := hq rfl
  replace hl : rs.length ≤ 1000000 := by omega
  have HP := Lib.hid (parcels_any (HT.out.ge G2.out) kind worker workers (HV.out w2 G2.out) hl)
  unfold ParcelsOut at HP
  go_wp2_with fail
  refine HP.out.mono ?_
  rintro e w3 ⟨va, rfl, hpa, hg3⟩
  have G3 := Lib.hid (G2.out.trans hg3)
  have HQ := Lib.hid (parcels_any (HT.out.ge G3.out) kind other workers (HV.out w3 G3.out) hl)
  unfold ParcelsOut at HQ
  have A3 := Lib.hid hpa
  clear hg3 hpa HP HF HB
  go_wp2_with fail
  refine HQ.out.mono ?_
  rintro e w4 ⟨vb, rfl, hpb, hg4⟩
  have G4 := Lib.hid (G3.out.trans hg4)
  have PA := Lib.hid (A3.out.ge hg4)
  have PB := Lib.hid hpb
  clear hg4 hpb HQ A3
  by_cases hea : partE kind worker workers rs = 0
  rotate_left
  · have h1 : (partE kind worker workers rs != 0) = true := by simpa using hea
    clear hea
    go_wp2
    go_returns
    exact ⟨rfl, G4.out⟩
  by_cases heb : partE kind other workers rs = 0
  rotate_left
  · have h1 : (partE kind other workers rs != 0) = true := by simpa using heb
    clear heb
    go_wp2
    go_returns
    exact ⟨rfl, G4.out⟩
  have PERM := Lib.hid (parcels_perm hea)
  have STEP := Lib.hid (fun (k : Nat) p q => parcels_step (kind := kind) (worker := worker) (workers := workers) (rs := rs) (k := k) (p := p) (q := q))
  have TO := Lib.hid (fun p hp => parcel_to (kind := kind) (worker := worker) (workers := workers) (rs := rs) (p := p) hp)
  have TOB := Lib.hid (fun p hp => parcel_to (kind := kind) (worker := other) (workers := workers) (rs := rs) (p := p) hp)
  have PERMB := Lib.hid (parcels_perm heb)
  have KEY := Lib.hid (fun hk => congrArg parcelL (partP_keyed (kind := kind) (worker := worker) (other := other) (workers := workers) (rs := rs) hk hea heb))
  have PC1 := Lib.hid (parcelP_len kind worker workers rs hl)
  have PC2 := Lib.hid (parcelP_mem kind worker workers rs)
  have DIN := Lib.hid (fun r => destV_in (kind := kind) (partE_may hea) r)
  rw [hea, heb]
  clear hea heb
  generalize parcelL (partP kind worker workers rs) = ps at *
  generalize parcelL (partP kind other workers rs) = psb at *
  have HC := Lib.hid (clone_any ((HV.out w4 G4.out).ge ((Ge.refl w4).alloc (.map #[] 0))) (by omega))
  go_wp2_with fail
  refine HC.out.mono ?_
  rintro e w5 ⟨v5, rfl, hown5, hg5⟩
  have hs5 := hg5.size
  have M5 := Lib.hid (mapKept (World.ownsMap_made w4 Tryd.prog 2 (plainElem (H := Unit) Tryd.prog 3)) hg5)
  have G45 := Lib.hid (show Ge w4 w5 from Ge.trans ((Ge.refl w4).alloc _) hg5)
  obtain ⟨A5, c5, rfl⟩ := hown5.form
  have O5 := Lib.hid hown5
  have HSZ := Lib.hid (show w4.heap.size < (w4.alloc (.map #[] 0)).heap.size by simp)
  obtain ⟨base, hbase⟩ : ∃ b, b = (w4.alloc (.map #[] 0)).heap.size := ⟨_, rfl⟩
  rw [← hbase] at O5 HSZ
  obtain ⟨B, hB⟩ : ∃ b, b = w4.heap.size := ⟨_, rfl⟩
  rw [← hB] at M5 HSZ ⊢
  have HBB := Lib.hid hB
  clear hbase hB hown5 hg5 hs5 HC hmm
  have hAe := PA.out
  obtain ⟨Aa, ca, ua, rfl, hlea, hula, hca, hra⟩ := hAe
  have HCA := Lib.hid hca
  have HRA := Lib.hid hra
  have hfl : ps.length ≤ 100000000 := PC1.out
  have hBe := PB.out
  obtain ⟨Ab, cb, ub, rfl, hleb, hulb, hcb, hrb⟩ := hBe
  have HCB := Lib.hid hcb
  clear hca hra hcb hrb
  go_wp2
  go_loopw [16, 17, 60] (fun n left i wr => ∃ (k z : Nat) (L : List Rc) (A2 : Option Addr) (c2 : Nat) (D : DataW Unit), k ≤ ps.length ∧ i = .int .i64 (k : Int) ∧ n = .int .i64 (z : Int) ∧ left = .slice A2 L.length c2 ∧
    OwnR wr base (.slice A2 L.length c2) L ∧ L.Perm (flatR (ps.drop k)) ∧ z = (flatR (ps.take k)).length ∧ wr.ownsMap Tryd.prog 2 (plainElem Tryd.prog 3) B z D ∧ AtOk (destV kind worker workers) D ∧ Ge w4 wr) (fun _ _ i _ => ps.length - (intOf i).toNat)
  case atStart => exact ⟨0, 0, rs, A5, c5, .map [], by omega, rfl, rfl, rfl, O5.out, by simpa using PERM.out.symm, by simp [flatR], M5.out, AtOk.empty _, G45.out⟩
  case round =>
    obtain ⟨k, z, L, A2, c2, D, hk, rfl, rfl, rfl, hown, hperm, hz, hmap, hat, hge⟩ := hrel
    have HOW := Lib.hid hown
    have HPE := Lib.hid hperm
    have HZ := Lib.hid hz
    have HM := Lib.hid hmap
    have HAT := Lib.hid hat
    have HGE := Lib.hid hge
    clear hown hperm hz hmap hat O5 M5
    by_cases hlt : k < ps.length
    · obtain ⟨b, off, rfl, hb, hcell⟩ := HCA.out (by intro e; rw [e] at hlt; simp at hlt)
      obtain ⟨⟨dst, recs⟩, hpk⟩ : ∃ p : Int × List Rc, ps[k]? = some p := ⟨_, List.getElem?_eq_getElem hlt⟩
      obtain ⟨u, huk⟩ : ∃ u, ua[k]? = some u := ⟨_, List.getElem?_eq_getElem (by omega)⟩
      have hur := HRA.out k _ _ hpk huk
      obtain ⟨q1, q2⟩ := hcell k _ _ hpk huk
      have c0 := (hge.cell (p := ⟨b, off + k * 2, none⟩) hb).trans q1
      have c1 := (hge.cell (p := ⟨b, off + k * 2 + 1, none⟩) hb).trans q2
      dsimp only at c0 hur
      obtain ⟨hto, hr0, hr64⟩ := TO.out _ (List.mem_of_getElem? hpk)
      dsimp only at hto hr0 hr64
      obtain ⟨A3, c3, rfl, hle3, hx⟩ := hur
      obtain ⟨b3, off3, rfl, hb3, hcell3⟩ := hx (by intro e; rw [e] at hr0; simp at hr0)
      have HC3 := Lib.hid hcell3
      have HTO := Lib.hid hto
      have hsn : ps.take (k + 1) = ps.take k ++ [(dst, recs)] := by
        rw [List.take_succ_eq_append_getElem hlt]
        rw [List.getElem?_eq_getElem hlt] at hpk
        rw [Option.some.inj hpk]
      have hdr : flatR (ps.drop k) = recs ++ flatR (ps.drop (k + 1)) := by
        rw [List.drop_eq_getElem_cons hlt, flatR_cons]
        rw [List.getElem?_eq_getElem hlt] at hpk
        rw [Option.some.inj hpk]
      have HDR := Lib.hid hdr
      have hz2 : z + recs.length ≤ 300 := by
        have h1 := flat_le ps (k + 1)
        rw [hsn, flatR_snoc, List.length_append, ← HZ.out, PERM.out.length_eq] at h1
        dsimp only at h1
        omega
      have HSN := Lib.hid hsn
      have i1 : (0 : Int) ≤ (k : Int) := by omega
      have i2 : (k : Int) < (ps.length : Int) := by omega
      have XB : Bx (wr.alloc (.cells #[.int .i64 dst, .slice (some ⟨b3, off3, none⟩) recs.length c3] 39)) wr.heap.size 39 #[.int .i64 dst, .slice (some ⟨b3, off3, none⟩) recs.length c3] := Bx.new _ _ _ rfl
      have HXB := Lib.hid XB
      have XC := Lib.hid (fun (w3 : World) (hw : Ge (wr.alloc (.cells #[.int .i64 dst, .slice (some ⟨b3, off3, none⟩) recs.length c3] 39)) w3) => (XB.ge hw).cell 0)
      have XD := Lib.hid (fun (w3 : World) (hw : Ge (wr.alloc (.cells #[.int .i64 dst, .slice (some ⟨b3, off3, none⟩) recs.length c3] 39)) w3) => (XB.ge hw).cell 1)
      have l1 : ((recs.length : Int) == 0) = false := beq_eq_false_iff_ne.2 (by omega)
      have l2 : decide ((64 : Int) < (recs.length : Int)) = false := by simp; omega
      have hprev : k = 0 ∨ ∃ (k' : Nat) (dst' : Int), k = k' + 1 ∧ (∀ w3 : World, Ge (wr.alloc (.cells #[.int .i64 dst, .slice (some ⟨b3, off3, none⟩) recs.length c3] 39)) w3 → w3.cell? ⟨b, off + k' * 2, none⟩ = some (.int .i64 dst')) ∧ dst' ≤ dst := by
        rcases k with _ | k'
        · exact .inl rfl
        · right
          obtain ⟨⟨dst', recs'⟩, hpk'⟩ : ∃ p : Int × List Rc, ps[k']? = some p := ⟨_, List.getElem?_eq_getElem (by omega)⟩
          obtain ⟨u', huk'⟩ : ∃ u, ua[k']? = some u := ⟨_, List.getElem?_eq_getElem (by omega)⟩
          obtain ⟨q1', q2'⟩ := hcell k' _ _ hpk' huk'
          exact ⟨k', dst', rfl, fun w3 hw => ((HGE.out.trans (Ge.trans ((Ge.refl wr).alloc _) hw)).cell (p := ⟨b, off + k' * 2, none⟩) hb).trans q1', STEP.out k' _ _ hpk' hpk⟩
      have HPK := Lib.hid hpk
      clear hcell hpk huk q1 q2 hsn hdr hge XB hx hcell3 hto
      go_wp2
      obtain ⟨X, hX⟩ : ∃ x, x = wr.heap.size := ⟨_, rfl⟩
      have HX := Lib.hid hX
      obtain ⟨wX, hwX⟩ : ∃ x, x = wr.alloc (.cells #[.int .i64 dst, .slice (some ⟨b3, off3, none⟩) recs.length c3] 39) := ⟨_, rfl⟩
      have HWX := Lib.hid hwX
      rw [← hX, ← hwX] at HXB
      rw [← hX] at XC XD
      rw [← hwX] at XC XD hprev
      rw [← hX, ← hwX]
      clear hX hwX
      rcases hprev with hk0 | ⟨k', dst', hk1, hc', hd'⟩
      have hg0 : decide (0 < k) = false := by simp; omega
      clear hk0
      refine Dr.wp_region_T (by kernel_rfl) (by kernel_rfl) ?_
      iterate 25 (apply Dr.wpT_det; · (intro u w6 hw hF; clear hF; have k1 := XC.out w6 hw; have k2 := XD.out w6 hw; go_simp; first | exact ⟨Ge.refl _, rfl⟩ | exact Ge.refl _ | rfl))
      intro u6 w6 hw hF
      clear hF hg0
      rotate_left
      have hg0 : decide (0 < k) = true := by simp; omega
      have hsub : IntKind.i64.wrap ((k : Int) - 1) = (k' : Int) := by rw [IntWalk.i64_in _ (by omega)]; omega
      have j1 : (0 : Int) ≤ (k' : Int) := by omega
      have j2 : (k' : Int) < (ps.length : Int) := by omega
      have hdd : decide (dst < dst') = false := by simp; omega
      have HCC := Lib.hid hc'
      clear hk1 hc' hd'
      refine Dr.wp_region_T (by kernel_rfl) (by kernel_rfl) ?_
      iterate 25 (apply Dr.wpT_det; · (intro u w6 hw hF; clear hF; have k1 := XC.out w6 hw; have k2 := XD.out w6 hw; have k3 := HCC.out w6 hw; go_simp; first | exact ⟨Ge.refl _, rfl⟩ | exact Ge.refl _ | rfl))
      intro u6 w6 hw hF
      clear hF hg0 hsub j1 j2 hdd HCC
      all_goals
        have HW6 := Lib.hid hw
        have HG6 := Lib.hid (show Ge wr w6 from Ge.trans (by rw [HWX.out]; exact (Ge.refl wr).alloc _) hw)
        have x1 := XD.out w6 hw
        clear hw
        simp only [Act.put, List.setIfInBounds_toArray, List.set_cons_zero, List.set_cons_succ]
        go_wp2
        have HXL : Hid (X < w6.heap.size) := Lib.hid (HXB.out.ge HW6.out).lt
        obtain ⟨wo, hwo⟩ : ∃ x, x = wr := ⟨_, rfl⟩
        rw [← hwo] at *
        go_loopw [17, 98] (fun left j wr => ∃ (m : Nat) (L : List Rc) (A2 : Option Addr) (c2 : Nat) (D : DataW Unit), m ≤ recs.length ∧ j = .int .i64 (m : Int) ∧ left = .slice A2 L.length c2 ∧
          OwnR wr base (.slice A2 L.length c2) L ∧ L.Perm (recs.drop m ++ flatR (ps.drop (k + 1))) ∧ wr.ownsMap Tryd.prog 2 (plainElem Tryd.prog 3) B (z + m) D ∧ AtOk (destV kind worker workers) D ∧
          Bx wr X 39 #[.int .i64 dst, .slice (some ⟨b3, off3, none⟩) recs.length c3] ∧ (Value.slice A2 L.length c2).ownBlock ≠ some X ∧ Ge w4 wr) (fun _ j _ => recs.length - (intOf j).toNat)
        case atStart =>
          refine ⟨0, L, A2, c2, D, by omega, rfl, rfl, HOW.out.ge HG6.out, ?_, mapKept HM.out HG6.out, HAT.out, HXB.out.ge HW6.out, ?_, HGE.out.trans HG6.out⟩
          · rw [List.drop_zero, ← HDR.out]; exact HPE.out
          · intro e
            have := (HOW.out.lt _ e).2
            have := HX.out
            omega
        case round =>
          obtain ⟨m, L, A2, c2, D, hm, rfl, rfl, hown, hperm, hmap, hat, hxb, hnx, hge⟩ := hrel
          have HM0 := HM
          clear HOW HPE HM HAT x1
          have HOW := Lib.hid hown
          have HPE := Lib.hid hperm
          have HM := Lib.hid hmap
          have HAT := Lib.hid hat
          have HX3 := Lib.hid hxb
          have HNX := Lib.hid hnx
          have HGI := Lib.hid hge
          clear hperm hmap hat hnx
          by_cases hlm : m < recs.length
          · obtain ⟨⟨key, txt⟩, hr⟩ : ∃ r : Rc, recs[m]? = some r := ⟨_, List.getElem?_eq_getElem hlm⟩
            have hrd : recs.drop m = (key, txt) :: recs.drop (m + 1) := by
              rw [List.drop_eq_getElem_cons hlm]
              rw [List.getElem?_eq_getElem hlm] at hr
              rw [Option.some.inj hr]
            have HRD := Lib.hid hrd
            have hp2 := HPE.out
            rw [hrd, List.cons_append] at hp2
            have HP2 := Lib.hid hp2
            obtain ⟨k0, hk0, hfst⟩ := first_at (hp2.symm.subset List.mem_cons_self)
            have hk0l : k0 < L.length := (List.getElem?_eq_some_iff.1 hk0).1
            have hLl : L.length ≤ 1000000 := by
              have h1 := hp2.length_eq
              have h2 := (PERM.out.length_eq)
              have h3 : (flatR ps).length = (flatR (ps.take k)).length + (flatR (ps.drop k)).length := by
                unfold flatR; rw [← List.length_append, ← List.flatMap_append, List.take_append_drop]
              rw [HDR.out, List.length_append] at h3
              rw [List.length_cons, List.length_append, List.length_drop] at h1
              omega
            have HKI0 : inI key := HKI.out (key, txt) (PERM.out.subset (List.mem_flatMap.2 ⟨_, List.mem_of_getElem? HPK.out, List.mem_of_getElem? hr⟩))
            have hdv : destV kind worker workers key = dst := HTO.out (key, txt) (List.mem_of_getElem? hr)
            have HDV := Lib.hid hdv
            have HDI : inI dst := by rw [← hdv]; exact DIN.out (key, txt)
            have r0 := (hge.cell (p := ⟨b3, off3 + m * 2, none⟩) hb3).trans (HC3.out m _ hr).1
            have r1 := (hge.cell (p := ⟨b3, off3 + m * 2 + 1, none⟩) hb3).trans (HC3.out m _ hr).2
            dsimp only at r0 r1
            have l3 : b3 < wr.heap.size := Nat.lt_of_lt_of_le hb3 hge.size
            obtain ⟨wY, hwY⟩ : ∃ x, x = wr.alloc (.cells #[.int .i64 key, .string txt] 32) := ⟨_, rfl⟩
            have YB : Bx wY wr.heap.size 32 #[.int .i64 key, .string txt] := by rw [hwY]; exact Bx.new _ _ _ rfl
            have gY : Ge wr wY := by rw [hwY]; exact (Ge.refl wr).alloc _
            have HYB := Lib.hid YB
            have GY := Lib.hid gY
            have y0 := YB.cell 0
            have y1 := YB.cell 1
            simp only [List.getElem?_toArray, List.getElem?_cons_zero, List.getElem?_cons_succ] at y0 y1
            have HWY := Lib.hid hwY
            have HIX : Hid (Calls Tryd.prog 13 #[.slice A2 L.length c2, .agg #[.int .i64 key, .string txt]] wY fun e w' => e = .returned (.int .i64 (k0 : Int)) ∧ Ge wY w') :=
              Lib.hid (index_rec (r := (key, txt)) (hown.ge gY).recsAt (by omega) hk0 hfst)
            have HK0 := Lib.hid hk0
            have j1 : (0 : Int) ≤ (m : Int) := by omega
            have j2 : (m : Int) < (recs.length : Int) := by omega
            obtain ⟨Y, hY⟩ : ∃ y, y = wr.heap.size := ⟨_, rfl⟩
            have HY := Lib.hid hY
            rw [← hY] at HYB y0 y1
            have hnY : (Value.slice A2 L.length c2).ownBlock ≠ some Y := fun e => by have := (hown.lt _ e).2; omega
            have HNY := Lib.hid hnY
            clear hr hrd hp2 hk0 hfst hown hxb hge hdv YB gY hnY hY
            go_wp2_with fail
            rw [← HWY.out, ← HY.out]
            refine HIX.out.mono ?_
            rintro e w7 ⟨rfl, hg7⟩
            have G7 := Lib.hid (GY.out.trans hg7)
            have HOW7 := Lib.hid (HOW.out.ge G7.out)
            have HDE := Lib.hid (delete_any HOW7.out hLl hk0l)
            have HY7 := Lib.hid (HYB.out.ge hg7)
            clear hg7 HIX y0 y1 r0 r1
            go_wp2_with fail
            refine HDE.out.mono ?_
            rintro e w8 ⟨v8, rfl, hown8, hob8, hgr8⟩
            have HOB := Lib.hid hob8
            have hXl := (HX3.out.ge G7.out).lt
            have X8 : Bx w8 X 39 #[.int .i64 dst, .slice (some ⟨b3, off3, none⟩) recs.length c3] := (hgr8.block X hXl (fun e => HNX.out e.symm)).trans (HX3.out.ge G7.out)
            have Y8 : Bx w8 Y 32 #[.int .i64 key, .string txt] := (hgr8.block Y HY7.out.lt (fun e => HNY.out e.symm)).trans HY7.out
            have hBn : some B ≠ (Value.slice A2 L.length c2).ownBlock := fun e => by
              have h1 := (HOW.out.lt B e.symm).1
              have h2 := HSZ.out
              omega
            have M8 := Lib.hid ((mapKept HM.out G7.out).kept hgr8 hBn)
            have G8 := Lib.hid (ge_own (HGI.out.trans G7.out) HOW7.out (by rw [← HBB.out]; have := HSZ.out; omega) hgr8)
            have HX8 := Lib.hid X8
            have x0 := X8.cell 0
            have y0 := Y8.cell 0
            simp only [List.getElem?_toArray, List.getElem?_cons_zero] at x0 y0
            have xl := X8.lt
            have yl := Y8.lt
            obtain ⟨A8, c8, hv8⟩ := hown8.form
            rw [hv8] at hown8 hob8 ⊢
            have HO8 := Lib.hid hown8
            have HBO := Lib.hid (show some B ≠ (Value.slice A8 (L.eraseIdx k0).length c8).ownBlock by rw [hob8]; exact hBn)
            have HXO := Lib.hid (show (Value.slice A8 (L.eraseIdx k0).length c8).ownBlock ≠ some X by rw [hob8]; exact HNX.out)
            have HPN := Lib.hid (perm_at HK0.out HP2.out)
            have HWF := Lib.hid (wf_in HKI0)
            have HWD := Lib.hid (wf_in HDI)
            have HLT := Lib.hid (show z + m < maxLen by unfold maxLen; omega)
            have HCD := Lib.hid (fun (h : Maps.has D (.int .i64 key) = true) (c : Int) (h2 : D.atKey (.int .i64 key) (.lit (.int .i64 0)) = .lit (.int .i64 c)) => (show (c != dst) = false by
              have h3 := HAT.out.at_ key h
              rw [h2, HDV.out] at h3
              cases h3
              simp))
            clear hown8 hob8 hgr8 hXl X8 Y8 hBn hv8 HDE HOB HKI0 HDI
            rcases hq : Maps.has D (.int .i64 key) with _ | _
            all_goals
              have HHQ := Lib.hid hq
              go_wp2_with (first | (at_lookup; refine wpList_lookup_own_ok_int _ rfl _ _ 44 rfl 2 3 .i64 keyed2 Tryd.underlying44 Tryd.underlying3 (zero3 _) B (z + m) D rfl M8.out _ _ rfl (keyOf_int_mk Tryd.underlying2 HWF.out) ?_; intro c hat hwc; have hcd := Lib.hid (fun h => HCD.out h c hat); clear hat hwc; rw [HHQ.out]; try have hcdd := hcd.out HHQ.out) | (at_mapUpdate; refine wpList_mapUpdate_own _ rfl _ _ _ 44 rfl 2 3 keyed2 Tryd.underlying44 _ B (z + m) D rfl M8.out HLT.out _ _ _ rfl rfl (keyOf_int_mk Tryd.underlying2 HWF.out) _ [] (plainElem_int Tryd.underlying3 HWD.out) ?_; intro w9 hown9 hgr9; have HOWM := Lib.hid hown9; have HG9 := Lib.hid hgr9; clear hown9 hgr9))
              go_roundw
              case rel =>
                refine ⟨m + 1, L.eraseIdx k0, A8, c8, D.put (.int .i64 key) (.lit (.int .i64 dst)), by omega, by go_num, rfl, World.ownsRow.kept HO8.out HG9.out (.inr (fun e => HBO.out e.symm)), HPN.out, ?_, ?_, (HG9.out.block X HX8.out.lt ?_).trans HX8.out, HXO.out, ge_map G8.out (by rw [HBB.out]; exact Nat.le_refl _) HG9.out⟩
                · rw [← Nat.add_assoc]; exact HOWM.out
                · have := HAT.out.put key
                  rw [HDV.out] at this
                  exact this
                · intro e
                  have h1 : X = B := by simpa using e
                  have h2 := HM.out.lt
                  have h3 := HX.out
                  have h4 := (mapKept HM0.out (Ge.refl _)).lt
                  omega
              case measure => simp [intOf]; omega
          · have hmm : m = recs.length := by omega
            have hdm : decide ((m : Int) < (recs.length : Int)) = false := by simp; omega
            have HMM := Lib.hid hmm
            clear hown hxb hge hmm
            go_wp2
            go_roundw
            case rel =>
              refine ⟨k + 1, z + recs.length, L, A2, c2, D, by omega, by go_num, by go_num, rfl, HOW.out, ?_, ?_, ?_, HAT.out, HGI.out⟩
              · have := HPE.out
                rw [HMM.out, List.drop_length, List.nil_append] at this
                exact this
              · rw [HSN.out, flatR_snoc, List.length_append, ← HZ.out]
              · have := HM.out
                rw [HMM.out] at this
                exact this
            case measure => simp [intOf]; omega
    · have hkl : k = ps.length := by omega
      have hzl : z = rs.length := by rw [HZ.out, hkl, List.take_length]; exact PERM.out.length_eq
      subst hkl
      subst hzl
      have hn : ((rs.length : Int) != (rs.length : Int)) = false := by simp
      by_cases hr0 : rs.length = 0
      · have hq0 : decide (0 < rs.length) = false := decide_eq_false (by omega)
        have hps : ps = [] := by
          cases hp : ps with
          | nil => rfl
          | cons p ps' =>
            exfalso
            have h1 := (TO.out p (by rw [hp]; exact List.mem_cons_self)).2.1
            have h2 := PERM.out.length_eq
            rw [hp, flatR_cons, List.length_append] at h2
            omega
        have hpsb : psb = [] := by
          cases hp : psb with
          | nil => rfl
          | cons p ps' =>
            exfalso
            have h1 := (TOB.out p (by rw [hp]; exact List.mem_cons_self)).2.1
            have h2 := PERMB.out.length_eq
            rw [hp, flatR_cons, List.length_append] at h2
            omega
        have ha := PA.out
        have hb := PB.out
        rw [hps] at ha
        rw [hpsb] at hb
        have HS := Lib.hid (same_any (ha.ge hge) (hb.ge hge) (by simp) (by simp))
        have HPS := Lib.hid hps
        have HPSB := Lib.hid hpsb
        have e1 : ps.length = 0 := by rw [hps]; rfl
        have e2 : psb.length = 0 := by rw [hpsb]; rfl
        clear hr0 hge ha hb hps hpsb
        go_wp2_with fail
        refine HS.out.mono ?_
        rintro e w9 ⟨rfl, hg9⟩
        have G9 := Lib.hid (G4.out.trans (HGE.out.trans hg9))
        clear hg9
        go_wp2
        go_returns
        exact ⟨rfl, G9.out⟩
      · have hq0 : decide (0 < rs.length) = true := by simp; omega
        obtain ⟨⟨d0, b0⟩, hp0⟩ : ∃ p : Int × List Rc, ps[0]? = some p := by
          cases hp : ps with
          | nil =>
            have h2 := PERM.out.length_eq
            rw [hp] at h2
            simp [flatR] at h2
            omega
          | cons p ps' => exact ⟨p, rfl⟩
        obtain ⟨⟨e0, f0⟩, hp1⟩ : ∃ p : Int × List Rc, psb[0]? = some p := by
          cases hp : psb with
          | nil =>
            have h2 := PERMB.out.length_eq
            rw [hp] at h2
            simp [flatR] at h2
            omega
          | cons p ps' => exact ⟨p, rfl⟩
        have hpl : 0 < ps.length := (List.getElem?_eq_some_iff.1 hp0).1
        have hpl1 : 0 < psb.length := (List.getElem?_eq_some_iff.1 hp1).1
        obtain ⟨b, off, rfl, hb, hcell⟩ := HCA.out (by intro e; rw [e] at hpl; simp at hpl)
        obtain ⟨b1, off1, rfl, hb1, hcell1⟩ := HCB.out (by intro e; rw [e] at hpl1; simp at hpl1)
        obtain ⟨u, huk⟩ : ∃ u, ua[0]? = some u := ⟨_, List.getElem?_eq_getElem (by omega)⟩
        obtain ⟨u1, huk1⟩ : ∃ u, ub[0]? = some u := ⟨_, List.getElem?_eq_getElem (by omega)⟩
        have c0 : wr.cell? ⟨b, off, none⟩ = some (.int .i64 d0) := by
          have := (hge.cell (p := ⟨b, off + 0 * 2, none⟩) hb).trans (hcell 0 _ _ hp0 huk).1
          simpa using this
        have c1 : wr.cell? ⟨b1, off1, none⟩ = some (.int .i64 e0) := by
          have := (hge.cell (p := ⟨b1, off1 + 0 * 2, none⟩) hb1).trans (hcell1 0 _ _ hp1 huk1).1
          simpa using this
        have hsame : (d0 = worker ∧ e0 = other) ∨ ps = psb := by
          cases hkb : keyB kind with
          | true => exact .inr (KEY.out hkb)
          | false =>
            left
            obtain ⟨t1, t2, _⟩ := TO.out _ (List.mem_of_getElem? hp0)
            obtain ⟨s1, s2, _⟩ := TOB.out _ (List.mem_of_getElem? hp1)
            dsimp only at t1 t2 s1 s2
            obtain ⟨r, hr⟩ := List.exists_mem_of_length_pos t2
            obtain ⟨r', hr'⟩ := List.exists_mem_of_length_pos s2
            have h1 := t1 r hr
            have h2 := s1 r' hr'
            unfold toV at h1 h2
            rw [hkb] at h1 h2
            exact ⟨h1.symm, h2.symm⟩
        have i1 : (0 : Int) < (ps.length : Int) := by omega
        have i2 : (0 : Int) < (psb.length : Int) := by omega
        clear hcell hcell1 hp0 hp1 huk huk1 hr0
        by_cases hd : d0 = worker ∧ e0 = other
        · have t1 : (d0 == worker) = true := by simp [hd.1]
          have t2 : (e0 == other) = true := by simp [hd.2]
          clear hd hsame hge
          go_wp2
          go_returns
          exact ⟨rfl, G4.out.trans HGE.out⟩
        · have hpp : ps = psb := hsame.resolve_left hd
          have ha := PA.out
          have hb := PB.out
          have h1 := PC1.out
          have h2 := PC2.out
          rw [← hpp] at hb
          have HS := Lib.hid (same_any (ha.ge hge) (hb.ge hge) h1 h2)
          have hln : psb.length = ps.length := by rw [hpp]
          clear hge ha hb hpp hsame h1 h2
          by_cases hd1 : d0 = worker
          · have t1 : (d0 == worker) = true := by simp [hd1]
            have t2 : (e0 == other) = false := by simpa using fun h => hd ⟨hd1, h⟩
            clear hd hd1
            go_wp2_with fail
            refine HS.out.mono ?_
            rintro e w9 ⟨rfl, hg9⟩
            have G9 := Lib.hid (G4.out.trans (HGE.out.trans hg9))
            clear hg9
            go_wp2
            go_returns
            exact ⟨rfl, G9.out⟩
          · have t1 : (d0 == worker) = false := by simpa using hd1
            clear hd hd1
            go_wp2_with fail
            refine HS.out.mono ?_
            rintro e w9 ⟨rfl, hg9⟩
            have G9 := Lib.hid (G4.out.trans (HGE.out.trans hg9))
            clear hg9
            go_wp2
            go_returns
            exact ⟨rfl, G9.out⟩
end Go.Proofs.YtidblliobkjeeaaDoor
