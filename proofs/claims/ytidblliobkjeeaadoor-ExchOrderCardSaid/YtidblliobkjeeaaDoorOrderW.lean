/-
  ExchOrder, its walk.
-/
import Derived.Test.YtidblliobkjeeaaDoorOrderP
import Derived.Test.YtidblliobkjeeaaDoorEachW
import Derived.Laws.BytesArg
namespace Go.Proofs.YtidblliobkjeeaaDoor
open Go.RowKit Go.Maps
attribute [local go_sem] Dr.upT

theorem take_i8 {w : World} {A : Option Addr} {cap k : Nat} {xs : List Int} (h : BytesAt w (.slice A xs.length cap) xs) (hk : k ≤ xs.length) (w' : World) :
    (Instr.slice 27 (.slice A xs.length cap) none (some (.int .i64 (k : Int))) none).run Tryd.prog w' = .ok (.slice A k cap) w' := by
  obtain ⟨A0, cap0, e, hle, hc⟩ := h
  cases e
  have h1 : (k : Int) ≤ (xs.length : Int) := by omega
  have h2 : (k : Int) ≤ (cap : Int) := by omega
  go_simp

set_option maxRecDepth 100000 in
set_option maxHeartbeats 16000000 in
theorem order_walk {w : World} (hT : Tabs w) (kind worker workers : Int) {v : Value} {keys : List Int} (hv : BytesAt w v keys) (hl : keys.length ≤ 9223372036854775807) (hk8 : ∀ r ∈ keys, -128 ≤ r ∧ r ≤ 127) :
    Calls Tryd.prog 4 #[.int .i64 kind, .int .i64 worker, .int .i64 workers, v] w fun e w' => e = .returned (.bool true) ∧ Ge w w' := by
  have hmm := @run_makeMap Tryd.prog
  have HT := Lib.hid hT
  have HVB := Lib.hid hv
  have HK8 := Lib.hid hk8
  obtain ⟨A, cap, rfl, -, hc⟩ := hv
  have HC := Lib.hid hc
  obtain ⟨n0, hn0⟩ : ∃ n, n = if keys.length ≤ 300 then keys.length else 300 := ⟨_, rfl⟩
  have hn0l : n0 ≤ keys.length := by rw [hn0]; split <;> omega
  have hn03 : n0 ≤ 300 := by rw [hn0]; split <;> omega
  have hmin : min (keys.length : Int) 300 = (n0 : Int) := by rw [hn0]; split <;> omega
  have hT8 := take_i8 HVB.out hn0l
  obtain ⟨i0, hi, hz0, hz1, hz2⟩ := info_parts info32
  clear hT hk8 hc hn0
  go_enter Tryd.func4, Tryd.ntmps4
  go_wp2
  clear hT8 hmin
  go_loopw [9, 28] (fun l i wr => ∃ (k : Nat) (A2 : Option Addr) (c2 : Nat), k ≤ n0 ∧ i = .int .i64 (k : Int) ∧ l = .slice A2 k c2 ∧ wr.ownsRow w.heap.size 32 2 (.slice A2 k c2) k (recC (recsV keys k)) ∧ Ge w wr) (fun _ i _ => n0 - (intOf i).toNat)
  case atStart => exact ⟨0, none, 0, by omega, rfl, rfl, World.ownsRow_nil _ _ _ _, Ge.refl _⟩
  case round =>
    obtain ⟨k, A2, c2, hk, rfl, rfl, hown, hge⟩ := hrel
    have HOW := Lib.hid hown
    have HGE := Lib.hid hge
    clear hown
    by_cases hlt : k < n0
    · obtain ⟨b, off, rfl, hb, hcell⟩ := HC.out (by intro e; rw [e] at hn0l; simp at hn0l; omega)
      obtain ⟨x, hx⟩ : ∃ x, keys[k]? = some x := ⟨_, List.getElem?_eq_getElem (by omega)⟩
      have c0 := (hge.cell (p := ⟨b, off + k, none⟩) hb).trans (hcell k x hx)
      obtain ⟨x1, x2⟩ := HK8.out x (List.mem_of_getElem? hx)
      have HXX := Lib.hid hx
      have i1 : (0 : Int) ≤ (k : Int) := by omega
      have i2 : (k : Int) < (n0 : Int) := by omega
      have i3 : (k : Int) ≤ 300 := by omega
      have hlb : b < wr.heap.size := Nat.lt_of_lt_of_le hb hge.size
      clear hcell hge hx
      obtain ⟨bw, hbw⟩ : ∃ x, x = wr.alloc (.cells #[.int .u8 (97 + (k : Int) / 26 % 26), .int .u8 (97 + (k : Int) % 26)] 5) := ⟨_, rfl⟩
      have XB : Bx bw wr.heap.size 5 #[.int .u8 (97 + (k : Int) / 26 % 26), .int .u8 (97 + (k : Int) % 26)] := by rw [hbw]; exact Bx.new _ _ _ rfl
      have hcv := run_convert_bytes_arg (P := Tryd.prog) bw 30 5 Tryd.underlying30 Tryd.underlying5 wr.heap.size 0 2 2 [97 + (k : Int) / 26 % 26, 97 + (k : Int) % 26] rfl
        (fun i hi => by
          rw [XB.cell]
          rcases i with _ | _ | i
          · rfl
          · rfl
          · omega) 9 Tryd.underlying9
      have gB : Ge wr bw := by rw [hbw]; exact (Ge.refl wr).alloc _
      have GB := Lib.hid gB
      have hsB : bw.heap.size = wr.heap.size + 1 := by rw [hbw]; simp
      rw [hbw] at hcv
      obtain ⟨txt, htxt⟩ : ∃ t, t = strOfNums [97 + (k : Int) / 26 % 26, 97 + (k : Int) % 26] := ⟨_, rfl⟩
      rw [← htxt] at hcv
      have HROW := Lib.hid (ownsRow_ge (HOW.out.alloc (.cells #[.int .u8 (97 + (k : Int) / 26 % 26), .int .u8 (97 + (k : Int) % 26)] 5)) ((Ge.refl _).alloc (.cells #[.int .i64 x, .string txt] 32)))
      have HBW := Lib.hid hbw
      have HTX := Lib.hid htxt
      have C1 := Lib.hid (show w.heap.size ≤ ((wr.alloc (.cells #[.int .u8 (97 + (k : Int) / 26 % 26), .int .u8 (97 + (k : Int) % 26)] 5)).alloc (.cells #[.int .i64 x, .string txt] 32)).heap.size by have := HGE.out.size; simp; omega)
      clear hbw XB gB hsB htxt
      go_wp2_with (at_builtin; refine wpList_append_lies _ rfl (.tmp 33) (.tmp 48) 28 rfl w.heap.size 32 i0 _ 2 24 Tryd.underlying28 hi hz0 hz1 hz2 rfl (by decide) _ _ _ rfl HROW.out ⟨wr.heap.size + 1, 0, none⟩ 1 1 [.int .i64 x, .string txt] rfl rfl (World.news_of_block (cs := #[.int .i64 x, .string txt]) (t := 32) (fr := (0, 0)) (by have := heap_alloc_new (wr.alloc (.cells #[.int .u8 (97 + (k : Int) / 26 % 26), .int .u8 (97 + (k : Int) % 26)] 5)) (.cells #[.int .i64 x, .string txt] 32); simpa using this)) (by simp [Value.oneCell']) (by omega) (by simp only [maxLen]; omega) (by omega) C1.out _ rfl ?_; intro gg cap4 w5 hown5 hgrow5 hat5 hlt5; have HOW5 := Lib.hid hown5; have HG5 := Lib.hid hgrow5; clear hown5 hgrow5 hat5 hlt5)
      go_roundw
      case rel =>
        refine ⟨k + 1, some ⟨gg, 0, none⟩, cap4, by omega, by go_num, rfl, ?_, ge_own ((HGE.out.alloc _).alloc _) HROW.out (Nat.le_refl _) HG5.out⟩
        rw [recsV_succ, recC_snoc]
        have hx' : keys.getD k 0 = x := by rw [List.getD_eq_getElem?_getD, HXX.out]; rfl
        have e1 : (recV keys k).1 = x := hx'
        have e2 : (recV keys k).2 = txt := by rw [HTX.out]; rfl
        rw [e1, e2]
        exact HOW5.out
      case measure => simp [intOf]; omega
    · have hkl : k = n0 := by omega
      subst hkl
      obtain ⟨w1, hw1⟩ : ∃ x, x = wr := ⟨_, rfl⟩
      subst hw1
      have hrl := recsV_len keys k
      have hrs : RecsAt w1 (.slice A2 k c2) (recsV keys k) := OwnR.recsAt (base := w.heap.size) (show w1.ownsRow w.heap.size 32 2 (.slice A2 k c2) (recsV keys k).length (recC (recsV keys k)) by rw [hrl]; exact HOW.out)
      have hpt : ∀ (j : Nat) (r : Rc), (recsV keys k)[j]? = some r → j = posV r := fun j r h => recsV_at (by omega) h
      have hpw := parcels_rise kind worker workers keys k (by omega)
      have hkin : mayB worker workers = true → ∀ r : Rc, inI (destV kind worker workers r.1) := fun h r => destV_in h r
      generalize recsV keys k = rs at *
      have HRS := Lib.hid hrs
      have HPT := Lib.hid hpt
      have HPW := Lib.hid hpw
      have HRL := Lib.hid hrl
      have HP := Lib.hid (parcels_any (HT.out.ge HGE.out) kind worker workers hrs (by omega))
      unfold ParcelsOut at HP
      clear hpt hpw hge HOW hrs hrl HC HVB HK8
      go_wp2_with fail
      refine HP.out.mono ?_
      rintro e w2 ⟨va, rfl, hpa, hg2⟩
      have G2 := Lib.hid (HGE.out.trans hg2)
      have HB2 := Lib.hid (begun_any (HT.out.ge G2.out))
      have A2' := Lib.hid hpa
      have G12 := Lib.hid hg2
      clear hpa hg2 HP
      go_wp2_with fail
      refine HB2.out.mono ?_
      rintro e w3 ⟨rfl, hg3⟩
      have G3 := Lib.hid (G2.out.trans hg3)
      have PA := Lib.hid (A2'.out.ge hg3)
      have G13 := Lib.hid (G12.out.trans hg3)
      clear hg3 A2' HB2
      by_cases hea : partE kind worker workers rs = 0
      rotate_left
      · have h1 : (partE kind worker workers rs != 0) = true := by simpa using hea
        have HB4 := Lib.hid (begun_any (HT.out.ge G3.out))
        clear hea
        go_wp2_with fail
        refine HB4.out.mono ?_
        rintro e w4 ⟨rfl, hg4⟩
        have G4 := Lib.hid (G3.out.trans hg4)
        clear hg4
        go_wp2
        go_returns
        exact ⟨rfl, G4.out⟩
      have PERM := Lib.hid (parcels_perm hea)
      have TO := Lib.hid (fun p hp => parcel_to (kind := kind) (worker := worker) (workers := workers) (rs := rs) (p := p) hp)
      have hrl2 : rs.length ≤ 300 := by have := HRL.out; omega
      have PC1 := Lib.hid (parcelP_len kind worker workers rs (by omega))
      have DIN := Lib.hid (hkin (partE_may hea))
      rw [hea]
      clear hea hkin
      generalize parcelL (partP kind worker workers rs) = ps at *
      have hAe := PA.out
      obtain ⟨Aa, ca, ua, rfl, hlea, hula, hca, hra⟩ := hAe
      have HCA := Lib.hid hca
      have HRA := Lib.hid hra
      have hfl : ps.length ≤ 100000000 := PC1.out
      clear hca hra
      have M3 := Lib.hid (World.ownsMap_made w3 Tryd.prog 3 (plainElem (H := Unit) Tryd.prog 3))
      obtain ⟨B, hB⟩ : ∃ b, b = w3.heap.size := ⟨_, rfl⟩
      have HBB := Lib.hid hB
      go_wp2
      rw [← hB] at M3 ⊢
      clear hB
      go_loopw [69] (fun i wr => ∃ (k z : Nat) (D : DataW Unit), k ≤ ps.length ∧ i = .int .i64 (k : Int) ∧ z = (flatR (ps.take k)).length ∧ wr.ownsMap Tryd.prog 3 (plainElem Tryd.prog 3) B z D ∧ LastOk (pairsG (ps.drop k)) D ∧ Ge w3 wr) (fun i _ => ps.length - (intOf i).toNat)
      case atStart => exact ⟨0, 0, .map [], by omega, rfl, by simp [flatR], M3.out, LastOk.empty _, (Ge.refl w3).alloc _⟩
      case round =>
        obtain ⟨q, z, D, hq, rfl, hz, hmap, hat, hge⟩ := hrel
        have HZ := Lib.hid hz
        have HM := Lib.hid hmap
        have HAT := Lib.hid hat
        have HG := Lib.hid hge
        clear hz hmap hat M3
        by_cases hlt : q < ps.length
        · obtain ⟨b, off, rfl, hb, hcell⟩ := HCA.out (by intro e; rw [e] at hlt; simp at hlt)
          obtain ⟨⟨dst, recs⟩, hpk⟩ : ∃ p : Int × List Rc, ps[q]? = some p := ⟨_, List.getElem?_eq_getElem hlt⟩
          obtain ⟨u, huk⟩ : ∃ u, ua[q]? = some u := ⟨_, List.getElem?_eq_getElem (by omega)⟩
          have hur := HRA.out q _ _ hpk huk
          obtain ⟨q1, q2⟩ := hcell q _ _ hpk huk
          have c0 := (hge.cell (p := ⟨b, off + q * 2, none⟩) hb).trans q1
          have c1 := (hge.cell (p := ⟨b, off + q * 2 + 1, none⟩) hb).trans q2
          dsimp only at c0 hur
          obtain ⟨hto, hr0, hr64⟩ := TO.out _ (List.mem_of_getElem? hpk)
          dsimp only at hto hr0 hr64
          obtain ⟨A3, c3, rfl, hle3, hx⟩ := hur
          obtain ⟨b3, off3, rfl, hb3, hcell3⟩ := hx (by intro e; rw [e] at hr0; simp at hr0)
          have HC3 := Lib.hid hcell3
          have HTO := Lib.hid hto
          have hsn : ps.take (q + 1) = ps.take q ++ [(dst, recs)] := by
            rw [List.take_succ_eq_append_getElem hlt]
            rw [List.getElem?_eq_getElem hlt] at hpk
            rw [Option.some.inj hpk]
          have hdc : ps.drop q = (dst, recs) :: ps.drop (q + 1) := by
            rw [List.drop_eq_getElem_cons hlt]
            rw [List.getElem?_eq_getElem hlt] at hpk
            rw [Option.some.inj hpk]
          have hdr : pairsG (ps.drop q) = recs.map (fun r => (dst, r)) ++ pairsG (ps.drop (q + 1)) := by rw [hdc, pairsG_cons]
          have HDR := Lib.hid hdr
          have hpw2 : (recs.map (fun r => (dst, r)) ++ pairsG (ps.drop (q + 1))).Pairwise Rise := by
            have h1 := HPW.out
            have h2 : pairsG ps = pairsG (ps.take q) ++ pairsG (ps.drop q) := by unfold pairsG; rw [← List.flatMap_append, List.take_append_drop]
            rw [h2, hdr] at h1
            exact (List.pairwise_append.1 h1).2.1
          have HPW2 := Lib.hid hpw2
          have hz2 : z + recs.length ≤ 300 := by
            have h1 := flat_le ps (q + 1)
            rw [hsn, flatR_snoc, List.length_append, ← HZ.out, PERM.out.length_eq] at h1
            dsimp only at h1
            omega
          have HSN := Lib.hid hsn
          have HPK := Lib.hid hpk
          have i1 : (0 : Int) ≤ (q : Int) := by omega
          have i2 : (q : Int) < (ps.length : Int) := by omega
          have hlb : b < wr.heap.size := Nat.lt_of_lt_of_le hb hge.size
          obtain ⟨wX, hwX⟩ : ∃ x, x = wr.alloc (.cells #[.int .i64 dst, .slice (some ⟨b3, off3, none⟩) recs.length c3] 39) := ⟨_, rfl⟩
          have XB : Bx wX wr.heap.size 39 #[.int .i64 dst, .slice (some ⟨b3, off3, none⟩) recs.length c3] := by rw [hwX]; exact Bx.new _ _ _ rfl
          have HWX := Lib.hid hwX
          have hgX : Ge wr wX := by rw [hwX]; exact (Ge.refl wr).alloc _
          have HGX := Lib.hid hgX
          obtain ⟨X, hX⟩ : ∃ x, x = wr.heap.size := ⟨_, rfl⟩
          have HX := Lib.hid hX
          rw [← hX] at XB
          have HXB := Lib.hid XB
          clear hcell hpk huk q1 q2 hsn hdc hdr hge XB hx hcell3 hto hpw2 hwX hgX hX
          go_wp2
          rw [← HWX.out, ← HX.out]
          obtain ⟨wo, hwo⟩ : ∃ x, x = wr := ⟨_, rfl⟩
          rw [← hwo] at *
          go_loopw [76] (fun j wr => ∃ (m : Nat) (D : DataW Unit), m ≤ recs.length ∧ j = .int .i64 (m : Int) ∧ wr.ownsMap Tryd.prog 3 (plainElem Tryd.prog 3) B (z + m) D ∧
            LastOk ((recs.drop m).map (fun r => (dst, r)) ++ pairsG (ps.drop (q + 1))) D ∧ Bx wr X 39 #[.int .i64 dst, .slice (some ⟨b3, off3, none⟩) recs.length c3] ∧ Ge w3 wr) (fun j _ => recs.length - (intOf j).toNat)
          case atStart => exact ⟨0, D, by omega, rfl, mapKept HM.out HGX.out, (by rw [List.drop_zero, ← HDR.out]; exact HAT.out), HXB.out, HG.out.trans HGX.out⟩
          case round =>
            obtain ⟨m, D, hm, rfl, hmap, hat, hxb, hge⟩ := hrel
            have HM0 := HM
            clear HM HAT
            have HM := Lib.hid hmap
            have HAT := Lib.hid hat
            have HX3 := Lib.hid hxb
            have HGI := Lib.hid hge
            clear hmap hat
            by_cases hlm : m < recs.length
            · obtain ⟨⟨key, txt⟩, hr⟩ : ∃ r : Rc, recs[m]? = some r := ⟨_, List.getElem?_eq_getElem hlm⟩
              have hrd : recs.drop m = (key, txt) :: recs.drop (m + 1) := by
                rw [List.drop_eq_getElem_cons hlm]
                rw [List.getElem?_eq_getElem hlm] at hr
                rw [Option.some.inj hr]
              have hla := HAT.out
              rw [hrd, List.map_cons, List.cons_append] at hla
              have HLA := Lib.hid hla
              have hpw3 : (((dst, (key, txt)) : Int × Rc) :: ((recs.drop (m + 1)).map (fun r => (dst, r)) ++ pairsG (ps.drop (q + 1)))).Pairwise Rise := by
                have h1 := HPW2.out
                have h2 : recs.map (fun r => (dst, r)) = (recs.take m).map (fun r => (dst, r)) ++ (recs.drop m).map (fun r => (dst, r)) := by rw [← List.map_append, List.take_append_drop]
                rw [h2, List.append_assoc, hrd, List.map_cons, List.cons_append] at h1
                exact (List.pairwise_append.1 h1).2.1
              have HPW3 := Lib.hid hpw3
              have hmem : (key, txt) ∈ rs := PERM.out.subset (List.mem_flatMap.2 ⟨_, List.mem_of_getElem? HPK.out, List.mem_of_getElem? hr⟩)
              obtain ⟨k0, hk0, hfst⟩ := first_at hmem
              have hk0l : k0 < rs.length := (List.getElem?_eq_some_iff.1 hk0).1
              have hpos := HPT.out k0 _ hk0
              have HPOS := Lib.hid hpos
              have hdv : destV kind worker workers key = dst := HTO.out (key, txt) (List.mem_of_getElem? hr)
              have HDI : inI dst := by rw [← hdv]; exact DIN.out (key, txt)
              have r0 := (((HGI.out).cell (p := ⟨b3, off3 + m * 2, none⟩) (Nat.lt_of_lt_of_le hb3 (Nat.le_refl _))).trans (HC3.out m _ hr).1)
              have r1 := (((HGI.out).cell (p := ⟨b3, off3 + m * 2 + 1, none⟩) (Nat.lt_of_lt_of_le hb3 (Nat.le_refl _))).trans (HC3.out m _ hr).2)
              dsimp only at r0 r1
              have l3 : b3 < wr.heap.size := Nat.lt_of_lt_of_le hb3 hge.size
              obtain ⟨wY, hwY⟩ : ∃ x, x = wr.alloc (.cells #[.int .i64 key, .string txt] 32) := ⟨_, rfl⟩
              have YB : Bx wY wr.heap.size 32 #[.int .i64 key, .string txt] := by rw [hwY]; exact Bx.new _ _ _ rfl
              have gY : Ge wr wY := by rw [hwY]; exact (Ge.refl wr).alloc _
              have GY := Lib.hid gY
              have HWY := Lib.hid hwY
              have g1Y : Ge w1 wY := G13.out.trans (HGI.out.trans gY)
              have hrs2 := HRS.out.ge g1Y
              have HIX : Hid (Calls Tryd.prog 13 #[.slice A2 k c2, .agg #[.int .i64 key, .string txt]] wY fun e w' => e = .returned (.int .i64 (k0 : Int)) ∧ Ge wY w') :=
                Lib.hid (index_rec (r := (key, txt)) hrs2 (by omega) hk0 hfst)
              have j1 : (0 : Int) ≤ (m : Int) := by omega
              have j2 : (m : Int) < (recs.length : Int) := by omega
              clear hr hrd hla hpw3 hmem hk0 hfst hpos hxb hge hdv YB gY hwY g1Y hrs2
              go_wp2_with fail
              rw [← HWY.out]
              refine HIX.out.mono ?_
              rintro e w7 ⟨rfl, hg7⟩
              have G7 := Lib.hid (GY.out.trans hg7)
              have X7 := HX3.out.ge G7.out
              have HX7 := Lib.hid X7
              have M7 := Lib.hid (mapKept HM.out G7.out)
              have x0 := X7.cell 0
              simp only [List.getElem?_toArray, List.getElem?_cons_zero] at x0
              have xl := X7.lt
              have HWF := Lib.hid (wf_in HDI)
              have HWD := Lib.hid (wf_in (show inI (k0 : Int) from ⟨by omega, by omega⟩))
              have HLT := Lib.hid (show z + m < maxLen by unfold maxLen; omega)
              have HCD := Lib.hid (fun (h : Maps.has D (.int .i64 dst) = true) (c : Int) (h2 : D.atKey (.int .i64 dst) (.lit (.int .i64 0)) = .lit (.int .i64 c)) => (show decide ((k0 : Int) ≤ c) = false by
                obtain ⟨c', h3, h4⟩ := HLA.out.at_ dst h
                rw [h2] at h3
                cases h3
                have h5 := h4 _ List.mem_cons_self rfl
                dsimp only at h5
                rw [← HPOS.out] at h5
                exact decide_eq_false (by omega)))
              clear hg7 HIX r0 r1 X7 HDI
              rcases hq : Maps.has D (.int .i64 dst) with _ | _
              all_goals
                have HHQ := Lib.hid hq
                go_wp2_with (first | (at_lookup; refine wpList_lookup_own_ok_int _ rfl _ _ 37 rfl 3 3 .i64 keyed3 Tryd.underlying37 Tryd.underlying3 (zero3 _) B (z + m) D rfl M7.out _ _ rfl (keyOf_int_mk Tryd.underlying3 HWF.out) ?_; intro c hat hwc; have hcd := Lib.hid (fun h => HCD.out h c hat); clear hat hwc; rw [HHQ.out]; try have hcdd := hcd.out HHQ.out) | (at_mapUpdate; refine wpList_mapUpdate_own _ rfl _ _ _ 37 rfl 3 3 keyed3 Tryd.underlying37 _ B (z + m) D rfl M7.out HLT.out _ _ _ rfl rfl (keyOf_int_mk Tryd.underlying3 HWF.out) _ [] (plainElem_int Tryd.underlying3 HWD.out) ?_; intro w9 hown9 hgr9; have HOWM := Lib.hid hown9; have HG9 := Lib.hid hgr9; clear hown9 hgr9))
                go_roundw
                case rel =>
                  refine ⟨m + 1, D.put (.int .i64 dst) (.lit (.int .i64 (k0 : Int))), by omega, by go_num, ?_, ?_, (HG9.out.block X HX7.out.lt ?_).trans HX7.out, ge_map (HGI.out.trans G7.out) (by rw [HBB.out]; exact Nat.le_refl _) HG9.out⟩
                  · rw [← Nat.add_assoc]; exact HOWM.out
                  · have := HLA.out.put HPW3.out
                    rw [← HPOS.out] at this
                    exact this
                  · intro e
                    have h1 : X = B := by simpa using e
                    have h3 := HX.out
                    have h4 := HM0.out.lt
                    omega
                case measure => simp [intOf]; omega
            · have hmm : m = recs.length := by omega
              have hdm : decide ((m : Int) < (recs.length : Int)) = false := by simp; omega
              have HMM := Lib.hid hmm
              clear hxb hge hmm
              go_wp2
              go_roundw
              case rel =>
                refine ⟨q + 1, z + recs.length, D, by omega, by go_num, ?_, ?_, ?_, HGI.out⟩
                · rw [HSN.out, flatR_snoc, List.length_append, ← HZ.out]
                · have := HM.out
                  rw [HMM.out] at this
                  exact this
                · have := HAT.out
                  rw [HMM.out, List.drop_length, List.map_nil, List.nil_append] at this
                  exact this
              case measure => simp [intOf]; omega
        · have hql : q = ps.length := by omega
          have hdm : decide ((q : Int) < (ps.length : Int)) = false := by simp; omega
          clear hge
          go_wp2
          go_returns
          exact ⟨rfl, G3.out.trans HG.out⟩
end Go.Proofs.YtidblliobkjeeaaDoor
