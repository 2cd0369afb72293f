/-
  Part: the walk.
-/
import Derived.Test.YtidblliobkjeeaaDoorPartA
namespace Go.Proofs.YtidblliobkjeeaaDoor
open Go.RowKit

set_option maxRecDepth 100000 in
set_option maxHeartbeats 8000000 in
theorem part_go {w : World} (hT : Tabs w) (kind : Int) (wk n : Nat) {v : Value} {rs : List Rc} (hv : RecsAt w v rs) (hl : rs.length ≤ 1000000) (hm : mayB (wk : Int) (n : Int) = true) (hi : ¬ insV kind < 0) :
    Calls Tryd.prog 18 #[.int .i64 kind, .int .i64 (wk : Int), .int .i64 (n : Int), v] w (PartEnd kind wk n rs w) := by
  have HT := Lib.hid hT
  obtain ⟨hn1, hn2, hw1, hw2⟩ := (mayB_iff _ _).1 hm
  obtain ⟨A, cap, rfl, hle, hc⟩ := hv
  have HC := Lib.hid hc
  clear hT hc
  have hmk := run_make_row' (P := Tryd.prog) 60 28 (.slice none 0 0) 24 Tryd.underlying60 info28 rfl .i64 .i64 n (by omega) (by omega)
  have hM := Lib.hid (may_any (wk : Int) (n : Int))
  have hI := Lib.hid (ins_any kind)
  rw [hm] at hM
  have hil : decide (insV kind < 0) = false := by simpa using hi
  clear hm hi
  generalize hz : insV kind = z at *
  clear hz
  go_enter Tryd.func18, Tryd.ntmps18
  go_wp2_with fail
  refine (hM.out _).mono ?_
  rintro e w1 ⟨rfl, hw⟩
  obtain rfl : w = w1 := hw.symm
  go_wp2_with fail
  refine (hI.out _).mono ?_
  rintro e w1 ⟨rfl, hw⟩
  obtain rfl : w = w1 := hw.symm
  clear hM hI hw
  have hR0 : Rows (w.alloc (.cells (madeCells #[Value.slice none 0 0] n) 28)) w.heap.size n (fun _ => .slice none 0 0) (fun i => rowL kind (wk : Int) (n : Int) (rs.take 0) i) :=
    ⟨by rw [show ((List.range n).map fun _ => Value.slice none 0 0).toArray = madeCells #[Value.slice none 0 0] n from madeCells_nil n]; exact Bx.new _ _ _ rfl, fun i _ => by simp [rowL]; exact World.ownsRow_nil _ _ _ _, fun i j g _ _ h => by simp [Value.ownBlock] at h⟩
  have HR0 := Lib.hid hR0
  clear hR0
  go_wp2
  clear hmk
  go_loopw [31] (fun i wr => ∃ (k : Nat) (V : Nat → Value), k ≤ rs.length ∧ i = .int .i64 (k : Int) ∧ Rows wr w.heap.size n V (fun i => rowL kind (wk : Int) (n : Int) (rs.take k) i) ∧ Ge w wr ∧ (rs.take k).all (fun r => okB r.2) = true) (fun i _ => rs.length - (intOf i).toNat)
  case atStart => exact ⟨0, _, by omega, rfl, HR0.out, (Ge.refl w).alloc _, by simp⟩
  case round =>
    obtain ⟨k, V, hk, rfl, hrows, hge, hok⟩ := hrel
    have HRW := Lib.hid hrows
    have HG := Lib.hid hge
    have HOK := Lib.hid hok
    clear hok HR0
    by_cases hlt : k < rs.length
    · obtain ⟨b, off, rfl, hb, hcell⟩ := HC.out (by intro e; rw [e] at hlt; simp at hlt)
      obtain ⟨⟨key, s⟩, hr⟩ : ∃ r : Rc, rs[k]? = some r := ⟨_, List.getElem?_eq_getElem hlt⟩
      have c0 := (hge.cell (p := ⟨b, off + k * 2, none⟩) hb).trans (hcell k _ hr).1
      have c1 := (hge.cell (p := ⟨b, off + k * 2 + 1, none⟩) hb).trans (hcell k _ hr).2
      dsimp only at c0 c1
      have hsn : rs.take (k + 1) = rs.take k ++ [(key, s)] := by
        rw [List.take_succ_eq_append_getElem hlt]
        rw [List.getElem?_eq_getElem hlt] at hr
        rw [Option.some.inj hr]
      have HSN := Lib.hid hsn
      have HRR := Lib.hid hr
      clear hsn hr hcell hrows
      have i1 : (0 : Int) ≤ (k : Int) := by omega
      have i2 : (k : Int) < (rs.length : Int) := by omega
      have HCH := Lib.hid (fun (w' : World) (hg : Ge wr w') => check_any (HT.out.ge (hge.trans hg)) key s)
      have XT : Bx (wr.alloc (.cells #[.int .i64 key, .string s] 32)) wr.heap.size 32 #[.int .i64 key, .string s] := Bx.new _ _ _ rfl
      have HX := Lib.hid XT
      clear hge XT
      cases hob : okB s with
      | false =>
        unfold chkV at HCH
        rw [hob] at HCH
        simp only [Bool.false_eq_true, if_false] at HCH
        have HB := Lib.hid hob
        clear hob
        go_wp2_with fail
        refine (HCH.out _ (by go_grown)).mono ?_
        rintro e w3 ⟨rfl, hg3⟩
        have G3 := Lib.hid (Ge.trans (HG.out.alloc (.cells #[.int .i64 key, .string s] 32)) hg3)
        clear hg3
        go_wp2
        go_returns
        exact ⟨.inr ⟨not_all HRR.out HB.out, rfl⟩, G3.out⟩
      | true =>
        unfold chkV at HCH
        rw [hob] at HCH
        simp only [if_true] at HCH
        have HB := Lib.hid hob
        clear hob
        go_wp2_with fail
        refine (HCH.out _ (by go_grown)).mono ?_
        rintro e w3 ⟨rfl, hg3⟩
        have G3 := Lib.hid (show Ge wr w3 from ((Ge.refl wr).alloc _).trans hg3)
        have X3 := HX.out.ge hg3
        clear HX hg3 HCH c0 c1
        have HK := Lib.hid (keyed_any kind)
        cases hkb : keyB kind with
        | false =>
          as_aux_lemma =>
            rw [hkb] at HK
            go_wp2_with fail
            refine (HK.out _).mono ?_
            rintro e w4 ⟨rfl, hw⟩
            obtain rfl : w3 = w4 := hw.symm
            clear hw HK
            go_wp2
            have htn : wk < n := by omega
            have htv := Lib.hid (show toV kind (wk : Int) (n : Int) (key, s) = (wk : Int) by unfold toV; rw [if_neg (by rw [hkb]; decide)])
            clear hkb
            as_aux_lemma =>
              have RW3 := HRW.out.ge G3.out
              have hown := RW3.own wk htn
              have cR := RW3.cell htn
              have fR := RW3.blk.frozen wk
              have lR := RW3.blk.lt
              obtain ⟨A2, cap2, hVt⟩ := hown.form
              have hnR : (V wk).ownBlock ≠ some w.heap.size := fun e => by have := (World.ownsRow.lt hown _ e).1; omega
              have HVt := Lib.hid hVt
              rw [hVt] at cR hown hnR
              have HOWN := Lib.hid hown
              have HNR := Lib.hid hnR
              have HRW3 := Lib.hid RW3
              have c0T := X3.cell 0
              have c1T := X3.cell 1
              have lT := X3.lt
              simp only [List.getElem?_toArray, List.getElem?_cons_zero, List.getElem?_cons_succ] at c0T c1T
              have hll : (rowL kind (wk : Int) (n : Int) (rs.take k) wk).length ≤ 1000000 := by
                have h1 : (rowL kind (wk : Int) (n : Int) (rs.take k) wk).length ≤ (rs.take k).length := List.length_filter_le _ _
                have h2 : (rs.take k).length ≤ k := List.length_take_le _ _
                omega
              have hlts : (wk : Int) < (n : Int) := by omega
              have h0ts : (0 : Int) ≤ (wk : Int) := by omega
              clear hVt hown hnR RW3
              obtain ⟨i0, hi0, hz0, hz1, hz2⟩ := info_parts info32
              go_region_law ((refine step_append_lies _ (by rfl) _ _ _ (by rfl) (w.heap.size + 1) 32 i0 _ 2 24 Tryd.underlying28 hi0 hz0 hz1 hz2 rfl (by omega) (.slice A2 (rowL kind (wk : Int) (n : Int) (rs.take k) wk).length cap2) _ _ (by simp [Act.eval]) ((World.ownsRow.alloc HOWN.out _).drew) ⟨w3.heap.size, 0, none⟩ 1 1 [.int .i64 key, .string s] (by simp [Act.eval]) (by rfl) (World.news_of_block (cs := #[.int .i64 key, .string s]) (t := 32) (fr := (0, 0)) (heap_alloc_new w3 _)) (by simp [Value.oneCell']) (by omega) (by simp only [maxLen]; omega) (by omega) (by simp; omega) (w3.heap.size + 1) (by simp) ?_; intro gg cap3 w5 hown5 hgrow5 hat5 hlt5; have kc := hgrow5.cell (a := ⟨w.heap.size, wk, none⟩) (v := .slice A2 (rowL kind (wk : Int) (n : Int) (rs.take k) wk).length cap2) (by go_simp) (fun e => HNR.out e.symm); have kf : w5.frozen? ⟨w.heap.size, wk, none⟩ = false := (World.frozen?_of_block (hgrow5.block w.heap.size (by simp; omega) (fun e => HNR.out e.symm))).trans (by go_simp)))
              all_goals as_aux_lemma =>
                have HEND := Lib.hid (part_round (r := (key, s)) (Ge.trans HG.out G3.out) HRW3.out htn htv.out HSN.out HVt.out hown5 hgrow5 hat5)
                clear hown5 hgrow5 hat5 hlt5 kc kf c0T c1T lT cR fR lR X3 hi0 hz0 hz1 hz2
                go_wp2
                go_roundw
                case rel =>
                  refine ⟨k + 1, _, by omega, by go_num, HEND.out.1, HEND.out.2, ?_⟩
                  rw [HSN.out, List.all_append, HOK.out]
                  simp [HB.out]
                case measure => simp [intOf]; omega
        | true =>
          as_aux_lemma =>
            rw [hkb] at HK
            have hO := of_any key (n : Int)
            have hof := ofV_range (n := key) hn1 hn2
            obtain ⟨tt, htt⟩ : ∃ tt : Nat, ofV key (n : Int) = (tt : Int) := ⟨(ofV key (n : Int)).toNat, by omega⟩
            have htv := Lib.hid (show toV kind (wk : Int) (n : Int) (key, s) = (tt : Int) by unfold toV; rw [if_pos hkb]; exact htt)
            rw [htt] at hO hof
            have htn : tt < n := by omega
            have HO := Lib.hid hO
            have c0T := X3.cell 0
            have c1T := X3.cell 1
            have lT := X3.lt
            simp only [List.getElem?_toArray, List.getElem?_cons_zero, List.getElem?_cons_succ] at c0T c1T
            clear hkb hO htt hof
            go_wp2_with fail
            refine (HK.out _).mono ?_
            rintro e w4 ⟨rfl, hw⟩
            obtain rfl : w3 = w4 := hw.symm
            clear hw HK
            go_wp2_with fail
            refine (HO.out _).mono ?_
            rintro e w4 ⟨rfl, hg4⟩
            replace G3 := Lib.hid (Ge.trans G3.out hg4)
            replace X3 := X3.ge hg4
            clear hg4 HO c0T c1T lT
            go_wp2
            as_aux_lemma =>
              have RW3 := HRW.out.ge G3.out
              have hown := RW3.own tt htn
              have cR := RW3.cell htn
              have fR := RW3.blk.frozen tt
              have lR := RW3.blk.lt
              obtain ⟨A2, cap2, hVt⟩ := hown.form
              have hnR : (V tt).ownBlock ≠ some w.heap.size := fun e => by have := (World.ownsRow.lt hown _ e).1; omega
              have HVt := Lib.hid hVt
              rw [hVt] at cR hown hnR
              have HOWN := Lib.hid hown
              have HNR := Lib.hid hnR
              have HRW3 := Lib.hid RW3
              have c0T := X3.cell 0
              have c1T := X3.cell 1
              have lT := X3.lt
              simp only [List.getElem?_toArray, List.getElem?_cons_zero, List.getElem?_cons_succ] at c0T c1T
              have hll : (rowL kind (wk : Int) (n : Int) (rs.take k) tt).length ≤ 1000000 := by
                have h1 : (rowL kind (wk : Int) (n : Int) (rs.take k) tt).length ≤ (rs.take k).length := List.length_filter_le _ _
                have h2 : (rs.take k).length ≤ k := List.length_take_le _ _
                omega
              have hlts : (tt : Int) < (n : Int) := by omega
              have h0ts : (0 : Int) ≤ (tt : Int) := by omega
              clear hVt hown hnR RW3
              obtain ⟨i0, hi0, hz0, hz1, hz2⟩ := info_parts info32
              go_region_law ((refine step_append_lies _ (by rfl) _ _ _ (by rfl) (w.heap.size + 1) 32 i0 _ 2 24 Tryd.underlying28 hi0 hz0 hz1 hz2 rfl (by omega) (.slice A2 (rowL kind (wk : Int) (n : Int) (rs.take k) tt).length cap2) _ _ (by simp [Act.eval]) ((World.ownsRow.alloc HOWN.out _).drew) ⟨w4.heap.size, 0, none⟩ 1 1 [.int .i64 key, .string s] (by simp [Act.eval]) (by rfl) (World.news_of_block (cs := #[.int .i64 key, .string s]) (t := 32) (fr := (0, 0)) (heap_alloc_new w4 _)) (by simp [Value.oneCell']) (by omega) (by simp only [maxLen]; omega) (by omega) (by simp; omega) (w4.heap.size + 1) (by simp) ?_; intro gg cap3 w5 hown5 hgrow5 hat5 hlt5; have kc := hgrow5.cell (a := ⟨w.heap.size, tt, none⟩) (v := .slice A2 (rowL kind (wk : Int) (n : Int) (rs.take k) tt).length cap2) (by go_simp) (fun e => HNR.out e.symm); have kf : w5.frozen? ⟨w.heap.size, tt, none⟩ = false := (World.frozen?_of_block (hgrow5.block w.heap.size (by simp; omega) (fun e => HNR.out e.symm))).trans (by go_simp)))
              all_goals as_aux_lemma =>
                have HEND := Lib.hid (part_round (r := (key, s)) (Ge.trans HG.out G3.out) HRW3.out htn htv.out HSN.out HVt.out hown5 hgrow5 hat5)
                clear hown5 hgrow5 hat5 hlt5 kc kf c0T c1T lT cR fR lR X3 hi0 hz0 hz1 hz2
                go_wp2
                go_roundw
                case rel =>
                  refine ⟨k + 1, _, by omega, by go_num, HEND.out.1, HEND.out.2, ?_⟩
                  rw [HSN.out, List.all_append, HOK.out]
                  simp [HB.out]
                case measure => simp [intOf]; omega
    · as_aux_lemma =>
        have hkl : k = rs.length := by omega
        subst hkl
        have hta : rs.take rs.length = rs := List.take_length
        rw [hta] at hrows HOK
        replace HRW := Lib.hid hrows
        have HTA := Lib.hid hta
        clear hta hge hrows HC
        obtain ⟨i0, hi0, hz0, hz1, hz2⟩ := info_parts info39
        obtain ⟨w2, hw2⟩ : ∃ x, x = wr := ⟨_, rfl⟩
        subst hw2
        go_wp2
        go_loopw [15, 60] (fun out i wr => ∃ (m : Nat) (A2 : Option Addr) (cap2 : Nat), m ≤ n ∧ i = .int .i64 (m : Int) ∧ out = .slice A2 (partIs kind (wk : Int) (n : Int) rs m).length cap2 ∧
          wr.ownsRow w2.heap.size 39 2 (.slice A2 (partIs kind (wk : Int) (n : Int) rs m).length cap2) (partIs kind (wk : Int) (n : Int) rs m).length (pairC (partIs kind (wk : Int) (n : Int) rs m) V) ∧ Ge w2 wr) (fun _ i _ => n - (intOf i).toNat)
        case atStart => exact ⟨0, none, 0, by omega, rfl, rfl, World.ownsRow_nil _ _ _ _, Ge.refl _⟩
        case round =>
          obtain ⟨m, A2, cap2, hm, rfl, rfl, hown, hgl⟩ := hrel
          have HOW := Lib.hid hown
          have HGL := Lib.hid hgl
          have hpl := partIs_len kind (wk : Int) (n : Int) rs m
          by_cases hlt : m < n
          · have RWl := HRW.out.ge hgl
            have cR := RWl.cell hlt
            have lR := RWl.blk.lt
            obtain ⟨A3, cap3, hVm⟩ := (RWl.own m hlt).form
            have HVm := Lib.hid hVm
            rw [hVm] at cR
            have hsn := partIs_snoc kind (wk : Int) (n : Int) rs m
            have j1 : (0 : Int) ≤ (m : Int) := by omega
            have j2 : (m : Int) < (n : Int) := by omega
            clear hown hgl RWl hVm
            by_cases hpos : 0 < (rowL kind (wk : Int) (n : Int) rs m).length
            · have hd := hpos
              rw [if_pos hpos] at hsn
              have HSN := Lib.hid hsn
              have HPOS := Lib.hid hpos
              clear hsn hpos
              obtain ⟨lm, hlm⟩ : ∃ lm, lm = (rowL kind (wk : Int) (n : Int) rs m).length := ⟨_, rfl⟩
              rw [← hlm] at cR hd HVm
              clear hlm
              have C1 := Lib.hid (show w2.heap.size ≤ ((wr.alloc (.cells #[.int .i64 (m : Int), .slice A3 lm cap3] 39))).heap.size by have := HGL.out.size; simp; omega)
              have HROW := Lib.hid (HOW.out.alloc (.cells #[.int .i64 (m : Int), .slice A3 lm cap3] 39))
              go_wp2_with (at_builtin; refine wpList_append_lies _ rfl (.tmp 68) (.tmp 72) 33 rfl w2.heap.size 39 i0 _ 2 32 Tryd.underlying33 hi0 hz0 hz1 hz2 rfl (by decide) _ _ _ rfl HROW.out ⟨wr.heap.size, 0, none⟩ 1 1 [.int .i64 (m : Int), .slice A3 lm cap3] rfl rfl (World.news_of_block (cs := #[.int .i64 (m : Int), .slice A3 lm cap3]) (t := 39) (fr := (0, 0)) (heap_alloc_new wr _)) (by simp [Value.oneCell']) (by omega) (by simp only [maxLen]; omega) (by omega) C1.out _ rfl ?_; intro gg cap4 w5 hown5 hgrow5 hat5 hlt5; have HOW5 := Lib.hid hown5; have HG5 := Lib.hid hgrow5; clear hown5 hgrow5 hat5 hlt5)
              go_roundw
              case rel =>
                have hlen : (partIs kind (wk : Int) (n : Int) rs (m + 1)).length = (partIs kind (wk : Int) (n : Int) rs m).length + 1 := by rw [HSN.out]; simp
                refine ⟨m + 1, some ⟨gg, 0, none⟩, cap4, by omega, by go_num, by rw [hlen], ?_, ?_⟩
                · rw [hlen, HSN.out]
                  have e : pairC (partIs kind (wk : Int) (n : Int) rs m ++ [m]) V = pairC (partIs kind (wk : Int) (n : Int) rs m) V ++ [.int .i64 (m : Int), .slice A3 lm cap3] := by simp [pairC, HVm.out]
                  rw [e]
                  exact HOW5.out
                · exact Below.grown (HGL.out.alloc _) HG5.out (HGL.out.alloc _).size (fun j hj => (HOW.out.lt j hj).1)
              case measure => simp [intOf]; omega
            · have hd : decide (0 < (rowL kind (wk : Int) (n : Int) rs m).length) = false := by simpa using hpos
              have hd2 : decide ((0 : Int) < ((rowL kind (wk : Int) (n : Int) rs m).length : Int)) = false := by simpa using hpos
              rw [if_neg hpos, List.append_nil] at hsn
              have HSN := Lib.hid hsn
              clear hsn hpos
              go_wp2
              go_roundw
              case rel => exact ⟨m + 1, A2, cap2, by omega, by go_num, by rw [HSN.out], by rw [HSN.out]; exact HOW.out, HGL.out⟩
              case measure => simp [intOf]; omega
          · have hmn : m = n := by omega
            subst hmn
            clear hown hgl
            go_wp2
            go_returns
            refine ⟨.inl ⟨HOK.out, _, rfl, ?_⟩, Ge.trans HG.out HGL.out⟩
            unfold partL
            rw [Int.toNat_natCast]
            exact parcels_of_rows HRW.out HGL.out (fun i hi => partIs_lt hi) HOW.out
end Go.Proofs.YtidblliobkjeeaaDoor
