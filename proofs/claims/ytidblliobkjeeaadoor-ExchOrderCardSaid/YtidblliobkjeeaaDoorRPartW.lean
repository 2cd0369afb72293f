/-
  The reference's Part: the walk.
-/
import Derived.Test.YtidblliobkjeeaaDoorRPart
namespace Go.Proofs.YtidblliobkjeeaaDoor
open Go.RowKit

def pairsL (kind worker workers : Int) (rs : List Rc) (m : Nat) : List (Int × List Rc) := (partIs kind worker workers rs m).map fun (i : Nat) => ((i : Int), rowL kind worker workers rs i)
theorem pairsL_snoc (kind worker workers : Int) (rs : List Rc) (m : Nat) :
    pairsL kind worker workers rs (m + 1) = pairsL kind worker workers rs m ++ if 0 < (rowL kind worker workers rs m).length then [((m : Int), rowL kind worker workers rs m)] else [] := by
  unfold pairsL
  rw [partIs_snoc, List.map_append]
  split <;> simp

set_option maxRecDepth 100000 in
set_option maxHeartbeats 8000000 in
theorem rpart_go {w : World} (kind : Int) (wk n : Nat) {v : Value} {rs : List Rc} (hv : RecsAt w v rs) (hl : rs.length ≤ 1000000) (hm : mayB (wk : Int) (n : Int) = true) (hi : ¬ insV kind < 0) :
    Calls Tryd.prog 19 #[.int .i64 kind, .int .i64 (wk : Int), .int .i64 (n : Int), v] w (PartEnd kind wk n rs w) := by
  obtain ⟨hn1, hn2, hw1, hw2⟩ := (mayB_iff _ _).1 hm
  have d1 : decide ((n : Int) < 1) = false := by simpa using hn1
  have d2 : decide (16 < (n : Int)) = false := by simpa using hn2
  have d3 : decide ((wk : Int) < 0) = false := by simp
  have d4 : decide ((n : Int) ≤ (wk : Int)) = false := by simpa using hw2
  obtain ⟨A, cap, rfl, hle, hc⟩ := hv
  have HC := Lib.hid hc
  clear hc hm
  have hI := Lib.hid (rins_any kind)
  have hil : decide (insV kind < 0) = false := by simpa using hi
  clear hi
  generalize hz : insV kind = z at *
  clear hz
  obtain ⟨i0, hi0, hz0, hz1, hz2⟩ := info_parts info32
  obtain ⟨i1, hi1, hz10, hz11, hz12⟩ := info_parts info39
  go_enter Tryd.func19, Tryd.ntmps19
  go_wp2_with fail
  refine (hI.out _).mono ?_
  rintro e w1 ⟨rfl, hw⟩
  obtain rfl : w = w1 := hw.symm
  clear hI hw
  go_wp2
  clear d1 d2 d3 d4 hil
  go_loopw [10] (fun i wr => ∃ k : Nat, k ≤ rs.length ∧ i = .int .i64 (k : Int) ∧ Ge w wr ∧ (rs.take k).all (fun r => okB r.2) = true) (fun i _ => rs.length - (intOf i).toNat)
  case atStart => exact ⟨0, by omega, rfl, Ge.refl _, by simp⟩
  case round =>
    obtain ⟨k, hk, rfl, hge, hok⟩ := hrel
    have HG := Lib.hid hge
    have HOK := Lib.hid hok
    clear hok
    by_cases hlt : k < rs.length
    · obtain ⟨b, off, rfl, hb, hcell⟩ := HC.out (by intro e; rw [e] at hlt; simp at hlt)
      obtain ⟨⟨key, s⟩, hr⟩ : ∃ r : Rc, rs[k]? = some r := ⟨_, List.getElem?_eq_getElem hlt⟩
      have c0 := (hge.cell (p := ⟨b, off + k * 2, none⟩) hb).trans (hcell k _ hr).1
      have c1 := (hge.cell (p := ⟨b, off + k * 2 + 1, none⟩) hb).trans (hcell k _ hr).2
      dsimp only at c0 c1
      have HRR := Lib.hid hr
      have j1 : (0 : Int) ≤ (k : Int) := by omega
      have j2 : (k : Int) < (rs.length : Int) := by omega
      have HCH := Lib.hid (rcheck_any key s)
      unfold chkV at HCH
      clear hr hcell hge
      cases hob : okB s with
      | false =>
        rw [hob] at HCH
        simp only [Bool.false_eq_true, if_false] at HCH
        have HB := Lib.hid hob
        clear hob
        go_wp2_with fail
        refine (HCH.out _).mono ?_
        rintro e w3 ⟨rfl, hg3⟩
        have G3 := Lib.hid (Ge.trans HG.out hg3)
        clear hg3
        go_wp2
        go_returns
        exact ⟨.inr ⟨not_all HRR.out HB.out, rfl⟩, G3.out⟩
      | true =>
        rw [hob] at HCH
        simp only [if_true] at HCH
        have HB := Lib.hid hob
        clear hob
        go_wp2_with fail
        refine (HCH.out _).mono ?_
        rintro e w3 ⟨rfl, hg3⟩
        have G3 := Lib.hid (Ge.trans HG.out hg3)
        clear hg3 c0 c1
        go_wp2
        go_roundw
        case rel => exact ⟨k + 1, by omega, by go_num, G3.out, all_snoc HRR.out HOK.out HB.out⟩
        case measure => simp [intOf]; omega
    · have hkl : k = rs.length := by omega
      subst hkl
      rw [List.take_length] at HOK
      clear hge
      obtain ⟨w2, hw2'⟩ : ∃ x, x = wr := ⟨_, rfl⟩
      subst hw2'
      go_wp2
      go_loopw [11, 12] (fun out i wr => ∃ (m : Nat) (qs : List (Int × Value)) (A2 : Option Addr) (c2 : Nat), m ≤ n ∧ i = .int .i64 (m : Int) ∧ out = .slice A2 qs.length c2 ∧
        wr.ownsRow w.heap.size 39 2 (.slice A2 qs.length c2) qs.length (qC qs) ∧ PutP wr qs (pairsL kind (wk : Int) (n : Int) rs m) ∧ Ge w wr) (fun _ i _ => n - (intOf i).toNat)
      case atStart => exact ⟨0, [], none, 0, by omega, rfl, rfl, World.ownsRow_nil _ _ _ _, ⟨by simp [pairsL, partIs], fun j q p h => by simp at h⟩, HG.out⟩
      case round =>
        obtain ⟨m, qs, A2, c2, hm, rfl, rfl, hown, hput, hge⟩ := hrel
        have HOW := Lib.hid hown
        have HPU := Lib.hid hput
        have HGE := Lib.hid hge
        have hql : qs.length ≤ 16 := by
          have h1 := hput.1
          unfold pairsL at h1
          rw [List.length_map] at h1
          have h2 := partIs_len kind (wk : Int) (n : Int) rs m
          omega
        clear hown hput hge HG
        by_cases hlm : m < n
        · have j1 : (0 : Int) ≤ (m : Int) := by omega
          have j2 : (m : Int) < (n : Int) := by omega
          obtain ⟨W0, hW0⟩ : ∃ x, x = wr := ⟨_, rfl⟩
          subst hW0
          go_wp2
          go_loopw [13, 14] (fun own i wr => ∃ (k : Nat) (A3 : Option Addr) (c3 : Nat), k ≤ rs.length ∧ i = .int .i64 (k : Int) ∧ own = .slice A3 (rowL kind (wk : Int) (n : Int) (rs.take k) m).length c3 ∧
            OwnR wr W0.heap.size (.slice A3 (rowL kind (wk : Int) (n : Int) (rs.take k) m).length c3) (rowL kind (wk : Int) (n : Int) (rs.take k) m) ∧ Ge W0 wr) (fun _ i _ => rs.length - (intOf i).toNat)
          case atStart => exact ⟨0, none, 0, by omega, rfl, rfl, World.ownsRow_nil _ _ _ _, Ge.refl _⟩
          case round =>
            obtain ⟨k, A3, c3, hk, rfl, rfl, hown3, hge3⟩ := hrel
            have HO3 := Lib.hid hown3
            have HG3 := Lib.hid hge3
            clear hown3
            by_cases hlt : k < rs.length
            · obtain ⟨b, off, rfl, hb, hcell⟩ := HC.out (by intro e; rw [e] at hlt; simp at hlt)
              obtain ⟨⟨key, s⟩, hr⟩ : ∃ r : Rc, rs[k]? = some r := ⟨_, List.getElem?_eq_getElem hlt⟩
              have c0 := ((HGE.out.trans hge3).cell (p := ⟨b, off + k * 2, none⟩) hb).trans (hcell k _ hr).1
              have c1 := ((HGE.out.trans hge3).cell (p := ⟨b, off + k * 2 + 1, none⟩) hb).trans (hcell k _ hr).2
              dsimp only at c0 c1
              have hnx := rowL_next (kind := kind) (worker := (wk : Int)) (workers := (n : Int)) (m := m) hr
              have k1 : (0 : Int) ≤ (k : Int) := by omega
              have k2 : (k : Int) < (rs.length : Int) := by omega
              have HK := Lib.hid (rkeyed_any kind)
              have HRO := Lib.hid (rof_any key (n : Int))
              have hrl : (rowL kind (wk : Int) (n : Int) (rs.take k) m).length ≤ 1000000 := by
                have h1 : (rowL kind (wk : Int) (n : Int) (rs.take k) m).length ≤ (rs.take k).length := List.length_filter_le _ _
                have h2 : (rs.take k).length ≤ k := List.length_take_le _ _
                omega
              clear hr hcell hge3
              cases hkb : keyB kind with
              | false =>
                have htv : toV kind (wk : Int) (n : Int) (key, s) = (wk : Int) := by unfold toV; rw [if_neg (by rw [hkb]; decide)]
                rw [htv] at hnx
                clear htv HRO
                rw [hkb] at HK
                clear hkb
                cases he : ((wk : Int) == (m : Int)) with
                | true =>
                  rw [he, if_pos rfl] at hnx
                  have HNX := Lib.hid hnx
                  clear hnx
                  have C1 := Lib.hid (show W0.heap.size ≤ (wr.alloc (.cells #[.int .i64 key, .string s] 32)).heap.size by have := HG3.out.size; simp; omega)
                  have HROW := Lib.hid (World.ownsRow.alloc HO3.out (.cells #[.int .i64 key, .string s] 32))
                  go_wp2_with fail
                  refine (HK.out _).mono ?_
                  rintro e w5 ⟨rfl, hw⟩
                  obtain rfl : wr = w5 := hw.symm
                  clear hw HK
                  go_wp2_with (at_builtin; refine wpList_append_lies _ rfl (.tmp 72) (.tmp 77) 28 rfl W0.heap.size 32 i0 _ 2 24 Tryd.underlying28 hi0 hz0 hz1 hz2 rfl (by decide) _ _ _ rfl HROW.out ⟨wr.heap.size, 0, none⟩ 1 1 [.int .i64 key, .string s] rfl rfl (World.news_of_block (cs := #[.int .i64 key, .string s]) (t := 32) (fr := (0, 0)) (heap_alloc_new wr _)) (by simp [Value.oneCell']) (by omega) (by simp only [maxLen]; omega) (by omega) C1.out _ rfl ?_; intro gg cap4 w6 hown6 hgrow6 hat6 hlt6; have HOW6 := Lib.hid hown6; have G6 := Lib.hid (ge_own (Ge.alloc HG3.out (.cells #[.int .i64 key, .string s] 32)) HROW.out (Nat.le_refl _) hgrow6); clear hown6 hgrow6 hat6 hlt6)
                  go_roundw
                  case rel =>
                    have hlen : (rowL kind (wk : Int) (n : Int) (rs.take (k + 1)) m).length = (rowL kind (wk : Int) (n : Int) (rs.take k) m).length + 1 := by rw [HNX.out]; simp
                    refine ⟨k + 1, some ⟨gg, 0, none⟩, cap4, by omega, by go_num, by rw [hlen], ?_, G6.out⟩
                    rw [hlen, HNX.out]
                    unfold OwnR
                    rw [recC_snoc, List.length_append]
                    exact HOW6.out
                  case measure => simp [intOf]; omega
                | false =>
                  rw [he, if_neg (by decide), List.append_nil] at hnx
                  have HNX := Lib.hid hnx
                  clear hnx
                  go_wp2_with fail
                  refine (HK.out _).mono ?_
                  rintro e w5 ⟨rfl, hw⟩
                  obtain rfl : wr = w5 := hw.symm
                  clear hw HK
                  go_wp2
                  go_roundw
                  case rel => exact ⟨k + 1, A3, c3, by omega, by go_num, by rw [HNX.out], by rw [HNX.out]; exact HO3.out, HG3.out⟩
                  case measure => simp [intOf]; omega
              | true =>
                have htv : toV kind (wk : Int) (n : Int) (key, s) = ofV key (n : Int) := by unfold toV; rw [if_pos hkb]
                rw [htv] at hnx
                clear htv
                generalize ofV key (n : Int) = zz at *
                rw [hkb] at HK
                clear hkb
                cases he : (zz == (m : Int)) with
                | true =>
                  rw [he, if_pos rfl] at hnx
                  have HNX := Lib.hid hnx
                  clear hnx
                  have C1 := Lib.hid (show W0.heap.size ≤ (wr.alloc (.cells #[.int .i64 key, .string s] 32)).heap.size by have := HG3.out.size; simp; omega)
                  have HROW := Lib.hid (World.ownsRow.alloc HO3.out (.cells #[.int .i64 key, .string s] 32))
                  go_wp2_with fail
                  refine (HK.out _).mono ?_
                  rintro e w5 ⟨rfl, hw⟩
                  obtain rfl : wr = w5 := hw.symm
                  clear hw HK
                  go_wp2_with fail
                  refine (HRO.out _).mono ?_
                  rintro e w5 ⟨rfl, hw⟩
                  obtain rfl : wr = w5 := hw.symm
                  clear hw HRO
                  go_wp2_with (at_builtin; refine wpList_append_lies _ rfl (.tmp 72) (.tmp 77) 28 rfl W0.heap.size 32 i0 _ 2 24 Tryd.underlying28 hi0 hz0 hz1 hz2 rfl (by decide) _ _ _ rfl HROW.out ⟨wr.heap.size, 0, none⟩ 1 1 [.int .i64 key, .string s] rfl rfl (World.news_of_block (cs := #[.int .i64 key, .string s]) (t := 32) (fr := (0, 0)) (heap_alloc_new wr _)) (by simp [Value.oneCell']) (by omega) (by simp only [maxLen]; omega) (by omega) C1.out _ rfl ?_; intro gg cap4 w6 hown6 hgrow6 hat6 hlt6; have HOW6 := Lib.hid hown6; have G6 := Lib.hid (ge_own (Ge.alloc HG3.out (.cells #[.int .i64 key, .string s] 32)) HROW.out (Nat.le_refl _) hgrow6); clear hown6 hgrow6 hat6 hlt6)
                  go_roundw
                  case rel =>
                    have hlen : (rowL kind (wk : Int) (n : Int) (rs.take (k + 1)) m).length = (rowL kind (wk : Int) (n : Int) (rs.take k) m).length + 1 := by rw [HNX.out]; simp
                    refine ⟨k + 1, some ⟨gg, 0, none⟩, cap4, by omega, by go_num, by rw [hlen], ?_, G6.out⟩
                    rw [hlen, HNX.out]
                    unfold OwnR
                    rw [recC_snoc, List.length_append]
                    exact HOW6.out
                  case measure => simp [intOf]; omega
                | false =>
                  rw [he, if_neg (by decide), List.append_nil] at hnx
                  have HNX := Lib.hid hnx
                  clear hnx
                  go_wp2_with fail
                  refine (HK.out _).mono ?_
                  rintro e w5 ⟨rfl, hw⟩
                  obtain rfl : wr = w5 := hw.symm
                  clear hw HK
                  go_wp2_with fail
                  refine (HRO.out _).mono ?_
                  rintro e w5 ⟨rfl, hw⟩
                  obtain rfl : wr = w5 := hw.symm
                  clear hw HRO
                  go_wp2
                  go_roundw
                  case rel => exact ⟨k + 1, A3, c3, by omega, by go_num, by rw [HNX.out], by rw [HNX.out]; exact HO3.out, HG3.out⟩
                  case measure => simp [intOf]; omega
            · have hkl : k = rs.length := by omega
              subst hkl
              rw [List.take_length] at HO3
              have hta : rs.take rs.length = rs := List.take_length
              rw [hta]
              have hsn := pairsL_snoc kind (wk : Int) (n : Int) rs m
              have HOW3 := Lib.hid (ownsRow_ge HOW.out hge3)
              have HPU3 := Lib.hid (HPU.out.ge hge3)
              have HG4 := Lib.hid (Ge.trans HGE.out hge3)
              have HO1 := Lib.hid (show Own1 wr (.slice A3 (rowL kind (wk : Int) (n : Int) rs m).length c3) (rowL kind (wk : Int) (n : Int) rs m) from ⟨_, HO3.out⟩)
              clear hta hge3 HO3 HG3 HOW HPU HGE
              by_cases hpos : 0 < (rowL kind (wk : Int) (n : Int) rs m).length
              · rw [if_pos hpos] at hsn
                have HSN := Lib.hid hsn
                clear hsn
                have C1 := Lib.hid (show w.heap.size ≤ (wr.alloc (.cells #[.int .i64 (m : Int), .slice A3 (rowL kind (wk : Int) (n : Int) rs m).length c3] 39)).heap.size by have := HG4.out.size; simp; omega)
                have HROW := Lib.hid (HOW3.out.alloc (.cells #[.int .i64 (m : Int), .slice A3 (rowL kind (wk : Int) (n : Int) rs m).length c3] 39))
                generalize hlm2 : (rowL kind (wk : Int) (n : Int) rs m).length = lm at *
                clear hlm2
                go_wp2_with (at_builtin; refine wpList_append_lies _ rfl (.tmp 82) (.tmp 86) 33 rfl w.heap.size 39 i1 _ 2 32 Tryd.underlying33 hi1 hz10 hz11 hz12 rfl (by decide) _ _ _ rfl HROW.out ⟨wr.heap.size, 0, none⟩ 1 1 [.int .i64 (m : Int), .slice A3 lm c3] rfl rfl (World.news_of_block (cs := #[.int .i64 (m : Int), .slice A3 lm c3]) (t := 39) (fr := (0, 0)) (heap_alloc_new wr _)) (by simp [Value.oneCell']) (by omega) (by simp only [maxLen]; omega) (by omega) C1.out _ rfl ?_; intro gg cap4 w6 hown6 hgrow6 hat6 hlt6; have HOW6 := Lib.hid hown6; have HG6 := Lib.hid hgrow6; clear hown6 hgrow6 hat6 hlt6)
                go_roundw
                case rel =>
                  have hal := (Ge.refl wr).alloc (.cells #[.int .i64 (m : Int), .slice A3 lm c3] 39)
                  refine ⟨m + 1, qs ++ [((m : Int), .slice A3 lm c3)], some ⟨gg, 0, none⟩, cap4, by omega, by go_num, by simp, ?_, ?_, ge_own (HG4.out.alloc _) HROW.out (Nat.le_refl _) HG6.out⟩
                  · rw [qC_snoc]; simpa using HOW6.out
                  · rw [HSN.out]
                    exact ((HPU3.out.ge hal).snoc (i := (m : Int)) (HO1.out.ge hal)).grown HROW.out HG6.out (by decide)
                case measure => simp [intOf]; omega
              · rw [if_neg hpos, List.append_nil] at hsn
                have HSN := Lib.hid hsn
                have hd : decide (0 < (rowL kind (wk : Int) (n : Int) rs m).length) = false := decide_eq_false hpos
                clear hsn hpos
                go_wp2
                go_roundw
                case rel => exact ⟨m + 1, qs, A2, c2, by omega, by go_num, rfl, HOW3.out, by rw [HSN.out]; exact HPU3.out, HG4.out⟩
                case measure => simp [intOf]; omega
        · have hmn : m = n := by omega
          subst hmn
          go_wp2
          go_returns
          refine ⟨.inl ⟨HOK.out, _, rfl, ?_⟩, HGE.out⟩
          unfold partL
          rw [Int.toNat_natCast]
          exact parcels_of HOW.out HPU.out
end Go.Proofs.YtidblliobkjeeaaDoor
