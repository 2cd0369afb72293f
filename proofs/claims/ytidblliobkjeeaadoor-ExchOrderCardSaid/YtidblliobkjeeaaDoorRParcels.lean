/-
  The reference's Parcels.
-/
import Derived.Test.YtidblliobkjeeaaDoorRPartW
namespace Go.Proofs.YtidblliobkjeeaaDoor
open Go.RowKit

theorem rpart_any {w : World} (kind worker workers : Int) {v : Value} {rs : List Rc} (hv : RecsAt w v rs) (hl : rs.length ≤ 1000000) :
    Calls Tryd.prog 19 #[.int .i64 kind, .int .i64 worker, .int .i64 workers, v] w (PartOut kind worker workers rs w) := by
  by_cases h : mayB worker workers = false ∨ insV kind < 0
  · have hE : partE kind worker workers rs = 1 := by
      unfold partE
      rcases h with h | h
      · rw [if_pos h]
      · rw [if_pos h]
        simp
    obtain ⟨A, cap, rfl, _⟩ := hv
    refine (rpart_arg w kind worker workers A rs.length cap h).mono ?_
    rintro e w' ⟨rfl, hg⟩
    refine ⟨_, by rw [hE], ?_, hg⟩
    unfold partP
    rw [hE, if_neg (by decide)]
    exact ParcelsAt.nil _
  · have hm : mayB worker workers = true := by
      cases hx : mayB worker workers with
      | false => exact absurd (Or.inl hx) h
      | true => rfl
    have hi : ¬ insV kind < 0 := fun hx => h (Or.inr hx)
    obtain ⟨h1, h2, h3, h4⟩ := (mayB_iff _ _).1 hm
    obtain ⟨wk, rfl⟩ : ∃ k : Nat, worker = (k : Int) := ⟨worker.toNat, by omega⟩
    obtain ⟨n, rfl⟩ : ∃ k : Nat, workers = (k : Int) := ⟨workers.toNat, by omega⟩
    have hE : partE kind (wk : Int) (n : Int) rs = if rs.all (fun r => okB r.2) = true then 0 else 50 := by
      unfold partE
      rw [hm, if_neg (by decide), if_neg hi]
    refine (rpart_go kind wk n hv hl hm hi).mono ?_
    rintro e w' ⟨⟨hok, v', rfl, hp⟩ | ⟨hok, rfl⟩, hg⟩
    · rw [if_pos hok] at hE
      refine ⟨v', by rw [hE], ?_, hg⟩
      unfold partP
      rw [hE, if_pos rfl]
      exact hp
    · rw [if_neg hok] at hE
      refine ⟨_, by rw [hE], ?_, hg⟩
      unfold partP
      rw [hE, if_neg (by decide)]
      exact ParcelsAt.nil _

set_option maxRecDepth 100000 in
set_option maxHeartbeats 8000000 in
theorem rparcels_any {w : World} (kind worker workers : Int) {v : Value} {rs : List Rc} (hv : RecsAt w v rs) (hl : rs.length ≤ 1000000) :
    Calls Tryd.prog 20 #[.int .i64 kind, .int .i64 worker, .int .i64 workers, v] w (ParcelsOut kind worker workers rs w) := by
  have HP := Lib.hid (rpart_any kind worker workers hv hl)
  obtain ⟨A, cap, rfl, -⟩ := hv
  unfold PartOut at HP
  unfold ParcelsOut
  obtain ⟨hb1, hb2⟩ := partP_bounds kind worker workers rs
  have HB2 := Lib.hid hb2
  clear hb2
  obtain ⟨i0, hi0, hz0, hz1, hz2⟩ := info_parts info39
  have hpe : partE kind worker workers rs ≠ 0 → partP kind worker workers rs = [] := fun h => by unfold partP; rw [if_neg h]
  generalize partP kind worker workers rs = ps at *
  generalize partE kind worker workers rs = er at *
  go_enter Tryd.func20, Tryd.ntmps20
  go_wp2_with fail
  refine HP.out.mono ?_
  rintro e w1 ⟨v1, rfl, hp1, hg1⟩
  obtain ⟨A1, cap1, us, rfl, hle1, hul, hc1, hr1⟩ := hp1
  have HC1 := Lib.hid hc1
  have HR1 := Lib.hid hr1
  have G1 := Lib.hid hg1
  clear hc1 hr1 hg1 HP
  by_cases her : er = 0
  rotate_left
  · have hps := hpe her
    have heb : (er != 0) = true := by simpa using her
    clear her hpe
    go_wp2
    go_returns
    refine ⟨_, rfl, ?_, G1.out⟩
    rw [hps]
    exact ParcelsAt.nil _
  subst her
  clear hpe
  go_wp2
  go_loopw [12, 13] (fun out i wr => ∃ (k : Nat) (qs : List (Int × Value)) (A2 : Option Addr) (c2 : Nat), k ≤ ps.length ∧ i = .int .i64 (k : Int) ∧ out = .slice A2 qs.length c2 ∧
    wr.ownsRow w1.heap.size 39 2 (.slice A2 qs.length c2) qs.length (qC qs) ∧ PutP wr qs (parcelL (ps.take k)) ∧ qs.length ≤ k * 1000000 ∧ Ge w1 wr) (fun _ i _ => ps.length - (intOf i).toNat)
  case atStart => exact ⟨0, [], none, 0, by omega, rfl, rfl, World.ownsRow_nil _ _ _ _, ⟨by simp [parcelL], fun j q p h => by simp at h⟩, by simp, Ge.refl _⟩
  case round =>
    obtain ⟨k, qs, A2, c2, hk, rfl, rfl, hown, hput, hql, hge⟩ := hrel
    have HOW := Lib.hid hown
    have HPU := Lib.hid hput
    have HGE := Lib.hid hge
    clear hown hput
    by_cases hlt : k < ps.length
    · obtain ⟨b, off, rfl, hb, hcell⟩ := HC1.out (by intro e; rw [e] at hlt; simp at hlt)
      obtain ⟨⟨dst, recs⟩, hpk⟩ : ∃ p : Int × List Rc, ps[k]? = some p := ⟨_, List.getElem?_eq_getElem hlt⟩
      obtain ⟨u, huk⟩ : ∃ u, us[k]? = some u := ⟨_, List.getElem?_eq_getElem (by omega)⟩
      have hur := HR1.out k _ _ hpk huk
      obtain ⟨q1, q2⟩ := hcell k _ _ hpk huk
      have c0 := (hge.cell (p := ⟨b, off + k * 2, none⟩) hb).trans q1
      have c1 := (hge.cell (p := ⟨b, off + k * 2 + 1, none⟩) hb).trans q2
      dsimp only at c0 hur
      have hrl : recs.length ≤ 1000000 := by have := HB2.out _ (List.mem_of_getElem? hpk); dsimp only at this; omega
      obtain ⟨A3, c3, rfl, hx⟩ := id hur
      have hsn : ps.take (k + 1) = ps.take k ++ [(dst, recs)] := by
        rw [List.take_succ_eq_append_getElem hlt]
        rw [List.getElem?_eq_getElem hlt] at hpk
        rw [Option.some.inj hpk]
      have HSN := Lib.hid hsn
      have HBT := Lib.hid (rbatches_any (hur.ge hge) hrl)
      have HQ1 := Lib.hid q1
      have hbl := batL_len recs
      have i1 : (0 : Int) ≤ (k : Int) := by omega
      have i2 : (k : Int) < (ps.length : Int) := by omega
      clear hcell hpk huk hur q1 q2 hsn hge hx
      go_wp2_with fail
      refine HBT.out.mono ?_
      rintro e w3 ⟨vb, rfl, hba, hg3⟩
      have G3 := Lib.hid (Ge.trans HGE.out hg3)
      have HOW3 := Lib.hid (ownsRow_ge HOW.out hg3)
      have HPU3 := Lib.hid (HPU.out.ge hg3)
      obtain ⟨bb, us2, A5, c5, rfl, hb5, hp5⟩ := id hba
      have hul5 := hp5.1
      have HBA := Lib.hid hba
      clear c0 c1 hba hg3 HOW HPU HGE HBT hb5 hp5
      go_wp2
      go_loopw [12, 15] (fun out j wr => ∃ (m : Nat) (qs : List (Int × Value)) (A2 : Option Addr) (c2 : Nat), m ≤ (batL recs).length ∧ j = .int .i64 (m : Int) ∧ out = .slice A2 qs.length c2 ∧
        wr.ownsRow w1.heap.size 39 2 (.slice A2 qs.length c2) qs.length (qC qs) ∧ PutP wr qs (parcelL (ps.take k) ++ ((batL recs).take m).map fun b => (dst, b)) ∧ qs.length ≤ k * 1000000 + m ∧
        BatchesAt wr (.slice A5 us2.length c5) (batL recs) ∧ Ge w1 wr) (fun _ j _ => us2.length - (intOf j).toNat)
      case atStart => exact ⟨0, qs, A2, c2, by omega, rfl, rfl, HOW3.out, by simpa using HPU3.out, (by rw [Nat.add_zero]; exact hql), HBA.out, G3.out⟩
      case round =>
        obtain ⟨m, qs, A2, c2, hm, rfl, rfl, hown, hput, hql, hba, hge⟩ := hrel
        have HOW := Lib.hid hown
        have HPU := Lib.hid hput
        have HGE := Lib.hid hge
        have HBA := Lib.hid hba
        clear hown hput HOW3 HPU3
        by_cases hlm : m < (batL recs).length
        · obtain ⟨bb, us3, A6, c6, e6, hown6, hput6⟩ := hba
          have hu36 : us3.length = us2.length := by rw [hput6.1, ← hul5]
          have hpos6 : 0 < us3.length := by omega
          obtain ⟨g, hA6, hg6, hc6⟩ := ownCells hown6 hpos6
          simp only [Value.slice.injEq] at e6
          obtain ⟨e6, -, -⟩ := e6
          subst e6
          subst hA6
          obtain ⟨u3, hu3⟩ : ∃ u3, us3[m]? = some u3 := ⟨_, List.getElem?_eq_getElem (by omega)⟩
          obtain ⟨pm, hpm⟩ : ∃ pm, (batL recs)[m]? = some pm := ⟨_, List.getElem?_eq_getElem hlm⟩
          have hob := hput6.2 m _ _ hpm hu3
          have HOB := Lib.hid hob
          obtain ⟨A7, c7, hu3v, -⟩ := hob.recsAt
          have cu := hc6 m _ hu3
          rw [Nat.zero_add, hu3v] at cu
          have HU3 := Lib.hid hu3v
          have hsn2 : (batL recs).take (m + 1) = (batL recs).take m ++ [pm] := by
            rw [List.take_succ_eq_append_getElem hlm]
            rw [List.getElem?_eq_getElem hlm] at hpm
            rw [Option.some.inj hpm]
          have HSN2 := Lib.hid hsn2
          have x0 := (hge.cell (p := ⟨b, off + k * 2, none⟩) hb).trans HQ1.out
          try dsimp only at x0
          have lb : b < wr.heap.size := Nat.lt_of_lt_of_le hb hge.size
          have j1 : (0 : Int) ≤ (m : Int) := by omega
          have j2 : (m : Int) < (us2.length : Int) := by omega
          obtain ⟨lm, hlmm⟩ : ∃ lm, lm = pm.length := ⟨_, rfl⟩
          rw [← hlmm] at cu HU3
          have hqb : qs.length + 1 ≤ 100000000 := by
            have : k * 1000000 ≤ 16 * 1000000 := Nat.mul_le_mul_right _ (by omega)
            omega
          clear hown6 hput6 hob hu3v hc6 hsn2 hpm hu3 hlmm hpos6 hu36
          go_wp2
          go_region_law ((refine step_append_lies _ (by rfl) _ _ _ (by rfl) w1.heap.size 39 i0 _ 2 32 Tryd.underlying33 hi0 hz0 hz1 hz2 rfl (by omega) (.slice A2 qs.length c2) _ _ (by simp [Act.eval]) ((HOW.out.alloc _).drew) ⟨wr.heap.size, 0, none⟩ 1 1 [.int .i64 dst, .slice A7 lm c7] (by simp [Act.eval]) (by rfl) (World.news_of_block (cs := #[.int .i64 dst, .slice A7 lm c7]) (t := 39) (fr := (0, 0)) (heap_alloc_new wr _)) (by simp [Value.oneCell']) (by omega) (by simp only [maxLen]; omega) (by omega) (by have := HGE.out.size; simp; omega) (wr.heap.size + 1) (by simp) ?_; intro gg cap4 w5 hown5 hgrow5 hat5 hlt5))
          all_goals
           have HOW5 := Lib.hid hown5
           have HG5 := Lib.hid hgrow5
           clear hown5 hgrow5 hat5 hlt5
           go_wp2
           go_roundw
           case rel =>
             have hob := HOB.out
             rw [HU3.out] at hob
             have hal := ((Ge.refl wr).alloc (.cells #[.int .i64 dst, .slice A7 lm c7] 39)).drew
             have HROW := Lib.hid ((HOW.out.alloc (.cells #[.int .i64 dst, .slice A7 lm c7] 39)).drew)
             have hp5 := ((HPU.out.ge hal).snoc (i := dst) (hob.ge hal)).grown HROW.out HG5.out (by decide)
             refine ⟨m + 1, qs ++ [(dst, .slice A7 lm c7)], some ⟨gg, 0, none⟩, cap4, by omega, by go_num, by simp, ?_, ?_, by simp; omega, ?_, ge_own ((HGE.out.alloc _).drew) HROW.out (Nat.le_refl _) HG5.out⟩
             · rw [qC_snoc]; simpa using HOW5.out
             · rw [HSN2.out, List.map_append, ← List.append_assoc]
               exact hp5
             · exact (HBA.out.ge hal).grown HROW.out HG5.out (by decide) (by decide)
           case measure => simp [intOf]; omega
        · have hmm : m = (batL recs).length := by omega
          have hdm : decide ((m : Int) < (us2.length : Int)) = false := by simp; omega
          clear hba hge
          go_wp2
          go_roundw
          case rel =>
            refine ⟨k + 1, qs, A2, c2, by omega, by go_num, rfl, HOW.out, ?_, ?_, HGE.out⟩
            · rw [HSN.out, parcelL_snoc]
              have := HPU.out
              rw [hmm, List.take_length] at this
              exact this
            · rw [Nat.add_mul]; omega
          case measure => simp [intOf]; omega
    · have hkl : k = ps.length := by omega
      subst hkl
      clear hge
      go_wp2
      go_returns
      refine ⟨_, rfl, ?_, Ge.trans G1.out HGE.out⟩
      have := HPU.out
      rw [List.take_length] at this
      exact parcels_of HOW.out this
end Go.Proofs.YtidblliobkjeeaaDoor
