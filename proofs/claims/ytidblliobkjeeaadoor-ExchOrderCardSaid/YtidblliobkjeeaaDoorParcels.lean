/-
  Parcels: records by the workers to which they go, in pieces.
-/
import Derived.Test.YtidblliobkjeeaaDoorBatchW
namespace Go.Proofs.YtidblliobkjeeaaDoor
open Go.RowKit

def parcelL (ps : List (Int × List Rc)) : List (Int × List Rc) := ps.flatMap fun p => (batL p.2).map fun b => (p.1, b)
theorem parcelL_snoc (ps : List (Int × List Rc)) (p : Int × List Rc) : parcelL (ps ++ [p]) = parcelL ps ++ (batL p.2).map fun b => (p.1, b) := by simp [parcelL]

def qC (qs : List (Int × Value)) : List Value := qs.flatMap fun q => [.int .i64 q.1, q.2]
theorem qC_snoc (qs : List (Int × Value)) (q : Int × Value) : qC (qs ++ [q]) = qC qs ++ [.int .i64 q.1, q.2] := by simp [qC]
theorem qC_at (qs : List (Int × Value)) : ∀ (j : Nat) (q : Int × Value), qs[j]? = some q → (qC qs)[j * 2]? = some (.int .i64 q.1) ∧ (qC qs)[j * 2 + 1]? = some q.2 := by
  induction qs with
  | nil => intro j r h; simp at h
  | cons q t ih =>
    intro j r h
    have e : qC (q :: t) = Value.int .i64 q.1 :: q.2 :: qC t := rfl
    rw [e]
    cases j with
    | zero => simp at h; subst h; exact ⟨rfl, rfl⟩
    | succ j =>
      rw [List.getElem?_cons_succ] at h
      have := ih j r h
      rw [show (j + 1) * 2 = j * 2 + 1 + 1 by omega, show j * 2 + 1 + 1 + 1 = (j * 2 + 1) + 1 + 1 by omega]
      simp only [List.getElem?_cons_succ]
      exact this

/-- parcels that have been put -/
def PutP (w : World) (qs : List (Int × Value)) (ps : List (Int × List Rc)) : Prop := qs.length = ps.length ∧ ∀ (j : Nat) (q : Int × Value) (p : Int × List Rc), qs[j]? = some q → ps[j]? = some p → q.1 = p.1 ∧ Own1 w q.2 p.2
theorem PutP.ge {w w' : World} {qs : List (Int × Value)} {ps : List (Int × List Rc)} (h : PutP w qs ps) (hg : Ge w w') : PutP w' qs ps := ⟨h.1, fun j q p h1 h2 => ⟨(h.2 j q p h1 h2).1, (h.2 j q p h1 h2).2.ge hg⟩⟩
theorem PutP.snoc {w : World} {qs : List (Int × Value)} {ps : List (Int × List Rc)} {i : Int} {u : Value} {b : List Rc} (h : PutP w qs ps) (hu : Own1 w u b) : PutP w (qs ++ [(i, u)]) (ps ++ [(i, b)]) := by
  refine ⟨by simp [h.1], fun j q p h1 h2 => ?_⟩
  rcases snoc_get h1 with ⟨hj, e1⟩ | ⟨hj, rfl⟩
  · rcases snoc_get h2 with ⟨_, e2⟩ | ⟨hj2, _⟩
    · exact h.2 j q p e1 e2
    · have := h.1; omega
  · rcases snoc_get h2 with ⟨hj2, _⟩ | ⟨_, rfl⟩
    · have := h.1; omega
    · exact ⟨rfl, hu⟩
theorem PutP.grown {w w1 : World} {base : Nat} {e : TypeId} {size n : Nat} {v : Value} {xs : List Value} {qs : List (Int × Value)} {ps : List (Int × List Rc)} (h : PutP w qs ps) (hv : w.ownsRow base e size v n xs) (hg : w.grownBy w1 v.ownBlock) (hte : e ≠ 32) : PutP w1 qs ps :=
  ⟨h.1, fun j q p h1 h2 => ⟨(h.2 j q p h1 h2).1, (h.2 j q p h1 h2).2.grown hv hg hte⟩⟩
theorem parcels_of {w : World} {base : Nat} {A : Option Addr} {cap : Nat} {qs : List (Int × Value)} {ps : List (Int × List Rc)} (hown : w.ownsRow base 39 2 (.slice A qs.length cap) qs.length (qC qs)) (h : PutP w qs ps) : ParcelsAt w (.slice A qs.length cap) ps := by
  have hle : qs.length ≤ cap := by
    rcases hown.2 with ⟨h, h0⟩ | ⟨g, cap', cur, hv, hg, hh, hle, _⟩
    · omega
    · simp at hv
      omega
  refine ⟨A, cap, qs.map (·.2), by rw [h.1], by rw [← h.1]; exact hle, by simp [h.1], fun hne => ?_, fun j p u h1 h2 => ?_⟩
  · have hpos : 0 < qs.length := by
      rw [h.1]
      cases ps with
      | nil => exact absurd rfl hne
      | cons _ _ => simp
    obtain ⟨g, rfl, hlt, hc⟩ := ownCells hown hpos
    refine ⟨g, 0, rfl, hlt, fun j p u h1 h2 => ?_⟩
    simp only [List.getElem?_map, Option.map_eq_some_iff] at h2
    obtain ⟨q, hq, rfl⟩ := h2
    obtain ⟨e1, e2⟩ := qC_at qs j q hq
    rw [Nat.add_assoc, ← (h.2 j q p hq h1).1]
    exact ⟨hc _ _ e1, hc _ _ e2⟩
  · simp only [List.getElem?_map, Option.map_eq_some_iff] at h2
    obtain ⟨q, hq, rfl⟩ := h2
    exact (h.2 j q p hq h1).2.recsAt

theorem filter_len (kind worker workers : Int) (rs : List Rc) (i : Nat) : (rowL kind worker workers rs i).length ≤ rs.length := List.length_filter_le _ _
theorem partP_bounds (kind worker workers : Int) (rs : List Rc) : (partP kind worker workers rs).length ≤ 16 ∧ ∀ p ∈ partP kind worker workers rs, p.2.length ≤ rs.length := by
  unfold partP
  by_cases h : partE kind worker workers rs = 0
  · rw [if_pos h]
    have hm : mayB worker workers = true := by
      cases hx : mayB worker workers with
      | true => rfl
      | false => unfold partE at h; rw [if_pos hx] at h; cases h
    obtain ⟨h1, h2, _, _⟩ := (mayB_iff _ _).1 hm
    refine ⟨?_, fun p hp => ?_⟩
    · unfold partL
      rw [List.length_map]
      have := partIs_len kind worker workers rs workers.toNat
      omega
    · unfold partL at hp
      rw [List.mem_map] at hp
      obtain ⟨i, _, rfl⟩ := hp
      exact filter_len _ _ _ _ _
  · rw [if_neg h]
    exact ⟨by simp, fun p hp => by simp at hp⟩

/-- how Parcels ends -/
def ParcelsOut (kind worker workers : Int) (rs : List Rc) (w : World) (e : Ending) (w' : World) : Prop :=
  ∃ v, e = .returned (.tuple #[v, .int .i64 (partE kind worker workers rs)]) ∧ ParcelsAt w' v (parcelL (partP kind worker workers rs)) ∧ Ge w w'

set_option maxRecDepth 100000 in
set_option maxHeartbeats 8000000 in
theorem parcels_any {w : World} (hT : Tabs w) (kind worker workers : Int) {v : Value} {rs : List Rc} (hv : RecsAt w v rs) (hl : rs.length ≤ 1000000) :
    Calls Tryd.prog 12 #[.int .i64 kind, .int .i64 worker, .int .i64 workers, v] w (ParcelsOut kind worker workers rs w) := by
  have HP := Lib.hid (part_any hT kind worker workers hv hl)
  obtain ⟨A, cap, rfl, -⟩ := hv
  clear hT
  unfold PartOut at HP
  unfold ParcelsOut
  obtain ⟨hb1, hb2⟩ := partP_bounds kind worker workers rs
  have HB2 := Lib.hid hb2
  clear hb2
  obtain ⟨i0, hi0, hz0, hz1, hz2⟩ := info_parts info39
  generalize partP kind worker workers rs = ps at *
  generalize partE kind worker workers rs = er at *
  go_enter Tryd.func12, Tryd.ntmps12
  go_wp2_with fail
  refine HP.out.mono ?_
  rintro e w1 ⟨v1, rfl, hp1, hg1⟩
  obtain ⟨A1, cap1, us, rfl, hle1, hul, hc1, hr1⟩ := hp1
  have HC1 := Lib.hid hc1
  have HR1 := Lib.hid hr1
  have G1 := Lib.hid hg1
  clear hc1 hr1 hg1 HP
  go_wp2
  go_loopw [12, 27] (fun out i wr => ∃ (k : Nat) (qs : List (Int × Value)) (A2 : Option Addr) (c2 : Nat), k ≤ ps.length ∧ i = .int .i64 (k : Int) ∧ out = .slice A2 qs.length c2 ∧
    wr.ownsRow w1.heap.size 39 2 (.slice A2 qs.length c2) qs.length (qC qs) ∧ PutP wr qs (parcelL (ps.take k)) ∧ qs.length ≤ k * 1000000 ∧ Ge w1 wr) (fun _ i _ => ps.length - (intOf i).toNat)
  case atStart => exact ⟨0, [], none, 0, by omega, rfl, rfl, World.ownsRow_nil _ _ _ _, ⟨by simp [parcelL], fun j q p h => by simp at h⟩, by simp, Ge.refl _⟩
  case round =>
    obtain ⟨k, qs, A2, c2, hk, rfl, rfl, hown, hput, hql, hge⟩ := hrel
    have HOW := Lib.hid hown
    have HPU := Lib.hid hput
    have HGE := Lib.hid hge
    clear hown hput
    by_cases hlt : k < ps.length
    · obtain ⟨b, off, rfl, hb, hcell⟩ := HC1.out (by intro e; rw [e] at hlt; simp at hlt)
      obtain ⟨⟨dst, recs⟩, hpk⟩ : ∃ p : Int × List Rc, ps[k]? = some p := ⟨_, List.getElem?_eq_getElem hlt⟩
      obtain ⟨u, huk⟩ : ∃ u, us[k]? = some u := ⟨_, List.getElem?_eq_getElem (by omega)⟩
      have hur := HR1.out k _ _ hpk huk
      obtain ⟨q1, q2⟩ := hcell k _ _ hpk huk
      have c0 := (hge.cell (p := ⟨b, off + k * 2, none⟩) hb).trans q1
      have c1 := (hge.cell (p := ⟨b, off + k * 2 + 1, none⟩) hb).trans q2
      dsimp only at c0 hur
      have hrl : recs.length ≤ 1000000 := by have := HB2.out _ (List.mem_of_getElem? hpk); dsimp only at this; omega
      obtain ⟨A3, c3, rfl, hx⟩ := id hur
      have hsn : ps.take (k + 1) = ps.take k ++ [(dst, recs)] := by
        rw [List.take_succ_eq_append_getElem hlt]
        rw [List.getElem?_eq_getElem hlt] at hpk
        rw [Option.some.inj hpk]
      have HSN := Lib.hid hsn
      have HBT := Lib.hid (batches_any ((hur.ge hge).ge ((Ge.refl wr).alloc (.cells #[.int .i64 dst, .slice A3 recs.length c3] 39))) hrl)
      have XB : Bx (wr.alloc (.cells #[.int .i64 dst, .slice A3 recs.length c3] 39)) wr.heap.size 39 #[.int .i64 dst, .slice A3 recs.length c3] := Bx.new _ _ _ rfl
      have HXB := Lib.hid XB
      have hbl := batL_len recs
      have i1 : (0 : Int) ≤ (k : Int) := by omega
      have i2 : (k : Int) < (ps.length : Int) := by omega
      clear hcell hpk huk hur q1 q2 hsn hge hx XB
      go_wp2_with fail
      refine HBT.out.mono ?_
      rintro e w3 ⟨vb, rfl, hba, hg3⟩
      have G3 := Lib.hid (Ge.trans (HGE.out.alloc (.cells #[.int .i64 dst, .slice A3 recs.length c3] 39)) hg3)
      have X3 := HXB.out.ge hg3
      have HX3 := Lib.hid X3
      have HOW3 := Lib.hid (ownsRow_ge (HOW.out.alloc (.cells #[.int .i64 dst, .slice A3 recs.length c3] 39)) hg3)
      have HPU3 := Lib.hid ((HPU.out.ge ((Ge.refl wr).alloc (.cells #[.int .i64 dst, .slice A3 recs.length c3] 39))).ge hg3)
      have hnX : (Value.slice A2 qs.length c2).ownBlock ≠ some wr.heap.size := fun e => by have := (HOW.out.lt _ e).2; omega
      have HNX := Lib.hid hnX
      obtain ⟨X, hX⟩ : ∃ X, X = wr.heap.size := ⟨_, rfl⟩
      rw [← hX] at X3 HX3 HNX ⊢
      obtain ⟨bb, us2, A5, c5, rfl, hb5, hp5⟩ := id hba
      have hul5 := hp5.1
      have HBA := Lib.hid hba
      clear c0 c1 hba hg3 HOW HPU HGE HXB HBT X3 hnX hX hb5 hp5
      go_wp2
      go_loopw [12, 35] (fun out j wr => ∃ (m : Nat) (qs : List (Int × Value)) (A2 : Option Addr) (c2 : Nat), m ≤ (batL recs).length ∧ j = .int .i64 (m : Int) ∧ out = .slice A2 qs.length c2 ∧
        wr.ownsRow w1.heap.size 39 2 (.slice A2 qs.length c2) qs.length (qC qs) ∧ PutP wr qs (parcelL (ps.take k) ++ ((batL recs).take m).map fun b => (dst, b)) ∧ qs.length ≤ k * 1000000 + m ∧
        Bx wr X 39 #[.int .i64 dst, .slice A3 recs.length c3] ∧ BatchesAt wr (.slice A5 us2.length c5) (batL recs) ∧ (Value.slice A2 qs.length c2).ownBlock ≠ some X ∧ Ge w1 wr) (fun _ j _ => us2.length - (intOf j).toNat)
      case atStart => exact ⟨0, qs, A2, c2, by omega, rfl, rfl, HOW3.out, by simpa using HPU3.out, (by rw [Nat.add_zero]; exact hql), HX3.out, HBA.out, HNX.out, G3.out⟩
      case round =>
        obtain ⟨m, qs, A2, c2, hm, rfl, rfl, hown, hput, hql, hxb, hba, hnx, hge⟩ := hrel
        have HOW := Lib.hid hown
        have HPU := Lib.hid hput
        have HGE := Lib.hid hge
        have HX3 := Lib.hid hxb
        have HBA := Lib.hid hba
        have HNX := Lib.hid hnx
        clear hown hput hnx HOW3 HPU3
        by_cases hlm : m < (batL recs).length
        · obtain ⟨bb, us3, A6, c6, e6, hown6, hput6⟩ := hba
          have hu36 : us3.length = us2.length := by rw [hput6.1, ← hul5]
          have hpos6 : 0 < us3.length := by omega
          obtain ⟨g, hA6, hg6, hc6⟩ := ownCells hown6 hpos6
          simp only [Value.slice.injEq] at e6
          obtain ⟨e6, -, -⟩ := e6
          subst e6
          subst hA6
          obtain ⟨u3, hu3⟩ : ∃ u3, us3[m]? = some u3 := ⟨_, List.getElem?_eq_getElem (by omega)⟩
          obtain ⟨pm, hpm⟩ : ∃ pm, (batL recs)[m]? = some pm := ⟨_, List.getElem?_eq_getElem hlm⟩
          have hob := hput6.2 m _ _ hpm hu3
          have HOB := Lib.hid hob
          obtain ⟨A7, c7, hu3v, -⟩ := hob.recsAt
          have cu := hc6 m _ hu3
          rw [Nat.zero_add, hu3v] at cu
          have HU3 := Lib.hid hu3v
          have hsn2 : (batL recs).take (m + 1) = (batL recs).take m ++ [pm] := by
            rw [List.take_succ_eq_append_getElem hlm]
            rw [List.getElem?_eq_getElem hlm] at hpm
            rw [Option.some.inj hpm]
          have HSN2 := Lib.hid hsn2
          have lX := hxb.lt
          have x0 := hxb.cell 0
          have x1 := hxb.cell 1
          simp only [List.getElem?_toArray, List.getElem?_cons_zero, List.getElem?_cons_succ] at x0 x1
          have j1 : (0 : Int) ≤ (m : Int) := by omega
          have j2 : (m : Int) < (us2.length : Int) := by omega
          obtain ⟨lm, hlmm⟩ : ∃ lm, lm = pm.length := ⟨_, rfl⟩
          rw [← hlmm] at cu HU3
          have C1 := Lib.hid (show w1.heap.size ≤ (wr.alloc (.cells #[.int .i64 dst, .slice A7 lm c7] 39)).heap.size by have := HGE.out.size; simp; omega)
          have HROW := Lib.hid (HOW.out.alloc (.cells #[.int .i64 dst, .slice A7 lm c7] 39))
          have hqb : qs.length + 1 ≤ 100000000 := by
            have : k * 1000000 ≤ 16 * 1000000 := Nat.mul_le_mul_right _ (by omega)
            omega
          clear hown6 hput6 hob hu3v hc6 hsn2 hpm hu3 hlmm hpos6 hu36
          go_wp2_with (at_builtin; refine wpList_append_lies _ rfl (.tmp 39) (.tmp 44) 33 rfl w1.heap.size 39 i0 _ 2 32 Tryd.underlying33 hi0 hz0 hz1 hz2 rfl (by decide) _ _ _ rfl HROW.out ⟨wr.heap.size, 0, none⟩ 1 1 [.int .i64 dst, .slice A7 lm c7] rfl rfl (World.news_of_block (cs := #[.int .i64 dst, .slice A7 lm c7]) (t := 39) (fr := (0, 0)) (heap_alloc_new wr _)) (by simp [Value.oneCell']) (by omega) (by simp only [maxLen]; omega) (by omega) C1.out _ rfl ?_; intro gg cap4 w5 hown5 hgrow5 hat5 hlt5; have HOW5 := Lib.hid hown5; have HG5 := Lib.hid hgrow5; have HAT5 := Lib.hid hat5; clear hown5 hgrow5 hat5 hlt5)
          go_roundw
          case rel =>
            have hob := HOB.out
            rw [HU3.out] at hob
            have hal := (Ge.refl wr).alloc (.cells #[.int .i64 dst, .slice A7 lm c7] 39)
            have hp5 := ((HPU.out.ge hal).snoc (i := dst) (hob.ge hal)).grown HROW.out HG5.out (by decide)
            refine ⟨m + 1, qs ++ [(dst, .slice A7 lm c7)], some ⟨gg, 0, none⟩, cap4, by omega, by go_num, by simp, ?_, ?_, by simp; omega, ?_, ?_, ?_, ge_own (HGE.out.alloc _) HROW.out (Nat.le_refl _) HG5.out⟩
            · rw [qC_snoc]; simpa using HOW5.out
            · rw [HSN2.out, List.map_append, ← List.append_assoc]
              exact hp5
            · exact (HG5.out.block X (by have := HX3.out.lt; simp; omega) (fun e => HNX.out e.symm)).trans (HX3.out.alloc _)
            · exact (HBA.out.ge hal).grown HROW.out HG5.out (by decide) (by decide)
            · intro e
              simp [Value.ownBlock] at e
              rcases HAT5.out with h | h
              · rw [e] at h
                exact HNX.out h
              · have := HX3.out.lt
                simp at h
                omega
          case measure => simp [intOf]; omega
        · have hmm : m = (batL recs).length := by omega
          have hdm : decide ((m : Int) < (us2.length : Int)) = false := by simp; omega
          clear hba hxb hge
          go_wp2
          go_roundw
          case rel =>
            refine ⟨k + 1, qs, A2, c2, by omega, by go_num, rfl, HOW.out, ?_, ?_, HGE.out⟩
            · rw [HSN.out, parcelL_snoc]
              have := HPU.out
              rw [hmm, List.take_length] at this
              exact this
            · rw [Nat.add_mul]; omega
          case measure => simp [intOf]; omega
    · have hkl : k = ps.length := by omega
      subst hkl
      clear hge
      go_wp2
      go_returns
      refine ⟨_, rfl, ?_, Ge.trans G1.out HGE.out⟩
      have := HPU.out
      rw [List.take_length] at this
      exact parcels_of HOW.out this
end Go.Proofs.YtidblliobkjeeaaDoor
