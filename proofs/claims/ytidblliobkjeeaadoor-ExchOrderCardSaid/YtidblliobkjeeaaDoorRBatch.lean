/-
  The reference's Batches.
-/
import Derived.Test.YtidblliobkjeeaaDoorBatchW
namespace Go.Proofs.YtidblliobkjeeaaDoor
open Go.RowKit

theorem RecsAt.part_run {w : World} {A : Option Addr} {cap i m : Nat} {rs : List Rc} (h : RecsAt w (.slice A rs.length cap) rs) (hi : i < rs.length) (hm : i + m ≤ rs.length) (hm0 : 1 ≤ m) :
    ∃ A' cap', (∀ w' : World, (Instr.slice 28 (.slice A rs.length cap) (some (.int .i64 (i : Int))) (some (.int .i64 ((i : Int) + (m : Int)))) none).run Tryd.prog w' = .ok (.slice A' m cap') w') ∧ RecsAt w (.slice A' m cap') ((rs.drop i).take m) := by
  obtain ⟨A0, cap0, e, hle, hc⟩ := h
  cases e
  obtain ⟨b, off, rfl, hb, hcell⟩ := hc (by intro e; subst e; simp at hi)
  refine ⟨some ⟨b, off + i * 2, none⟩, cap - i, fun w' => ?_, ?_⟩
  rotate_left
  · have hl : ((rs.drop i).take m).length = m := by simp; omega
    refine ⟨some ⟨b, off + i * 2, none⟩, cap - i, by rw [hl], by rw [hl]; omega, fun _ => ⟨b, off + i * 2, rfl, hb, fun j r hj => ?_⟩⟩
    rw [List.getElem?_take] at hj
    split at hj
    · rw [List.getElem?_drop] at hj
      have := hcell (i + j) r hj
      rw [show off + (i + j) * 2 = off + i * 2 + j * 2 by omega] at this
      exact this
    · cases hj
  · have h1 : (i : Int) + (m : Int) ≤ (cap : Int) := by omega
    have h2 : (0 : Int) ≤ (i : Int) + (m : Int) := by omega
    have h3 : (i : Int) ≤ (i : Int) + (m : Int) := by omega
    have h4 : ((i : Int) + (m : Int) - (i : Int)).toNat = m := by omega
    have h5 : ((i : Int) + (m : Int)).toNat - i = m := by omega
    have h6 : cap ≠ i := by omega
    go_simp

set_option maxHeartbeats 4000000 in
theorem rbatches_any {w : World} {v : Value} {rs : List Rc} (h : RecsAt w v rs) (hl : rs.length ≤ 1000000) :
    Calls Tryd.prog 33 #[v] w fun e w' => ∃ v', e = .returned v' ∧ BatchesAt w' v' (batL rs) ∧ Ge w w' := by
  have H := Lib.hid h
  obtain ⟨A, cap, rfl, -⟩ := h
  obtain ⟨i0, hi0, hz0, hz1, hz2⟩ := info_parts info28
  go_enter Tryd.func33, Tryd.ntmps33
  go_wp2
  go_loopw [3, 4] (fun out i wr => ∃ (q : Nat) (pre : List (List Rc)) (us : List Value) (A2 : Option Addr) (c2 : Nat), i = .int .i64 (q : Int) ∧ out = .slice A2 us.length c2 ∧ q ≤ rs.length + 64 ∧ us.length ≤ q ∧
    wr.ownsRow w.heap.size 28 1 (.slice A2 us.length c2) us.length us ∧ Putd wr us pre ∧ pre ++ batL (rs.drop q) = batL rs ∧ Ge w wr)
    (fun _ i _ => rs.length + 64 - (intOf i).toNat)
  case atStart => exact ⟨0, [], [], none, 0, rfl, rfl, by omega, by simp, World.ownsRow_nil _ _ _ _, ⟨rfl, fun j p u h => by simp at h⟩, rfl, Ge.refl _⟩
  case round =>
    obtain ⟨q, pre, us, A2, c2, rfl, rfl, hq, hul, hown, hput, hbat, hge⟩ := hrel
    have HOW := Lib.hid hown
    have HPU := Lib.hid hput
    have HBA := Lib.hid hbat
    have HGE := Lib.hid hge
    have hb := batL_eq (rs.drop q)
    clear hown hput hbat
    by_cases hpos : q < rs.length
    · rw [if_neg (by simp; omega), List.drop_drop] at hb
      have HB := Lib.hid hb
      clear hb
      obtain ⟨k, hk⟩ : ∃ k, k = ((rs.drop q).take 64).length := ⟨_, rfl⟩
      have hk' : k = if rs.length ≤ q + 64 then rs.length - q else 64 := by rw [hk]; simp; split <;> omega
      have hkle : q + k ≤ rs.length := by rw [hk']; split <;> omega
      have hk1 : 1 ≤ k := by rw [hk']; split <;> omega
      have ht : (rs.drop q).take k = (rs.drop q).take 64 := by
        rw [hk']
        split
        · rw [List.take_of_length_le (by simp), List.take_of_length_le (by simp; omega)]
        · rfl
      obtain ⟨A3, c3, hT, hTR⟩ := H.out.part_run hpos hkle hk1
      rw [ht] at hTR
      have HTR := Lib.hid (hTR.ge hge)
      have hmin : min ((q : Int) + 64) (rs.length : Int) = (q : Int) + (k : Int) := by rw [hk']; split <;> omega
      have q0 : (0 : Int) ≤ (q : Int) := by omega
      have HK := Lib.hid hk
      clear hTR hge hk hk' ht
      have hnil := Lib.hid (show OwnR wr wr.heap.size (.slice none 0 0) [] from World.ownsRow_nil _ _ _ _)
      have C0 := Lib.hid (show ([] : List Rc).length + ((rs.drop q).take 64).length ≤ 1000000000000 by simp; omega)
      go_wp2_with (first | (at_builtin; refine wpList_appR rfl (.tmp 13) (.tmp 21) rfl rfl rfl hnil.out HTR.out C0.out (Nat.le_refl _) ?_; intro v3 w3 hown3 hgrow3; rw [List.nil_append] at hown3; obtain ⟨A4, c4, hv3⟩ := hown3.form; rw [← HK.out] at hv3; subst hv3; have HR3 := Lib.hid (show Own1 w3 _ ((rs.drop q).take 64) from ⟨_, hown3⟩); have hg3 := ge_own (Ge.refl wr) hnil.out (Nat.le_refl _) hgrow3; have G3 := Lib.hid (Ge.trans HGE.out hg3); have HOW3 := Lib.hid (show w3.ownsRow w.heap.size 28 1 (.slice A2 us.length c2) us.length us from ownsRow_ge HOW.out hg3); have HPU3 := Lib.hid (HPU.out.ge hg3); have C1 := Lib.hid (show w.heap.size ≤ (w3.alloc (.cells #[.slice A4 k c4] 28)).heap.size by have := G3.out.size; simp; omega); have HROW := Lib.hid (HOW3.out.alloc (.cells #[.slice A4 k c4] 28)); clear hown3 hgrow3 hg3) | (at_builtin; refine wpList_append_lies _ rfl (.tmp 12) (.tmp 23) 60 rfl w.heap.size 28 i0 _ 1 24 Tryd.underlying60 hi0 hz0 hz1 hz2 rfl (by decide) _ _ _ rfl HROW.out ⟨w3.heap.size, 0, none⟩ 1 1 [.slice A4 k c4] rfl rfl (World.news_of_block (cs := #[.slice A4 k c4]) (t := 28) (fr := (0, 0)) (heap_alloc_new w3 _)) (by simp [Value.oneCell']) (by omega) (by simp only [maxLen]; omega) (by omega) C1.out _ rfl ?_; intro gg cap4 w5 hown5 hgrow5 hat5 hlt5; have HOW5 := Lib.hid hown5; have G5 := Lib.hid (ge_own (Ge.alloc G3.out (.cells #[.slice A4 k c4] 28)) HROW.out (Nat.le_refl _) hgrow5); have HP5 := Lib.hid (putd_app HPU3.out HOW3.out HR3.out hgrow5); clear hown5 hgrow5 hat5 hlt5))
      go_roundw
      case rel =>
        refine ⟨q + 64, pre ++ [(rs.drop q).take 64], us ++ [.slice A4 k c4], some ⟨gg, 0, none⟩, cap4, by go_num, by simp, by omega, by simp; omega, by simpa using HOW5.out, HP5.out, ?_, G5.out⟩
        have := HBA.out
        rw [HB.out] at this
        simpa using this
      case measure => simp [intOf]; omega
    · rw [if_pos (by simp; omega)] at hb
      have HB := Lib.hid hb
      clear hb hge
      go_wp2
      go_returns
      refine ⟨_, rfl, ?_, HGE.out⟩
      have := HBA.out
      rw [HB.out, List.append_nil] at this
      rw [← this]
      exact batches_of HOW.out HPU.out.1 HPU.out.2
end Go.Proofs.YtidblliobkjeeaaDoor
