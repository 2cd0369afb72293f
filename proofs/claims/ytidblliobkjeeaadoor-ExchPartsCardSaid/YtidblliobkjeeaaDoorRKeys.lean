/-
  The reference's Keys.
-/
import Derived.Test.YtidblliobkjeeaaDoorInts
import Derived.Deep.QuietTactic
import Derived.BigQuiet
namespace Go.Proofs.YtidblliobkjeeaaDoor
open Go.RowKit
attribute [local go_sem] Dr.upT

theorem Ge.drewN (w : World) (n : Nat) : Ge w (w.drewN n) := ⟨rfl, rfl, rfl, Nat.le_refl _, fun _ _ => rfl⟩

/-- the key is new, and its worker is this one -/
def keyC (worker workers : Int) (acc : List Int) (k : Int) : Bool := mayB worker workers && (ofV k workers == worker) && !memB acc k
def keysL (worker workers : Int) (rs : List Rc) : List Int := rs.foldl (fun acc r => if keyC worker workers acc r.1 = true then acc ++ [r.1] else acc) []
theorem keysL_next {worker workers : Int} {rs : List Rc} {k : Nat} {key : Int} {s : ByteArray} (h : rs[k]? = some (key, s)) :
    keysL worker workers (rs.take (k + 1)) = if keyC worker workers (keysL worker workers (rs.take k)) key = true then keysL worker workers (rs.take k) ++ [key] else keysL worker workers (rs.take k) := by
  have hlt := (List.getElem?_eq_some_iff.1 h).1
  rw [List.getElem?_eq_getElem hlt] at h
  rw [List.take_succ_eq_append_getElem hlt, Option.some.inj h]
  unfold keysL
  rw [List.foldl_append]
  rfl
theorem keysL_len (worker workers : Int) (rs : List Rc) (k : Nat) : (keysL worker workers (rs.take k)).length ≤ k := by
  induction k with
  | zero => simp [keysL]
  | succ k ih =>
    by_cases hlt : k < rs.length
    · obtain ⟨⟨key, s⟩, hr⟩ : ∃ r : Rc, rs[k]? = some r := ⟨_, List.getElem?_eq_getElem hlt⟩
      rw [keysL_next hr]
      split
      · simp; omega
      · omega
    · rw [List.take_of_length_le (by omega)]
      rw [List.take_of_length_le (by omega)] at ih
      omega
theorem keysL_none {worker workers : Int} (h : mayB worker workers = false) (rs : List Rc) : keysL worker workers rs = [] := by
  unfold keysL
  induction rs with
  | nil => rfl
  | cons r t ih =>
    rw [List.foldl_cons]
    have : keyC worker workers [] r.1 = false := by unfold keyC; rw [h]; rfl
    rw [this]
    exact ih

/-- the reference's test -/
theorem keyC_ref {worker workers : Int} (h1 : 1 ≤ workers) (h2 : workers ≤ 16) (acc : List Int) (k : Int) : keyC worker workers acc k = !((ofV k workers != worker) || memB acc k) := by
  unfold keyC
  have hr := ofV_range (n := k) h1 h2
  cases hm : mayB worker workers with
  | true => cases h : (ofV k workers == worker) <;> simp [bne, h]
  | false =>
    have hne : (ofV k workers != worker) = true := by
      simp only [bne_iff_ne, ne_eq]
      intro e
      rw [(mayB_iff _ _).2 ⟨h1, h2, by omega, by omega⟩] at hm
      cases hm
    rw [hne]
    rfl

set_option maxRecDepth 100000 in
set_option maxHeartbeats 8000000 in
theorem rkeys_any {w : World} (worker workers : Int) {v : Value} {rs : List Rc} (hv : RecsAt w v rs) (hl : rs.length ≤ 1000000) :
    Calls Tryd.prog 21 #[.int .i64 worker, .int .i64 workers, v] w fun e w' => ∃ v', e = .returned v' ∧ IntsAt w' v' (keysL worker workers rs) ∧ Ge w w' := by
  obtain ⟨A, cap, rfl, hle, hc⟩ := hv
  have HC := Lib.hid hc
  clear hc
  by_cases h1 : workers < 1
  · have hn : keysL worker workers rs = [] := keysL_none (by
      cases hx : mayB worker workers with
      | false => rfl
      | true => have := (mayB_iff _ _).1 hx; omega) rs
    rw [hn]
    have d1 : decide (workers < 1) = true := by simpa using h1
    clear hn h1
    go_enter Tryd.func21, Tryd.ntmps21
    go_wp2
    go_returns
    exact ⟨_, rfl, ⟨none, 0, rfl, Nat.le_refl _, fun h => absurd rfl h⟩, Ge.refl _⟩
  by_cases h2 : 16 < workers
  · have hn : keysL worker workers rs = [] := keysL_none (by
      cases hx : mayB worker workers with
      | false => rfl
      | true => have := (mayB_iff _ _).1 hx; omega) rs
    rw [hn]
    have d1 : decide (workers < 1) = false := by simpa using h1
    have d2 : decide (16 < workers) = true := by simpa using h2
    clear hn h1 h2
    go_enter Tryd.func21, Tryd.ntmps21
    go_wp2
    go_returns
    exact ⟨_, rfl, ⟨none, 0, rfl, Nat.le_refl _, fun h => absurd rfl h⟩, Ge.refl _⟩
  have d1 : decide (workers < 1) = false := by simpa using h1
  have d2 : decide (16 < workers) = false := by simpa using h2
  have HKC := Lib.hid (keyC_ref (worker := worker) (show 1 ≤ workers by omega) (show workers ≤ 16 by omega))
  clear h1 h2
  obtain ⟨i0, hi0, hz0, hz1, hz2⟩ := info_parts info2
  go_enter Tryd.func21, Tryd.ntmps21
  go_wp2
  clear d1 d2
  go_loopw [7, 8] (fun out i wr => ∃ (k : Nat) (A2 : Option Addr) (c2 : Nat), k ≤ rs.length ∧ i = .int .i64 (k : Int) ∧ out = .slice A2 (keysL worker workers (rs.take k)).length c2 ∧
    OwnI wr w.heap.size (.slice A2 (keysL worker workers (rs.take k)).length c2) (keysL worker workers (rs.take k)) ∧ Ge w wr) (fun _ i _ => rs.length - (intOf i).toNat)
  case atStart => exact ⟨0, none, 0, by omega, rfl, rfl, World.ownsRow_nil _ _ _ _, Ge.refl _⟩
  case round =>
    obtain ⟨k, A2, c2, hk, rfl, rfl, hown, hge⟩ := hrel
    have HOW := Lib.hid hown
    have HGE := Lib.hid hge
    have HIA := Lib.hid hown.intsAt
    clear hown
    by_cases hlt : k < rs.length
    · obtain ⟨b, off, rfl, hb, hcell⟩ := HC.out (by intro e; rw [e] at hlt; simp at hlt)
      obtain ⟨⟨key, s⟩, hr⟩ : ∃ r : Rc, rs[k]? = some r := ⟨_, List.getElem?_eq_getElem hlt⟩
      have hcw := (hcell k _ hr).1
      have HCK := Lib.hid (fun (w3 : World) (hw : Ge wr w3) => ((hge.trans hw).cell (p := ⟨b, off + k * 2, none⟩) hb).trans hcw)
      have c0 := HCK.out wr (Ge.refl _)
      have hnx := keysL_next (worker := worker) (workers := workers) hr
      have hkl := keysL_len worker workers rs k
      have HKL := Lib.hid hkl
      rw [HKC.out] at hnx
      have HNX := Lib.hid hnx
      have HRO := Lib.hid (rof_any key workers)
      have i1 : (0 : Int) ≤ (k : Int) := by omega
      have i2 : (k : Int) < (rs.length : Int) := by omega
      have lb : b < wr.heap.size := Nat.lt_of_lt_of_le hb hge.size
      clear hcell hr hcw hnx hge
      generalize hO : ofV key workers = o at *
      clear hO
      generalize hks : keysL worker workers (rs.take k) = ks at *
      have HKS := Lib.hid hks
      clear hks
      go_wp2_with fail
      refine (HRO.out _).mono ?_
      rintro e w5 ⟨rfl, hw⟩
      obtain rfl : wr = w5 := hw.symm
      clear hw HRO
      obtain ⟨sb, hsb⟩ : ∃ sb : Bool, sb = (o != worker) := ⟨_, rfl⟩
      rw [← hsb] at HNX
      go_wp2
      rw [← hsb]
      have HSB := Lib.hid hsb
      clear hsb c0
      obtain ⟨wo, hwo⟩ : ∃ x, x = wr := ⟨_, rfl⟩
      subst hwo
      go_loopw [9, 10] (fun seen j wr => ∃ m : Nat, m ≤ ks.length ∧ j = .int .i64 (m : Int) ∧ seen = .bool (sb || memB (ks.take m) key) ∧ Ge wo wr) (fun _ j _ => ks.length - (intOf j).toNat)
      case atStart => exact ⟨0, by omega, rfl, by simp [memB], Ge.refl _⟩
      case round =>
        obtain ⟨m, hm, rfl, rfl, hgm⟩ := hrel
        have HGM := Lib.hid hgm
        by_cases hlm : m < ks.length
        · obtain ⟨Ai, ci, ei, hlei, hci⟩ := HIA.out
          cases ei
          obtain ⟨b2, o2, rfl, hb2, hc2⟩ := hci (by intro e; rw [e] at hlm; simp at hlm)
          obtain ⟨y, hy⟩ : ∃ y, ks[m]? = some y := ⟨_, List.getElem?_eq_getElem hlm⟩
          have HM := Lib.hid (memB_take ks key m y hy)
          have J1 := Lib.hid (fun (w3 : World) (hw : Ge wr w3) => ((hgm.trans hw).cell (p := ⟨b2, o2 + m, none⟩) hb2).trans (hc2 m y hy))
          have J2 := Lib.hid (fun (w3 : World) (hw : Ge wr w3) => HCK.out w3 (hgm.trans hw))
          have j1 : (0 : Int) ≤ (m : Int) := by omega
          have j2 : (m : Int) < (ks.length : Int) := by omega
          have hyx : (y == key) = (key == y) := by rw [Bool.eq_iff_iff]; simp; exact eq_comm
          rw [← hyx] at HM
          clear hc2 hy hci hgm hyx
          obtain ⟨sq, hsq⟩ : ∃ sq : Bool, sq = (sb || memB (ks.take m) key) := ⟨_, rfl⟩
          rw [← hsq]
          have HSQ := Lib.hid hsq
          clear hsq
          cases sq with
          | true =>
            have z1 := J1.out wr (Ge.refl _)
            have z2 := J2.out wr (Ge.refl _)
            go_wp2
            go_quiet (fail)
            have HE := Lib.hid (show true = (sb || memB (ks.take (m + 1)) key) by rw [HM.out, ← Bool.or_assoc, ← HSQ.out]; rfl)
            go_wp2
            exact ⟨⟨m + 1, by omega, by go_num, by rw [← HE.out], HGM.out.trans (Ge.drewN _ _)⟩, by simp [intOf]; omega⟩
          | false =>
            have z1 := J1.out wr (Ge.refl _)
            have z2 := J2.out wr (Ge.refl _)
            go_wp2
            go_quiet (fail)
            have HE := Lib.hid (show (y == key) = (sb || memB (ks.take (m + 1)) key) by rw [HM.out, ← Bool.or_assoc, ← HSQ.out]; rfl)
            go_wp2
            exact ⟨⟨m + 1, by omega, by go_num, by rw [← HE.out], HGM.out.trans (Ge.drewN _ _)⟩, by simp [intOf]; omega⟩
        · have hmk : m = ks.length := by omega
          rw [hmk, List.take_length]
          have HOW3 := Lib.hid (show OwnI wr w.heap.size (.slice A2 ks.length c2) ks from ownsRow_ge HOW.out hgm)
          have HG4 := Lib.hid (Ge.trans HGE.out hgm)
          have c0 := HCK.out wr hgm
          have lb2 : b < wr.heap.size := Nat.lt_of_lt_of_le lb hgm.size
          clear hgm hmk
          cases hq : (sb || memB ks key) with
          | true =>
            have hnx2 := HNX.out
            rw [hq] at hnx2
            simp only [Bool.not_true, Bool.false_eq_true, if_false] at hnx2
            have HN2 := Lib.hid hnx2
            clear hnx2 hq
            go_wp2
            go_roundw
            case rel => exact ⟨k + 1, A2, c2, by omega, by go_num, by rw [HN2.out], by rw [HN2.out]; exact HOW3.out, HG4.out⟩
            case measure => simp [intOf]; omega
          | false =>
            have hnx2 := HNX.out
            rw [hq] at hnx2
            simp only [Bool.not_false, if_true] at hnx2
            have HN2 := Lib.hid hnx2
            clear hnx2 hq
            have C1 := Lib.hid (show w.heap.size ≤ (wr.alloc (.cells #[.int .i64 key] 2)).heap.size by have := HG4.out.size; simp; omega)
            have HROW := Lib.hid (World.ownsRow.alloc HOW3.out (.cells #[.int .i64 key] 2))
            have hkl2 := HKL.out
            go_wp2_with (at_builtin; refine wpList_append_lies _ rfl (.tmp 53) (.tmp 59) 50 rfl w.heap.size 2 i0 _ 1 8 Tryd.underlying50 hi0 hz0 hz1 hz2 rfl (by decide) _ _ _ rfl HROW.out ⟨wr.heap.size, 0, none⟩ 1 1 [.int .i64 key] rfl rfl (World.news_of_block (cs := #[.int .i64 key]) (t := 2) (fr := (0, 0)) (heap_alloc_new wr _)) (by simp [Value.oneCell']) (by omega) (by simp only [maxLen]; omega) (by omega) C1.out _ rfl ?_; intro gg cap4 w6 hown6 hgrow6 hat6 hlt6; have HOW6 := Lib.hid hown6; have G6 := Lib.hid (ge_own (Ge.alloc HG4.out (.cells #[.int .i64 key] 2)) HROW.out (Nat.le_refl _) hgrow6); clear hown6 hgrow6 hat6 hlt6)
            go_roundw
            case rel =>
              have hlen : (keysL worker workers (rs.take (k + 1))).length = ks.length + 1 := by rw [HN2.out]; simp
              refine ⟨k + 1, some ⟨gg, 0, none⟩, cap4, by omega, by go_num, by rw [hlen], ?_, G6.out⟩
              rw [hlen, HN2.out]
              unfold OwnI
              rw [List.length_append, List.map_append]
              exact HOW6.out
            case measure => simp [intOf]; omega
    · have hkl : k = rs.length := by omega
      subst hkl
      rw [List.take_length] at HIA ⊢
      clear hge
      go_wp2
      go_returns
      exact ⟨_, rfl, HIA.out, HGE.out⟩
end Go.Proofs.YtidblliobkjeeaaDoor
