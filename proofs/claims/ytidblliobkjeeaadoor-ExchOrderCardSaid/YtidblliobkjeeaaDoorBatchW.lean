/-
  Batches: the walks.
-/
import Derived.Test.YtidblliobkjeeaaDoorBatch
namespace Go.Proofs.YtidblliobkjeeaaDoor
open Go.RowKit

/-- pieces that have been put, each in memory of its own -/
def Putd (w : World) (us : List Value) (bs : List (List Rc)) : Prop := us.length = bs.length ∧ ∀ (j : Nat) (p : List Rc) (u : Value), bs[j]? = some p → us[j]? = some u → Own1 w u p
theorem Putd.ge {w w' : World} {us : List Value} {bs : List (List Rc)} (h : Putd w us bs) (hg : Ge w w') : Putd w' us bs := ⟨h.1, fun j p u h1 h2 => (h.2 j p u h1 h2).ge hg⟩
theorem snoc_get {α : Type} {xs : List α} {x y : α} {j : Nat} (h : (xs ++ [x])[j]? = some y) : (j < xs.length ∧ xs[j]? = some y) ∨ (j = xs.length ∧ y = x) := by
  rcases Nat.lt_or_ge j xs.length with hj | hj
  · rw [List.getElem?_append_left hj] at h
    exact .inl ⟨hj, h⟩
  · rw [List.getElem?_append_right hj] at h
    have : j - xs.length = 0 := by
      rcases Nat.eq_zero_or_pos (j - xs.length) with h0 | h0
      · exact h0
      · rw [List.getElem?_eq_none (by simp; omega)] at h; cases h
    rw [this] at h
    simp at h
    exact .inr ⟨by omega, h.symm⟩
theorem Putd.snoc {w : World} {us : List Value} {bs : List (List Rc)} {u : Value} {p : List Rc} (h : Putd w us bs) (hu : Own1 w u p) : Putd w (us ++ [u]) (bs ++ [p]) := by
  refine ⟨by simp [h.1], fun j q v h1 h2 => ?_⟩
  rcases snoc_get h1 with ⟨hj, e1⟩ | ⟨hj, rfl⟩
  · rcases snoc_get h2 with ⟨_, e2⟩ | ⟨hj2, _⟩
    · exact h.2 j q v e1 e2
    · have := h.1; omega
  · rcases snoc_get h2 with ⟨hj2, _⟩ | ⟨_, rfl⟩
    · have := h.1; omega
    · exact hu

theorem Own1.kept {w w1 : World} {g : Nat} {u : Value} {p : List Rc} (h : Own1 w u p) (hg : w.grownBy w1 (some g)) (hne : u.ownBlock ≠ some g) : Own1 w1 u p := by
  obtain ⟨b, h⟩ := h
  exact ⟨b, World.ownsRow.kept h hg (.inr hne)⟩
/-- two rows of unlike types lie apart -/
theorem rows_apart {w : World} {b1 b2 : Nat} {e1 e2 : TypeId} {s1 s2 n1 n2 : Nat} {v1 v2 : Value} {x1 x2 : List Value} (h1 : w.ownsRow b1 e1 s1 v1 n1 x1) (h2 : w.ownsRow b2 e2 s2 v2 n2 x2) (hte : e1 ≠ e2) : v1.ownBlock = none ∨ v1.ownBlock ≠ v2.ownBlock := by
  rcases h1.2 with ⟨rfl, _⟩ | ⟨g, cap, cur, rfl, _, hh, _⟩
  · exact .inl rfl
  · refine .inr fun e' => ?_
    rcases h2.2 with ⟨rfl, _⟩ | ⟨g', cap', cur', rfl, _, hh', _⟩
    · simp [Value.ownBlock] at e'
    · simp [Value.ownBlock] at e'
      subst e'
      rw [hh] at hh'
      have := Option.some.inj hh'
      simp at this
      exact hte this.2

/-- v is a row of the call's own that reads as these pieces -/
def BatchesAt (w : World) (v : Value) (bs : List (List Rc)) : Prop := ∃ (base : Nat) (us : List Value) (A : Option Addr) (cap : Nat), v = .slice A us.length cap ∧ w.ownsRow base 28 1 (.slice A us.length cap) us.length us ∧ Putd w us bs
theorem batches_of {w : World} {base : Nat} {A : Option Addr} {cap : Nat} {us : List Value} {bs : List (List Rc)} (hown : w.ownsRow base 28 1 (.slice A us.length cap) us.length us) (hul : us.length = bs.length)
    (hr : ∀ (j : Nat) (p : List Rc) (u : Value), bs[j]? = some p → us[j]? = some u → Own1 w u p) : BatchesAt w (.slice A us.length cap) bs := ⟨base, us, A, cap, rfl, hown, hul, hr⟩

theorem ownsRow_ge {w w' : World} {base : Nat} {e : TypeId} {size n : Nat} {v : Value} {xs : List Value} (h : w.ownsRow base e size v n xs) (hg : Ge w w') : w'.ownsRow base e size v n xs := by
  refine ⟨h.1, ?_⟩
  rcases h.2 with h2 | ⟨g, cap, cur, hv, hb, hh, r⟩
  · exact Or.inl h2
  · exact Or.inr ⟨g, cap, cur, hv, hb, (hg.block g (Array.getElem?_eq_some_iff.1 hh).1).trans hh, r⟩
theorem putd_app {w w1 : World} {base n : Nat} {v u : Value} {us xs : List Value} {bs : List (List Rc)} {p : List Rc} {o : Obj} (h : Putd w us bs) (hv : w.ownsRow base 28 1 v n xs) (hu : Own1 w u p) (hg : (w.alloc o).grownBy w1 v.ownBlock) : Putd w1 (us ++ [u]) (bs ++ [p]) := by
  have h1 := (h.ge ((Ge.refl w).alloc o)).snoc (hu.ge ((Ge.refl w).alloc o))
  refine ⟨h1.1, fun j q z e1 e2 => (h1.2 j q z e1 e2).grown (hv.alloc o) hg (by decide)⟩

theorem Putd.grown {w w1 : World} {base : Nat} {e : TypeId} {size n : Nat} {v : Value} {xs : List Value} {us : List Value} {bs : List (List Rc)} (h : Putd w us bs) (hv : w.ownsRow base e size v n xs) (hg : w.grownBy w1 v.ownBlock) (hte : e ≠ 32) : Putd w1 us bs :=
  ⟨h.1, fun j p u h1 h2 => (h.2 j p u h1 h2).grown hv hg hte⟩
theorem BatchesAt.ge {w w' : World} {v : Value} {bs : List (List Rc)} (h : BatchesAt w v bs) (hg : Ge w w') : BatchesAt w' v bs := by
  obtain ⟨base, us, A, cap, rfl, h1, h2⟩ := h
  exact ⟨base, us, A, cap, rfl, ownsRow_ge h1 hg, h2.ge hg⟩
theorem BatchesAt.grown {w w1 : World} {base : Nat} {e : TypeId} {size n : Nat} {v vb : Value} {xs : List Value} {bs : List (List Rc)} (h : BatchesAt w vb bs) (hv : w.ownsRow base e size v n xs) (hg : w.grownBy w1 v.ownBlock) (hte : e ≠ 32) (hte2 : e ≠ 28) : BatchesAt w1 vb bs := by
  obtain ⟨b0, us, A, cap, rfl, h1, h2⟩ := h
  exact ⟨b0, us, A, cap, rfl, World.ownsRow.kept h1 hg (rows_apart h1 hv (Ne.symm hte2)), h2.grown hv hg hte⟩

set_option maxHeartbeats 4000000 in
theorem batches_any {w : World} {v : Value} {rs : List Rc} (h : RecsAt w v rs) (hl : rs.length ≤ 1000000) :
    Calls Tryd.prog 25 #[v] w fun e w' => ∃ v', e = .returned v' ∧ BatchesAt w' v' (batL rs) ∧ Ge w w' := by
  have H := Lib.hid h
  obtain ⟨A, cap, rfl, -⟩ := h
  obtain ⟨i0, hi0, hz0, hz1, hz2⟩ := info_parts info28
  go_enter Tryd.func25, Tryd.ntmps25
  go_wp2
  go_loopw [0, 3] (fun l out wr => ∃ (rest : List Rc) (pre : List (List Rc)) (us : List Value) (A1 : Option Addr) (c1 : Nat) (A2 : Option Addr) (c2 : Nat), l = .slice A1 rest.length c1 ∧ out = .slice A2 us.length c2 ∧ rest.length ≤ rs.length ∧ us.length + rest.length ≤ rs.length ∧
    RecsAt w (.slice A1 rest.length c1) rest ∧ wr.ownsRow w.heap.size 28 1 (.slice A2 us.length c2) us.length us ∧ Putd wr us pre ∧ pre ++ batL rest = batL rs ∧ Ge w wr)
    (fun l _ _ => match l with | .slice _ m _ => m | _ => 0)
  case atStart => exact ⟨rs, [], [], A, cap, none, 0, rfl, rfl, Nat.le_refl _, by simp, H.out, World.ownsRow_nil _ _ _ _, ⟨rfl, fun j p u h => by simp at h⟩, rfl, Ge.refl _⟩
  case round =>
    obtain ⟨rest, pre, us, A1, c1, A2, c2, rfl, rfl, hrl, hul, hre, hown, hput, hbat, hge⟩ := hrel
    have HRE := Lib.hid hre
    have HOW := Lib.hid hown
    have HPU := Lib.hid hput
    have HBA := Lib.hid hbat
    have HGE := Lib.hid hge
    have hb := batL_eq rest
    clear hown hput hbat
    by_cases hpos : 0 < rest.length
    · rw [if_neg (by omega)] at hb
      have HB := Lib.hid hb
      clear hb
      obtain ⟨k, hk⟩ : ∃ k, k = (rest.take 64).length := ⟨_, rfl⟩
      have hk' : k = if rest.length ≤ 64 then rest.length else 64 := by rw [hk]; simp; split <;> omega
      have hkle : k ≤ rest.length := by rw [hk']; split <;> omega
      have hk1 : 1 ≤ k := by rw [hk']; split <;> omega
      have ht : rest.take k = rest.take 64 := by
        rw [hk']
        split
        · rw [List.take_of_length_le (Nat.le_refl _), List.take_of_length_le (by assumption)]
        · rfl
      have hd : rest.drop k = rest.drop 64 := by
        rw [hk']
        split
        · rw [List.drop_eq_nil_of_le (Nat.le_refl _), List.drop_eq_nil_of_le (by assumption)]
        · rfl
      have hT := take_run hre hkle
      obtain ⟨A3, c3, hD, hDR⟩ := hre.drop_run hkle
      have hTR := hre.take hkle
      rw [ht] at hTR
      rw [hd] at hDR
      have HDR := Lib.hid hDR
      have HC := Lib.hid (clone_any (hTR.ge hge) (by rw [← hk]; omega))
      have hmin : min (rest.length : Int) 64 = (k : Int) := by rw [hk']; split <;> omega
      have hdl : (rest.drop 64).length = rest.length - k := by rw [← hd]; simp
      have HDL := Lib.hid hdl
      clear hTR hDR hre hge hk hk' ht hd hdl
      go_wp2_with fail
      refine HC.out.mono ?_
      rintro e w3 ⟨v3, rfl, hown3, hg3⟩
      obtain ⟨A4, c4, hv3⟩ := hown3.form
      have HR3 := Lib.hid (show Own1 w3 v3 (rest.take 64) from ⟨_, hown3⟩)
      rw [hv3] at HR3
      subst hv3
      have G3 := Lib.hid (Ge.trans HGE.out hg3)
      have HOW3 := Lib.hid (show w3.ownsRow w.heap.size 28 1 (.slice A2 us.length c2) us.length us from ownsRow_ge HOW.out hg3)
      have HPU3 := Lib.hid (HPU.out.ge hg3)
      clear hown3 hg3 HOW HPU HGE HC hT
      obtain ⟨lq, hlq⟩ : ∃ lq, lq = (rest.take 64).length := ⟨_, rfl⟩
      rw [← hlq] at HR3
      rw [← hlq]
      clear hlq
      have C1 := Lib.hid (show w.heap.size ≤ (w3.alloc (.cells #[.slice A4 lq c4] 28)).heap.size by have := G3.out.size; simp; omega)
      have HROW := Lib.hid (HOW3.out.alloc (.cells #[.slice A4 lq c4] 28))
      go_wp2_with (at_builtin; refine wpList_append_lies _ rfl (.tmp 11) (.tmp 16) 60 rfl w.heap.size 28 i0 _ 1 24 Tryd.underlying60 hi0 hz0 hz1 hz2 rfl (by decide) _ _ _ rfl HROW.out ⟨w3.heap.size, 0, none⟩ 1 1 [.slice A4 lq c4] rfl rfl (World.news_of_block (cs := #[.slice A4 lq c4]) (t := 28) (fr := (0, 0)) (heap_alloc_new w3 _)) (by simp [Value.oneCell']) (by omega) (by simp only [maxLen]; omega) (by omega) C1.out _ rfl ?_; intro gg cap4 w5 hown5 hgrow5 hat5 hlt5; have HOW5 := Lib.hid hown5; have G5 := Lib.hid (ge_own (Ge.alloc G3.out (.cells #[.slice A4 lq c4] 28)) HROW.out (Nat.le_refl _) hgrow5); have HP5 := Lib.hid (putd_app HPU3.out HOW3.out HR3.out hgrow5); clear hown5 hgrow5 hat5 hlt5)
      go_roundw
      case rel =>
        refine ⟨rest.drop 64, pre ++ [rest.take 64], us ++ [.slice A4 lq c4], A3, c3, some ⟨gg, 0, none⟩, cap4, ?_, by simp, ?_, ?_, ?_, by simpa using HOW5.out, HP5.out, ?_, G5.out⟩
        · rw [HDL.out]
        · rw [HDL.out]; omega
        · rw [List.length_append, HDL.out]
          show us.length + 1 + (rest.length - k) ≤ rs.length
          omega
        · rw [HDL.out]; exact HDR.out
        · have := HBA.out
          rw [HB.out] at this
          simpa using this
      case measure =>
        show rest.length - k < rest.length
        omega
    · have hz : rest.length = 0 := by omega
      rw [if_pos hz] at hb
      have HB := Lib.hid hb
      have hd : decide (0 < rest.length) = false := decide_eq_false hpos
      clear hb hz hpos hre hge
      go_wp2
      go_returns
      refine ⟨_, rfl, ?_, HGE.out⟩
      have := HBA.out
      rw [HB.out, List.append_nil] at this
      rw [← this]
      exact batches_of HOW.out HPU.out.1 HPU.out.2
end Go.Proofs.YtidblliobkjeeaaDoor
