/-
  slices.Clone, at each element type.
-/
import Derived.Test.YtmhibpmgnicolaaDoorEqs
namespace Go.Proofs.YtmhibpmgnicolaaDoor
open Go.RowKit

/-- cells as they lie -/
abbrev Cs (n : Nat) := {l : List Value // l.length = n}
def eMw : Elem (Cs 19) where
  S := 72
  T := 45
  k := 19
  bytes := 248
  enc := fun x => x.1
  z := .agg #[.int .i64 0, .int .i64 0, .int .i64 0, .int .i64 0, .int .i64 0, .int .i64 0, .int .i64 0, .int .i64 0, .int .i64 0, .int .i64 0, .slice none 0 0, .slice none 0 0, .slice none 0 0, .slice none 0 0, .slice none 0 0, .int .i64 0, .slice none 0 0, .bool false, .int .i64 0]
  hS := Tryd.underlying72
  info := by kernel_rfl
  hzs := rfl
  hk := by decide
  hb := by decide
  hlen := fun x => x.2
def eRw : Elem (Cs 3) where
  S := 56
  T := 87
  k := 3
  bytes := 40
  enc := fun x => x.1
  z := .agg #[.slice none 0 0, .int .i64 0, .int .i64 0]
  hS := Tryd.underlying56
  info := by kernel_rfl
  hzs := rfl
  hk := by decide
  hb := by decide
  hlen := fun x => x.2

set_option maxHeartbeats 1000000 in
theorem cloneR {w : World} {v : Value} {xs : List (Rc)} (h : SrcAt eR w v xs) (hl : xs.length ≤ 1000000000) :
    Calls Tryd.prog 45 #[v] w fun e w' => ∃ v', e = .returned v' ∧ OwnL eR w' w.heap.size v' xs ∧ Ge w w' := by
  have HB := Lib.hid h
  have q := fun (w : World) (a : Option Addr) (n c n' c' : Nat) => Lib.run_eql_slice_nil (P := Tryd.prog) w 36 80 a n c n' c' Tryd.underlying36
  obtain ⟨⟨A, cap, rfl, hc⟩, hone⟩ := h
  clear hone
  cases A with
  | none =>
    have hy : xs = [] := by
      rcases xs with _ | ⟨y, ys⟩
      · rfl
      · obtain ⟨b, off, h, _⟩ := hc (by simp)
        cases h
    subst hy
    clear hc
    go_enter Tryd.func45, Tryd.ntmps45
    go_wp2
    go_returns
    exact ⟨_, rfl, World.ownsRow_nil _ _ _ _, Ge.refl _⟩
  | some a =>
    clear hc
    have hown1 : OwnL eR (w.alloc (.cells #[] 80)) w.heap.size (.slice (some ⟨w.heap.size, 0, none⟩) 0 0) [] := World.ownsRow_made w #[] 0 (Nat.le_refl _) (Nat.zero_le _) rfl
    have H1 := Lib.hid hown1
    have HB1 := Lib.hid (HB.out.ge ((Ge.refl w).alloc (.cells #[] 80)))
    have C1 := Lib.hid (show ([] : List (Rc)).length + xs.length ≤ 100000000000 by simp; omega)
    have C2 := Lib.hid (show w.heap.size ≤ (w.alloc (.cells #[] 80)).heap.size by simp)
    clear hown1
    go_enter Tryd.func45, Tryd.ntmps45
    go_wp2_with (at_builtin; refine wpList_appL eR rfl (.tmp 5) (.tmp 6) rfl rfl rfl H1.out HB1.out C1.out C2.out ?_; intro v' w1 hown hgrow; have HO := Lib.hid hown; have HG := Lib.hid hgrow; clear hown hgrow)
    go_returns
    exact ⟨_, rfl, HO.out, ge_own ((Ge.refl w).alloc _) H1.out (Nat.le_refl _) HG.out⟩

set_option maxHeartbeats 1000000 in
theorem cloneC {w : World} {v : Value} {xs : List (Chg)} (h : SrcAt eC w v xs) (hl : xs.length ≤ 1000000000) :
    Calls Tryd.prog 46 #[v] w fun e w' => ∃ v', e = .returned v' ∧ OwnL eC w' w.heap.size v' xs ∧ Ge w w' := by
  have HB := Lib.hid h
  have q := fun (w : World) (a : Option Addr) (n c n' c' : Nat) => Lib.run_eql_slice_nil (P := Tryd.prog) w 37 101 a n c n' c' Tryd.underlying37
  obtain ⟨⟨A, cap, rfl, hc⟩, hone⟩ := h
  clear hone
  cases A with
  | none =>
    have hy : xs = [] := by
      rcases xs with _ | ⟨y, ys⟩
      · rfl
      · obtain ⟨b, off, h, _⟩ := hc (by simp)
        cases h
    subst hy
    clear hc
    go_enter Tryd.func46, Tryd.ntmps46
    go_wp2
    go_returns
    exact ⟨_, rfl, World.ownsRow_nil _ _ _ _, Ge.refl _⟩
  | some a =>
    clear hc
    have hown1 : OwnL eC (w.alloc (.cells #[] 101)) w.heap.size (.slice (some ⟨w.heap.size, 0, none⟩) 0 0) [] := World.ownsRow_made w #[] 0 (Nat.le_refl _) (Nat.zero_le _) rfl
    have H1 := Lib.hid hown1
    have HB1 := Lib.hid (HB.out.ge ((Ge.refl w).alloc (.cells #[] 101)))
    have C1 := Lib.hid (show ([] : List (Chg)).length + xs.length ≤ 100000000000 by simp; omega)
    have C2 := Lib.hid (show w.heap.size ≤ (w.alloc (.cells #[] 101)).heap.size by simp)
    clear hown1
    go_enter Tryd.func46, Tryd.ntmps46
    go_wp2_with (at_builtin; refine wpList_appL eC rfl (.tmp 5) (.tmp 6) rfl rfl rfl H1.out HB1.out C1.out C2.out ?_; intro v' w1 hown hgrow; have HO := Lib.hid hown; have HG := Lib.hid hgrow; clear hown hgrow)
    go_returns
    exact ⟨_, rfl, HO.out, ge_own ((Ge.refl w).alloc _) H1.out (Nat.le_refl _) HG.out⟩

set_option maxHeartbeats 1000000 in
theorem cloneE {w : World} {v : Value} {xs : List (Ent)} (h : SrcAt eE w v xs) (hl : xs.length ≤ 1000000000) :
    Calls Tryd.prog 47 #[v] w fun e w' => ∃ v', e = .returned v' ∧ OwnL eE w' w.heap.size v' xs ∧ Ge w w' := by
  have HB := Lib.hid h
  have q := fun (w : World) (a : Option Addr) (n c n' c' : Nat) => Lib.run_eql_slice_nil (P := Tryd.prog) w 43 104 a n c n' c' Tryd.underlying43
  obtain ⟨⟨A, cap, rfl, hc⟩, hone⟩ := h
  clear hone
  cases A with
  | none =>
    have hy : xs = [] := by
      rcases xs with _ | ⟨y, ys⟩
      · rfl
      · obtain ⟨b, off, h, _⟩ := hc (by simp)
        cases h
    subst hy
    clear hc
    go_enter Tryd.func47, Tryd.ntmps47
    go_wp2
    go_returns
    exact ⟨_, rfl, World.ownsRow_nil _ _ _ _, Ge.refl _⟩
  | some a =>
    clear hc
    have hown1 : OwnL eE (w.alloc (.cells #[] 104)) w.heap.size (.slice (some ⟨w.heap.size, 0, none⟩) 0 0) [] := World.ownsRow_made w #[] 0 (Nat.le_refl _) (Nat.zero_le _) rfl
    have H1 := Lib.hid hown1
    have HB1 := Lib.hid (HB.out.ge ((Ge.refl w).alloc (.cells #[] 104)))
    have C1 := Lib.hid (show ([] : List (Ent)).length + xs.length ≤ 100000000000 by simp; omega)
    have C2 := Lib.hid (show w.heap.size ≤ (w.alloc (.cells #[] 104)).heap.size by simp)
    clear hown1
    go_enter Tryd.func47, Tryd.ntmps47
    go_wp2_with (at_builtin; refine wpList_appL eE rfl (.tmp 5) (.tmp 6) rfl rfl rfl H1.out HB1.out C1.out C2.out ?_; intro v' w1 hown hgrow; have HO := Lib.hid hown; have HG := Lib.hid hgrow; clear hown hgrow)
    go_returns
    exact ⟨_, rfl, HO.out, ge_own ((Ge.refl w).alloc _) H1.out (Nat.le_refl _) HG.out⟩

set_option maxHeartbeats 1000000 in
theorem cloneI {w : World} {v : Value} {xs : List (Int)} (h : SrcAt eI w v xs) (hl : xs.length ≤ 1000000000) :
    Calls Tryd.prog 48 #[v] w fun e w' => ∃ v', e = .returned v' ∧ OwnL eI w' w.heap.size v' xs ∧ Ge w w' := by
  have HB := Lib.hid h
  have q := fun (w : World) (a : Option Addr) (n c n' c' : Nat) => Lib.run_eql_slice_nil (P := Tryd.prog) w 38 3 a n c n' c' Tryd.underlying38
  obtain ⟨⟨A, cap, rfl, hc⟩, hone⟩ := h
  clear hone
  cases A with
  | none =>
    have hy : xs = [] := by
      rcases xs with _ | ⟨y, ys⟩
      · rfl
      · obtain ⟨b, off, h, _⟩ := hc (by simp)
        cases h
    subst hy
    clear hc
    go_enter Tryd.func48, Tryd.ntmps48
    go_wp2
    go_returns
    exact ⟨_, rfl, World.ownsRow_nil _ _ _ _, Ge.refl _⟩
  | some a =>
    clear hc
    have hown1 : OwnL eI (w.alloc (.cells #[] 3)) w.heap.size (.slice (some ⟨w.heap.size, 0, none⟩) 0 0) [] := World.ownsRow_made w #[] 0 (Nat.le_refl _) (Nat.zero_le _) rfl
    have H1 := Lib.hid hown1
    have HB1 := Lib.hid (HB.out.ge ((Ge.refl w).alloc (.cells #[] 3)))
    have C1 := Lib.hid (show ([] : List (Int)).length + xs.length ≤ 100000000000 by simp; omega)
    have C2 := Lib.hid (show w.heap.size ≤ (w.alloc (.cells #[] 3)).heap.size by simp)
    clear hown1
    go_enter Tryd.func48, Tryd.ntmps48
    go_wp2_with (at_builtin; refine wpList_appL eI rfl (.tmp 5) (.tmp 6) rfl rfl rfl H1.out HB1.out C1.out C2.out ?_; intro v' w1 hown hgrow; have HO := Lib.hid hown; have HG := Lib.hid hgrow; clear hown hgrow)
    go_returns
    exact ⟨_, rfl, HO.out, ge_own ((Ge.refl w).alloc _) H1.out (Nat.le_refl _) HG.out⟩

set_option maxHeartbeats 1000000 in
theorem cloneM {w : World} {v : Value} {xs : List (Mov)} (h : SrcAt eM w v xs) (hl : xs.length ≤ 1000000000) :
    Calls Tryd.prog 50 #[v] w fun e w' => ∃ v', e = .returned v' ∧ OwnL eM w' w.heap.size v' xs ∧ Ge w w' := by
  have HB := Lib.hid h
  have q := fun (w : World) (a : Option Addr) (n c n' c' : Nat) => Lib.run_eql_slice_nil (P := Tryd.prog) w 40 109 a n c n' c' Tryd.underlying40
  obtain ⟨⟨A, cap, rfl, hc⟩, hone⟩ := h
  clear hone
  cases A with
  | none =>
    have hy : xs = [] := by
      rcases xs with _ | ⟨y, ys⟩
      · rfl
      · obtain ⟨b, off, h, _⟩ := hc (by simp)
        cases h
    subst hy
    clear hc
    go_enter Tryd.func50, Tryd.ntmps50
    go_wp2
    go_returns
    exact ⟨_, rfl, World.ownsRow_nil _ _ _ _, Ge.refl _⟩
  | some a =>
    clear hc
    have hown1 : OwnL eM (w.alloc (.cells #[] 109)) w.heap.size (.slice (some ⟨w.heap.size, 0, none⟩) 0 0) [] := World.ownsRow_made w #[] 0 (Nat.le_refl _) (Nat.zero_le _) rfl
    have H1 := Lib.hid hown1
    have HB1 := Lib.hid (HB.out.ge ((Ge.refl w).alloc (.cells #[] 109)))
    have C1 := Lib.hid (show ([] : List (Mov)).length + xs.length ≤ 100000000000 by simp; omega)
    have C2 := Lib.hid (show w.heap.size ≤ (w.alloc (.cells #[] 109)).heap.size by simp)
    clear hown1
    go_enter Tryd.func50, Tryd.ntmps50
    go_wp2_with (at_builtin; refine wpList_appL eM rfl (.tmp 5) (.tmp 6) rfl rfl rfl H1.out HB1.out C1.out C2.out ?_; intro v' w1 hown hgrow; have HO := Lib.hid hown; have HG := Lib.hid hgrow; clear hown hgrow)
    go_returns
    exact ⟨_, rfl, HO.out, ge_own ((Ge.refl w).alloc _) H1.out (Nat.le_refl _) HG.out⟩

set_option maxHeartbeats 1000000 in
theorem cloneN {w : World} {v : Value} {xs : List (Nrw)} (h : SrcAt eN w v xs) (hl : xs.length ≤ 1000000000) :
    Calls Tryd.prog 63 #[v] w fun e w' => ∃ v', e = .returned v' ∧ OwnL eN w' w.heap.size v' xs ∧ Ge w w' := by
  have HB := Lib.hid h
  have q := fun (w : World) (a : Option Addr) (n c n' c' : Nat) => Lib.run_eql_slice_nil (P := Tryd.prog) w 39 84 a n c n' c' Tryd.underlying39
  obtain ⟨⟨A, cap, rfl, hc⟩, hone⟩ := h
  clear hone
  cases A with
  | none =>
    have hy : xs = [] := by
      rcases xs with _ | ⟨y, ys⟩
      · rfl
      · obtain ⟨b, off, h, _⟩ := hc (by simp)
        cases h
    subst hy
    clear hc
    go_enter Tryd.func63, Tryd.ntmps63
    go_wp2
    go_returns
    exact ⟨_, rfl, World.ownsRow_nil _ _ _ _, Ge.refl _⟩
  | some a =>
    clear hc
    have hown1 : OwnL eN (w.alloc (.cells #[] 84)) w.heap.size (.slice (some ⟨w.heap.size, 0, none⟩) 0 0) [] := World.ownsRow_made w #[] 0 (Nat.le_refl _) (Nat.zero_le _) rfl
    have H1 := Lib.hid hown1
    have HB1 := Lib.hid (HB.out.ge ((Ge.refl w).alloc (.cells #[] 84)))
    have C1 := Lib.hid (show ([] : List (Nrw)).length + xs.length ≤ 100000000000 by simp; omega)
    have C2 := Lib.hid (show w.heap.size ≤ (w.alloc (.cells #[] 84)).heap.size by simp)
    clear hown1
    go_enter Tryd.func63, Tryd.ntmps63
    go_wp2_with (at_builtin; refine wpList_appL eN rfl (.tmp 5) (.tmp 6) rfl rfl rfl H1.out HB1.out C1.out C2.out ?_; intro v' w1 hown hgrow; have HO := Lib.hid hown; have HG := Lib.hid hgrow; clear hown hgrow)
    go_returns
    exact ⟨_, rfl, HO.out, ge_own ((Ge.refl w).alloc _) H1.out (Nat.le_refl _) HG.out⟩

set_option maxHeartbeats 1000000 in
theorem cloneMw {w : World} {v : Value} {xs : List (Cs 19)} (h : SrcAt eMw w v xs) (hl : xs.length ≤ 1000000000) :
    Calls Tryd.prog 30 #[v] w fun e w' => ∃ v', e = .returned v' ∧ OwnL eMw w' w.heap.size v' xs ∧ Ge w w' := by
  have HB := Lib.hid h
  have q := fun (w : World) (a : Option Addr) (n c n' c' : Nat) => Lib.run_eql_slice_nil (P := Tryd.prog) w 72 45 a n c n' c' Tryd.underlying72
  obtain ⟨⟨A, cap, rfl, hc⟩, hone⟩ := h
  clear hone
  cases A with
  | none =>
    have hy : xs = [] := by
      rcases xs with _ | ⟨y, ys⟩
      · rfl
      · obtain ⟨b, off, h, _⟩ := hc (by simp)
        cases h
    subst hy
    clear hc
    go_enter Tryd.func30, Tryd.ntmps30
    go_wp2
    go_returns
    exact ⟨_, rfl, World.ownsRow_nil _ _ _ _, Ge.refl _⟩
  | some a =>
    clear hc
    have hown1 : OwnL eMw (w.alloc (.cells #[] 45)) w.heap.size (.slice (some ⟨w.heap.size, 0, none⟩) 0 0) [] := World.ownsRow_made w #[] 0 (Nat.le_refl _) (Nat.zero_le _) rfl
    have H1 := Lib.hid hown1
    have HB1 := Lib.hid (HB.out.ge ((Ge.refl w).alloc (.cells #[] 45)))
    have C1 := Lib.hid (show ([] : List (Cs 19)).length + xs.length ≤ 100000000000 by simp; omega)
    have C2 := Lib.hid (show w.heap.size ≤ (w.alloc (.cells #[] 45)).heap.size by simp)
    clear hown1
    go_enter Tryd.func30, Tryd.ntmps30
    go_wp2_with (at_builtin; refine wpList_appL eMw rfl (.tmp 5) (.tmp 6) rfl rfl rfl H1.out HB1.out C1.out C2.out ?_; intro v' w1 hown hgrow; have HO := Lib.hid hown; have HG := Lib.hid hgrow; clear hown hgrow)
    go_returns
    exact ⟨_, rfl, HO.out, ge_own ((Ge.refl w).alloc _) H1.out (Nat.le_refl _) HG.out⟩

set_option maxHeartbeats 1000000 in
theorem cloneRw {w : World} {v : Value} {xs : List (Cs 3)} (h : SrcAt eRw w v xs) (hl : xs.length ≤ 1000000000) :
    Calls Tryd.prog 29 #[v] w fun e w' => ∃ v', e = .returned v' ∧ OwnL eRw w' w.heap.size v' xs ∧ Ge w w' := by
  have HB := Lib.hid h
  have q := fun (w : World) (a : Option Addr) (n c n' c' : Nat) => Lib.run_eql_slice_nil (P := Tryd.prog) w 56 87 a n c n' c' Tryd.underlying56
  obtain ⟨⟨A, cap, rfl, hc⟩, hone⟩ := h
  clear hone
  cases A with
  | none =>
    have hy : xs = [] := by
      rcases xs with _ | ⟨y, ys⟩
      · rfl
      · obtain ⟨b, off, h, _⟩ := hc (by simp)
        cases h
    subst hy
    clear hc
    go_enter Tryd.func29, Tryd.ntmps29
    go_wp2
    go_returns
    exact ⟨_, rfl, World.ownsRow_nil _ _ _ _, Ge.refl _⟩
  | some a =>
    clear hc
    have hown1 : OwnL eRw (w.alloc (.cells #[] 87)) w.heap.size (.slice (some ⟨w.heap.size, 0, none⟩) 0 0) [] := World.ownsRow_made w #[] 0 (Nat.le_refl _) (Nat.zero_le _) rfl
    have H1 := Lib.hid hown1
    have HB1 := Lib.hid (HB.out.ge ((Ge.refl w).alloc (.cells #[] 87)))
    have C1 := Lib.hid (show ([] : List (Cs 3)).length + xs.length ≤ 100000000000 by simp; omega)
    have C2 := Lib.hid (show w.heap.size ≤ (w.alloc (.cells #[] 87)).heap.size by simp)
    clear hown1
    go_enter Tryd.func29, Tryd.ntmps29
    go_wp2_with (at_builtin; refine wpList_appL eRw rfl (.tmp 5) (.tmp 6) rfl rfl rfl H1.out HB1.out C1.out C2.out ?_; intro v' w1 hown hgrow; have HO := Lib.hid hown; have HG := Lib.hid hgrow; clear hown hgrow)
    go_returns
    exact ⟨_, rfl, HO.out, ge_own ((Ge.refl w).alloc _) H1.out (Nat.le_refl _) HG.out⟩
end Go.Proofs.YtmhibpmgnicolaaDoor
