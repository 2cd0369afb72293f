/-
  Numbers in memory; Index, Contains, Equal of them.
-/
import Derived.Test.YtidblliobkjeeaaDoorFew
namespace Go.Proofs.YtidblliobkjeeaaDoor
open Go.RowKit
attribute [local go_sem] Dr.upT

/-- v reads as these numbers -/
def IntsAt (w : World) (v : Value) (xs : List Int) : Prop := ∃ (A : Option Addr) (cap : Nat), v = .slice A xs.length cap ∧ xs.length ≤ cap ∧
  (xs ≠ [] → ∃ b off, A = some ⟨b, off, none⟩ ∧ b < w.heap.size ∧ ∀ (j : Nat) (x : Int), xs[j]? = some x → w.cell? ⟨b, off + j, none⟩ = some (.int .i64 x))
theorem IntsAt.ge {w w' : World} {v : Value} {xs : List Int} (h : IntsAt w v xs) (hg : Ge w w') : IntsAt w' v xs := by
  obtain ⟨A, cap, rfl, hle, hc⟩ := h
  refine ⟨A, cap, rfl, hle, fun hne => ?_⟩
  obtain ⟨b, off, rfl, hb, hcell⟩ := hc hne
  exact ⟨b, off, rfl, Nat.lt_of_lt_of_le hb hg.size, fun j x hj => (hg.cell (p := ⟨b, off + j, none⟩) hb).trans (hcell j x hj)⟩
def OwnI (w : World) (base : Nat) (v : Value) (xs : List Int) : Prop := w.ownsRow base 2 1 v xs.length (xs.map (Value.int .i64))
theorem info2 : (Tryd.prog.info? 2).map (fun i => (i.zero, i.size, i.bytes)) = some (some (.int .i64 0), 1, 8) := by kernel_rfl
theorem OwnI.intsAt {w : World} {base : Nat} {v : Value} {xs : List Int} (h : OwnI w base v xs) : IntsAt w v xs := by
  obtain ⟨h1, h2⟩ := h
  rcases h2 with ⟨rfl, hn⟩ | ⟨g, cap, cur, rfl, hg, hh, hle, hm, hs, ht⟩
  · have : xs = [] := List.eq_nil_of_length_eq_zero hn
    subst this
    exact ⟨none, 0, rfl, Nat.le_refl _, fun h => absurd rfl h⟩
  · refine ⟨some ⟨g, 0, none⟩, cap, rfl, hle, fun _ => ⟨g, 0, rfl, (Array.getElem?_eq_some_iff.1 hh).1, fun j x hj => ?_⟩⟩
    have hjl := (List.getElem?_eq_some_iff.1 hj).1
    have e : cur[j]? = some (.int .i64 x) := by
      have : (cur.toList.take (xs.length * 1))[j]? = (xs.map (Value.int .i64))[j]? := by rw [ht]
      rw [List.getElem?_take, if_pos (by omega), Array.getElem?_toList] at this
      rw [this]
      simp [hj]
    simp only [World.cell?, hh, Nat.zero_add]
    simpa using e

/-- a number is among these -/
def memB (xs : List Int) (x : Int) : Bool := xs.any fun y => x == y
theorem memB_take (xs : List Int) (x : Int) (k : Nat) (y : Int) (h : xs[k]? = some y) : memB (xs.take (k + 1)) x = (memB (xs.take k) x || (x == y)) := by
  have hlt := (List.getElem?_eq_some_iff.1 h).1
  rw [List.getElem?_eq_getElem hlt] at h
  rw [List.take_succ_eq_append_getElem hlt, Option.some.inj h]
  simp [memB]
theorem memB_some {xs : List Int} {x : Int} {k : Nat} (h : xs[k]? = some x) : memB xs x = true := by
  unfold memB
  rw [List.any_eq_true]
  exact ⟨x, List.mem_of_getElem? h, by simp⟩

set_option maxHeartbeats 2000000 in
theorem index_any {w : World} {v : Value} {xs : List Int} (h : IntsAt w v xs) (hl : xs.length ≤ 100000000) (x : Int) :
    Calls Tryd.prog 40 #[v, .int .i64 x] w fun e w' => ∃ z : Int, e = .returned (.int .i64 z) ∧ -1 ≤ z ∧ z ≤ 100000000 ∧ decide (0 ≤ z) = memB xs x ∧ w = w' := by
  obtain ⟨A, cap, rfl, -, hc⟩ := h
  have HC := Lib.hid hc
  clear hc
  go_enter Tryd.func40, Tryd.ntmps40
  go_wp2
  go_loop [8] (fun i => ∃ k : Nat, k ≤ xs.length ∧ i = .int .i64 (k : Int) ∧ memB (xs.take k) x = false) (fun i => xs.length - (intOf i).toNat)
  case atStart => exact ⟨0, by omega, rfl, rfl⟩
  case round =>
    obtain ⟨k, hk, rfl, hno⟩ := hrel
    have HNO := Lib.hid hno
    clear hno
    by_cases hlt : k < xs.length
    · obtain ⟨b, off, rfl, hb, hcell⟩ := HC.out (by intro e; rw [e] at hlt; simp at hlt)
      obtain ⟨y, hy⟩ : ∃ y, xs[k]? = some y := ⟨_, List.getElem?_eq_getElem hlt⟩
      have c0 := hcell k y hy
      have HM := Lib.hid (memB_take xs x k y hy)
      have HY := Lib.hid hy
      have i1 : (0 : Int) ≤ (k : Int) := by omega
      have i2 : (k : Int) < (xs.length : Int) := by omega
      clear hcell hy
      cases he : (x == y) with
      | true =>
        have HE := Lib.hid he
        go_wp2
        go_returns
        refine ⟨(k : Int), rfl, by omega, by omega, ?_, rfl⟩
        have hxy : x = y := by simpa using HE.out
        rw [memB_some (by rw [HY.out, hxy])]
        simp
      | false =>
        have HE := Lib.hid he
        go_wp2
        go_round
        case rel => exact ⟨k + 1, by omega, by go_num, by rw [HM.out, HNO.out, HE.out]; rfl⟩
        case measure => simp [intOf]; omega
    · have hkl : k = xs.length := by omega
      subst hkl
      go_wp2
      go_returns
      refine ⟨-1, rfl, by omega, by omega, ?_, rfl⟩
      have := HNO.out
      rw [List.take_length] at this
      rw [this]
      rfl

set_option maxHeartbeats 1000000 in
theorem contains_any {w : World} {v : Value} {xs : List Int} (h : IntsAt w v xs) (hl : xs.length ≤ 100000000) (x : Int) :
    Calls Tryd.prog 35 #[v, .int .i64 x] w fun e w' => e = .returned (.bool (memB xs x)) ∧ w = w' := by
  have HI := Lib.hid (index_any h hl x)
  obtain ⟨A, cap, rfl, -⟩ := h
  generalize memB xs x = q at *
  go_enter Tryd.func35, Tryd.ntmps35
  go_wp2_with fail
  refine HI.out.mono ?_
  rintro e w1 ⟨z, rfl, z0, z1, hz, rfl⟩
  go_wp2
  go_returns
  exact ⟨rfl, rfl⟩

set_option maxHeartbeats 4000000 in
theorem sequal_any {w : World} {a b : Value} {xs : List Int} (ha : IntsAt w a xs) (hb : IntsAt w b xs) (hl : xs.length ≤ 100000000) :
    Calls Tryd.prog 22 #[a, b] w fun e w' => e = .returned (.bool true) ∧ Ge w w' := by
  obtain ⟨A, ca, rfl, -, hA⟩ := ha
  obtain ⟨B, cb, rfl, -, hB⟩ := hb
  have HA := Lib.hid hA
  have HB := Lib.hid hB
  clear hA hB
  have hn : ((xs.length : Int) != (xs.length : Int)) = false := by simp
  go_enter Tryd.func22, Tryd.ntmps22
  go_wp2
  go_loopw [13] (fun i wr => ∃ k : Nat, k ≤ xs.length ∧ i = .int .i64 (k : Int) ∧ Ge w wr) (fun i _ => xs.length - (intOf i).toNat)
  case atStart => exact ⟨0, by omega, rfl, Ge.refl _⟩
  case round =>
    obtain ⟨k, hk, rfl, hge⟩ := hrel
    have G := Lib.hid hge
    by_cases hlt : k < xs.length
    · obtain ⟨b1, o1, e1, hb1, hc1⟩ := HA.out (by intro e; rw [e] at hlt; simp at hlt)
      obtain ⟨b2, o2, e2, hb2, hc2⟩ := HB.out (by intro e; rw [e] at hlt; simp at hlt)
      subst e1 e2
      obtain ⟨x, hx⟩ : ∃ x, xs[k]? = some x := ⟨_, List.getElem?_eq_getElem hlt⟩
      have H1 := Lib.hid (fun (w3 : World) (hw : Ge wr w3) => ((hge.trans hw).cell (p := ⟨b1, o1 + k, none⟩) hb1).trans (hc1 k x hx))
      have H2 := Lib.hid (fun (w3 : World) (hw : Ge wr w3) => ((hge.trans hw).cell (p := ⟨b2, o2 + k, none⟩) hb2).trans (hc2 k x hx))
      clear hc1 hc2 hge hx
      have i1 : (0 : Int) ≤ (k : Int) := by omega
      have i2 : (k : Int) < (xs.length : Int) := by omega
      go_wp2
      refine Dr.wp_region_T (by kernel_rfl) (by kernel_rfl) ?_
      iterate 8 (apply Dr.wpT_det; · (intro u w3 hw hF; clear hF; have kA := H1.out w3 hw; have kB := H2.out w3 hw; go_simp; first | exact ⟨Ge.refl _, rfl⟩ | exact Ge.refl _ | rfl))
      refine Dr.wpT_det (.bool false) ?_ ?_
      · intro u w3 hw hF
        clear hF
        go_simp
        first | exact Ge.refl _ | exact ⟨Ge.refl _, by simp⟩
      intro u w3 hw hF
      clear hF
      have G3 := Lib.hid (G.out.trans hw)
      clear hw
      simp only [Act.put, List.setIfInBounds_toArray, List.set_cons_zero, List.set_cons_succ]
      go_wp2
      exact ⟨⟨k + 1, by omega, by go_num, G3.out⟩, by simp [intOf]; omega⟩
    · clear hge
      go_wp2
      go_returns
      exact ⟨rfl, G.out⟩
end Go.Proofs.YtidblliobkjeeaaDoor
