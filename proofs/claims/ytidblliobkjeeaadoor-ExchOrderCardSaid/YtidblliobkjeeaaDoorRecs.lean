/-
  Records, and rows of records, in memory.
-/
import Derived.Test.YtidblliobkjeeaaDoorCheck
import Derived.Maps.AppendAt
import Derived.Deep.AppendLies
import Derived.Deep.RegionLaw
import Derived.Deep.OwnRows
import Derived.RangeFuncBox
namespace Go.Proofs.YtidblliobkjeeaaDoor
open Go.RowKit

abbrev Rc := Int × ByteArray
def encR (r : Rc) : List Value := [.int .i64 r.1, .string r.2]
def recC (rs : List Rc) : List Value := rs.flatMap encR
theorem recC_len (rs : List Rc) : (recC rs).length = rs.length * 2 := by
  induction rs with
  | nil => rfl
  | cons r t ih =>
    have : recC (r :: t) = encR r ++ recC t := rfl
    rw [this, List.length_append, ih]
    simp [encR]
    omega
theorem recC_snoc (rs : List Rc) (r : Rc) : recC (rs ++ [r]) = recC rs ++ [.int .i64 r.1, .string r.2] := by simp [recC, encR]
theorem recC_append (a b : List Rc) : recC (a ++ b) = recC a ++ recC b := by simp [recC]
theorem recC_at (rs : List Rc) : ∀ (j : Nat) (r : Rc), rs[j]? = some r → (recC rs)[j * 2]? = some (.int .i64 r.1) ∧ (recC rs)[j * 2 + 1]? = some (.string r.2) := by
  induction rs with
  | nil => intro j r h; simp at h
  | cons q t ih =>
    intro j r h
    have e : recC (q :: t) = Value.int .i64 q.1 :: Value.string q.2 :: recC t := rfl
    rw [e]
    cases j with
    | zero => simp at h; subst h; exact ⟨rfl, rfl⟩
    | succ j =>
      rw [List.getElem?_cons_succ] at h
      have := ih j r h
      rw [show (j + 1) * 2 = j * 2 + 1 + 1 by omega, show j * 2 + 1 + 1 + 1 = (j * 2 + 1) + 1 + 1 by omega]
      simp only [List.getElem?_cons_succ]
      exact this

theorem addr_add (b off j : Nat) : (⟨b, off, none⟩ : Addr).add j = ⟨b, off + j, none⟩ := by unfold Addr.add; split <;> simp_all

/-- v reads as these records -/
def RecsAt (w : World) (v : Value) (rs : List Rc) : Prop := ∃ (A : Option Addr) (cap : Nat), v = .slice A rs.length cap ∧ rs.length ≤ cap ∧
  (rs ≠ [] → ∃ b off, A = some ⟨b, off, none⟩ ∧ b < w.heap.size ∧ ∀ j r, rs[j]? = some r → w.cell? ⟨b, off + j * 2, none⟩ = some (.int .i64 r.1) ∧ w.cell? ⟨b, off + j * 2 + 1, none⟩ = some (.string r.2))
theorem RecsAt.ge {w w' : World} {v : Value} {rs : List Rc} (h : RecsAt w v rs) (hg : Ge w w') : RecsAt w' v rs := by
  obtain ⟨A, cap, rfl, hle, hc⟩ := h
  refine ⟨A, cap, rfl, hle, fun hne => ?_⟩
  obtain ⟨b, off, rfl, hb, hcell⟩ := hc hne
  exact ⟨b, off, rfl, Nat.lt_of_lt_of_le hb hg.size, fun j r hj => ⟨(hg.cell (p := ⟨b, off + j * 2, none⟩) hb).trans (hcell j r hj).1, (hg.cell (p := ⟨b, off + j * 2 + 1, none⟩) hb).trans (hcell j r hj).2⟩⟩
theorem RecsAt.nil (w : World) (A : Option Addr) (cap : Nat) : RecsAt w (.slice A 0 cap) [] := ⟨A, cap, rfl, Nat.zero_le _, fun h => absurd rfl h⟩

/-- a row of records of the call's own -/
def OwnR (w : World) (base : Nat) (v : Value) (rs : List Rc) : Prop := w.ownsRow base 32 2 v rs.length (recC rs)
theorem OwnR.ge {w w' : World} {base : Nat} {v : Value} {rs : List Rc} (h : OwnR w base v rs) (hg : Ge w w') : OwnR w' base v rs := by
  refine ⟨h.1, ?_⟩
  rcases h.2 with h2 | ⟨g, cap, cur, hv, hb, hh, r⟩
  · exact Or.inl h2
  · exact Or.inr ⟨g, cap, cur, hv, hb, (hg.block g (Array.getElem?_eq_some_iff.1 hh).1).trans hh, r⟩
theorem OwnR.recsAt {w : World} {base : Nat} {v : Value} {rs : List Rc} (h : OwnR w base v rs) : RecsAt w v rs := by
  obtain ⟨h1, h2⟩ := h
  rcases h2 with ⟨rfl, hn⟩ | ⟨g, cap, cur, rfl, hg, hh, hle, hm, hs, ht⟩
  · have : rs = [] := List.eq_nil_of_length_eq_zero hn
    subst this
    exact RecsAt.nil _ _ _
  · refine ⟨some ⟨g, 0, none⟩, cap, rfl, hle, fun _ => ⟨g, 0, rfl, (Array.getElem?_eq_some_iff.1 hh).1, fun j r hj => ?_⟩⟩
    have hjl : j < rs.length := (List.getElem?_eq_some_iff.1 hj).1
    obtain ⟨e1, e2⟩ := recC_at rs j r hj
    have key : ∀ k u, (recC rs)[k]? = some u → w.cell? ⟨g, 0 + k, none⟩ = some u := by
      intro k u hu
      rw [← ht] at hu
      have hk : k < rs.length * 2 := by
        rw [List.getElem?_take] at hu
        split at hu
        · assumption
        · cases hu
      rw [List.getElem?_take, if_pos hk, Array.getElem?_toList] at hu
      simp only [World.cell?, hh, Nat.zero_add]
      simpa using hu
    rw [Nat.add_assoc]
    exact ⟨key _ _ e1, key _ _ e2⟩
theorem OwnR.form {w : World} {base : Nat} {v : Value} {rs : List Rc} (h : OwnR w base v rs) : ∃ A cap, v = .slice A rs.length cap := by
  obtain ⟨A, cap, rfl, _⟩ := h.recsAt
  exact ⟨A, cap, rfl⟩

/-- n rows of records, each in memory of its own -/
structure Rows (w : World) (R n : Nat) (V : Nat → Value) (L : Nat → List Rc) : Prop where
  blk : Bx w R 28 ((List.range n).map V).toArray
  own : ∀ i, i < n → OwnR w (R + 1) (V i) (L i)
  dis : ∀ i j g, i < n → j < n → (V i).ownBlock = some g → (V j).ownBlock = some g → i = j

theorem Rows.cell {w : World} {R n : Nat} {V : Nat → Value} {L : Nat → List Rc} (h : Rows w R n V L) {i : Nat} (hi : i < n) : w.cell? ⟨R, i, none⟩ = some (V i) := by
  rw [h.blk.cell]
  simp [hi]
theorem Rows.ge {w w' : World} {R n : Nat} {V : Nat → Value} {L : Nat → List Rc} (h : Rows w R n V L) (hg : Ge w w') : Rows w' R n V L :=
  ⟨h.blk.ge hg, fun i hi => (h.own i hi).ge hg, h.dis⟩

def upd {α : Type} (f : Nat → α) (t : Nat) (x : α) : Nat → α := fun i => if i = t then x else f i
theorem grownBy_setAt (W : World) (b k : Nat) (v : Value) : W.grownBy (W.setCell ⟨b, k, none⟩ v) (some b) :=
  ⟨rfl, rfl, rfl, (KeepsWalks.setCell W _ v).size, fun j _ hk => Below.heap_setCell _ _ _ j (fun e => hk (by rw [e]))⟩

theorem Rows.put {w wa w1 : World} {R n : Nat} {V : Nat → Value} {L : Nat → List Rc} (h : Rows w R n V L) {t : Nat} (ht : t < n) (hga : Ge w wa) (hgrow : wa.grownBy w1 (V t).ownBlock)
    {g cap : Nat} {r : Rc} (hown : OwnR w1 (R + 1) (.slice (some ⟨g, 0, none⟩) ((L t).length + 1) cap) (L t ++ [r])) (hat : (V t).ownBlock = some g ∨ w.heap.size ≤ g) :
    Rows (w1.setCell ⟨R, t, none⟩ (.slice (some ⟨g, 0, none⟩) ((L t).length + 1) cap)) R n (upd V t (.slice (some ⟨g, 0, none⟩) ((L t).length + 1) cap)) (upd L t (L t ++ [r])) := by
  have hRb : ∀ i, i < n → (V i).ownBlock ≠ some R := fun i hi e => by
    have := ((h.own i hi).lt R e).1
    omega
  have hlt : ∀ i gi, i < n → (V i).ownBlock = some gi → gi < w.heap.size := fun i gi hi e => ((h.own i hi).lt gi e).2
  have hgR : R + 1 ≤ g := by
    have := (hown.lt g rfl).1
    exact this
  have hsg := grownBy_setAt w1 R t (.slice (some ⟨g, 0, none⟩) ((L t).length + 1) cap)
  refine ⟨?_, fun i hi => ?_, fun i j gi hi hj e1 e2 => ?_⟩
  · have hb1 : Bx w1 R 28 ((List.range n).map V).toArray := (hgrow.block R (Nat.lt_of_lt_of_le h.blk.lt hga.size) (fun e => hRb t ht e.symm)).trans (h.blk.ge hga)
    have hb2 := hb1.set t (.slice (some ⟨g, 0, none⟩) ((L t).length + 1) cap)
    have e : ((List.range n).map V).toArray.setIfInBounds t (.slice (some ⟨g, 0, none⟩) ((L t).length + 1) cap) = ((List.range n).map (upd V t (.slice (some ⟨g, 0, none⟩) ((L t).length + 1) cap))).toArray := by
      apply Array.ext_getElem?
      intro k
      by_cases hk : k < n
      · by_cases hkt : k = t
        · subst hkt; simp [hk, upd]
        · rw [Array.getElem?_setIfInBounds_ne (Ne.symm hkt)]; simp [hk, upd, hkt]
      · rw [Array.getElem?_eq_none (by simp; omega), Array.getElem?_eq_none (by simp; omega)]
    rw [e] at hb2
    exact hb2
  · by_cases hit : i = t
    · subst hit
      simp only [upd, if_true]
      have hgne : g ≠ R := by omega
      exact World.ownsRow.kept hown hsg (.inr (by simpa [Value.ownBlock] using hgne))
    · simp only [upd, if_neg hit]
      have h1 : OwnR w1 (R + 1) (V i) (L i) := by
        refine World.ownsRow.kept ((h.own i hi).ge hga) hgrow ?_
        cases hv : (V i).ownBlock with
        | none => exact .inl rfl
        | some gi => exact .inr (fun e => hit (h.dis i t gi hi ht hv e.symm))
      exact World.ownsRow.kept h1 hsg (.inr (hRb i hi))
  · have key : ∀ i gi, i < n → i ≠ t → (V i).ownBlock = some gi → gi ≠ g := by
      intro i gi hi hit e hge
      subst hge
      rcases hat with hat | hat
      · exact hit (h.dis i t gi hi ht e hat)
      · have := hlt i gi hi e; omega
    by_cases hit : i = t
    · subst hit
      by_cases hjt : j = i
      · exact hjt.symm
      · exfalso
        simp only [upd, if_true] at e1
        simp only [upd, if_neg hjt] at e2
        exact key j gi hj hjt e2 (by simpa [Value.ownBlock] using e1.symm)
    · by_cases hjt : j = t
      · subst hjt
        exfalso
        simp only [upd, if_neg hit] at e1
        simp only [upd, if_true] at e2
        exact key i gi hi hit e1 (by simpa [Value.ownBlock] using e2.symm)
      · simp only [upd, if_neg hit] at e1
        simp only [upd, if_neg hjt] at e2
        exact h.dis i j gi hi hj e1 e2
end Go.Proofs.YtidblliobkjeeaaDoor
