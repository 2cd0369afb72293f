/-
  ExchOrder, in plain Lean: the records have their places in their texts.
-/
import Derived.Test.YtidblliobkjeeaaDoorEachP
import Derived.Laws.BytesArg
namespace Go.Proofs.YtidblliobkjeeaaDoor
open Go.RowKit

def hiI (i : Nat) : Int := 97 + (i : Int) / 26 % 26
def loI (i : Nat) : Int := 97 + (i : Int) % 26
def txtV (i : Nat) : ByteArray := strOfNums [hiI i, loI i]
def recV (keys : List Int) (i : Nat) : Rc := (keys.getD i 0, txtV i)
def recsV (keys : List Int) (k : Nat) : List Rc := (List.range k).map (recV keys)
theorem recsV_len (keys : List Int) (k : Nat) : (recsV keys k).length = k := by simp [recsV]
theorem recsV_succ (keys : List Int) (k : Nat) : recsV keys (k + 1) = recsV keys k ++ [recV keys k] := by simp [recsV, List.range_succ]
/-- the place that a record's text tells -/
def posV (r : Rc) : Nat := ((r.2.data.toList.getD 0 0).toNat - 97) * 26 + ((r.2.data.toList.getD 1 0).toNat - 97)
theorem posV_recV (keys : List Int) (i : Nat) (h : i < 676) : posV (recV keys i) = i := by
  have h1 : ((hiI i).toNat) < 256 := by unfold hiI; omega
  have h2 : ((loI i).toNat) < 256 := by unfold loI; omega
  have e : (recV keys i).2.data.toList = [UInt8.ofNat (hiI i).toNat, UInt8.ofNat (loI i).toNat] := by
    show (strOfNums [hiI i, loI i]).data.toList = _
    rw [strOfNums_data]
    rfl
  unfold posV
  rw [e]
  simp only [List.getD_cons_zero, List.getD_cons_succ, UInt8.toNat_ofNat']
  unfold hiI loI at *
  omega

def pairsG (ps : List (Int × List Rc)) : List (Int × Rc) := ps.flatMap fun p => p.2.map fun r => (p.1, r)
theorem pairsG_cons (p : Int × List Rc) (ps : List (Int × List Rc)) : pairsG (p :: ps) = p.2.map (fun r => (p.1, r)) ++ pairsG ps := by simp [pairsG]
theorem pairsG_parcelL (ps : List (Int × List Rc)) : pairsG (parcelL ps) = pairsG ps := by
  induction ps with
  | nil => rfl
  | cons p ps ih =>
    have e : parcelL (p :: ps) = (batL p.2).map (fun b => (p.1, b)) ++ parcelL ps := rfl
    have e2 : pairsG ((batL p.2).map (fun b => (p.1, b))) = p.2.map fun r => (p.1, r) := by
      unfold pairsG
      rw [List.flatMap_map]
      conv => rhs; rw [← batL_flat p.2]
      generalize batL p.2 = bs
      induction bs with
      | nil => rfl
      | cons b bs ih => rw [List.flatMap_cons, List.flatten_cons, List.map_append, ih]
    rw [e, pairsG_cons, ← ih]
    unfold pairsG at e2 ⊢
    rw [List.flatMap_append, e2]

/-- of what goes to one worker the places rise -/
def Rise (x y : Int × Rc) : Prop := x.1 = y.1 → posV x.2 < posV y.2
theorem recsV_rise (keys : List Int) (k : Nat) (hk : k ≤ 676) : (recsV keys k).Pairwise fun a b => posV a < posV b := by
  unfold recsV
  rw [List.pairwise_map]
  refine List.Pairwise.imp_of_mem ?_ List.pairwise_lt_range
  intro a b ha hb h
  rw [List.mem_range] at ha hb
  rw [posV_recV keys a (by omega), posV_recV keys b (by omega)]
  exact h
theorem parcels_rise (kind worker workers : Int) (keys : List Int) (k : Nat) (hk : k ≤ 676) : (pairsG (parcelL (partP kind worker workers (recsV keys k)))).Pairwise Rise := by
  rw [pairsG_parcelL]
  have hr := recsV_rise keys k hk
  generalize recsV keys k = rs at *
  unfold partP
  split
  · unfold pairsG partL
    rw [List.flatMap_map, List.pairwise_flatMap]
    refine ⟨fun i _ => ?_, ?_⟩
    · rw [List.pairwise_map]
      exact List.Pairwise.imp (fun h => fun _ => h) (List.Pairwise.filter _ hr)
    · have h : (partIs kind worker workers rs workers.toNat).Pairwise fun a b => a < b := List.pairwise_lt_range.filter _
      refine h.imp fun {a b} h x hx y hy e => ?_
      obtain ⟨r, _, rfl⟩ := List.mem_map.1 hx
      obtain ⟨q, _, rfl⟩ := List.mem_map.1 hy
      dsimp only at e
      omega
  · exact List.Pairwise.nil
theorem recsV_at {keys : List Int} {k i : Nat} {r : Rc} (hk : k ≤ 676) (h : (recsV keys k)[i]? = some r) : i = posV r := by
  obtain ⟨h1, rfl⟩ := List.getElem?_eq_some_iff.1 h
  rw [recsV_len] at h1
  have : (recsV keys k)[i] = recV keys i := by simp [recsV]
  rw [this, posV_recV keys i (by omega)]

/-- the map: the last place of each worker, which lies ahead of all that are still to come -/
structure LastOk (rest : List (Int × Rc)) (D : DataW Unit) : Prop where
  map : Maps.IsMap D
  at_ : ∀ x, Maps.has D (.int .i64 x) = true → ∃ c : Nat, D.atKey (.int .i64 x) (.lit (.int .i64 0)) = .lit (.int .i64 (c : Int)) ∧ ∀ y ∈ rest, y.1 = x → c < posV y.2
theorem LastOk.empty (rest : List (Int × Rc)) : LastOk rest (.map []) := ⟨Maps.isMap_empty, fun x h => by simp [Maps.has] at h⟩
theorem LastOk.put {rest : List (Int × Rc)} {D : DataW Unit} {x : Int} {r : Rc} (h : LastOk ((x, r) :: rest) D) (hp : ((x, r) :: rest).Pairwise Rise) : LastOk rest (D.put (.int .i64 x) (.lit (.int .i64 (posV r : Int)))) := by
  refine ⟨h.map.put _ _, fun y hy => ?_⟩
  by_cases hxy : y = x
  · subst hxy
    refine ⟨posV r, Maps.atKey_put_same h.map (by simp [WideAt.IsKeyLit]) _ _, fun z hz e => ?_⟩
    exact (List.pairwise_cons.1 hp).1 z hz e.symm
  · have hne : (Lit.int .i64 y) ≠ .int .i64 x := fun e => hxy (by cases e; rfl)
    rw [Maps.has_put_other hne] at hy
    obtain ⟨c, h1, h2⟩ := h.at_ y hy
    refine ⟨c, ?_, fun z hz => h2 z (List.mem_cons_of_mem _ hz)⟩
    rw [Maps.atKey_put_other hne]
    exact h1
end Go.Proofs.YtidblliobkjeeaaDoor
