/-
  ExchEach, ExchOrder: what the parcels are, in plain Lean.
-/
import Derived.Test.YtidblliobkjeeaaDoorParcels
import Derived.Maps.OwnSet
namespace Go.Proofs.YtidblliobkjeeaaDoor
open Go.RowKit

def flatR (ps : List (Int × List Rc)) : List Rc := ps.flatMap (·.2)
theorem flatR_snoc (ps : List (Int × List Rc)) (p : Int × List Rc) : flatR (ps ++ [p]) = flatR ps ++ p.2 := by simp [flatR]
theorem flatR_cons (ps : List (Int × List Rc)) (p : Int × List Rc) : flatR (p :: ps) = p.2 ++ flatR ps := by simp [flatR]

theorem batF_flat : ∀ (f : Nat) (rs : List Rc), rs.length ≤ f → (batF f rs).flatten = rs
  | 0, rs, h => by
    have : rs = [] := List.eq_nil_of_length_eq_zero (by omega)
    subst this
    rfl
  | f + 1, rs, h => by
    rw [batF]
    by_cases h0 : rs.length = 0
    · rw [if_pos h0, List.eq_nil_of_length_eq_zero h0]
      rfl
    · rw [if_neg h0, List.flatten_cons, batF_flat f (rs.drop 64) (by rw [List.length_drop]; omega), List.take_append_drop]
theorem batL_flat (rs : List Rc) : (batL rs).flatten = rs := batF_flat _ _ (Nat.le_refl _)
theorem flatR_parcelL (ps : List (Int × List Rc)) : flatR (parcelL ps) = flatR ps := by
  induction ps with
  | nil => rfl
  | cons p ps ih =>
    have e : parcelL (p :: ps) = (batL p.2).map (fun b => (p.1, b)) ++ parcelL ps := rfl
    have e2 : flatR ((batL p.2).map (fun b => (p.1, b))) = p.2 := by
      unfold flatR
      rw [List.flatMap_map]
      show (batL p.2).flatMap id = p.2
      rw [List.flatMap_id]
      exact batL_flat p.2
    rw [e, flatR_cons, ← ih]
    unfold flatR at e2 ⊢
    rw [List.flatMap_append, e2]

theorem filter_two (p q : Rc → Bool) (hd : ∀ r, p r = true → q r = false) : ∀ l : List Rc, (l.filter fun r => p r || q r).Perm (l.filter p ++ l.filter q)
  | [] => List.Perm.refl _
  | r :: l => by
    have ih := filter_two p q hd l
    cases hp : p r with
    | true =>
      have hq := hd r hp
      simp only [List.filter_cons, hp, hq, Bool.true_or, if_true, List.cons_append]
      exact ih.cons r
    | false =>
      cases hq : q r with
      | true =>
        simp only [List.filter_cons, hp, hq, Bool.or_true, if_true]
        exact (ih.cons r).trans List.perm_middle.symm
      | false =>
        simp only [List.filter_cons, hp, hq, Bool.or_false]
        exact ih
theorem range_perm (f : Rc → Int) (l : List Rc) : ∀ n : Nat, ((List.range n).flatMap fun (i : Nat) => l.filter fun r => f r == (i : Int)).Perm (l.filter fun r => decide (0 ≤ f r) && decide (f r < (n : Int)))
  | 0 => by
    have : (l.filter fun r => decide (0 ≤ f r) && decide (f r < ((0 : Nat) : Int))) = [] := List.filter_eq_nil_iff.2 fun r _ => by simp
    rw [this]
    exact List.Perm.refl _
  | n + 1 => by
    rw [List.range_succ, List.flatMap_append]
    have h1 := filter_two (fun r => decide (0 ≤ f r) && decide (f r < (n : Int))) (fun r => f r == (n : Int)) (fun r h => by simp at h ⊢; omega) l
    have h2 : (l.filter fun r => decide (0 ≤ f r) && decide (f r < ((n + 1 : Nat) : Int))) = l.filter fun r => (decide (0 ≤ f r) && decide (f r < (n : Int))) || (f r == (n : Int)) := by
      refine List.filter_congr fun r _ => ?_
      rw [Bool.eq_iff_iff]
      simp
      omega
    rw [h2]
    refine List.Perm.trans ?_ h1.symm
    have e : ([n].flatMap fun (i : Nat) => l.filter fun r => f r == (i : Int)) = l.filter fun r => f r == (n : Int) := by simp
    rw [e]
    exact (range_perm f l n).append_right _

theorem partIs_flat (kind worker workers : Int) (rs : List Rc) (n : Nat) : ((partIs kind worker workers rs n).flatMap fun (i : Nat) => rowL kind worker workers rs i) = (List.range n).flatMap fun (i : Nat) => rowL kind worker workers rs i := by
  unfold partIs
  generalize List.range n = l
  induction l with
  | nil => rfl
  | cons i l ih =>
    rw [List.filter_cons]
    split
    · rw [List.flatMap_cons, List.flatMap_cons, ih]
    · rename_i h
      have : rowL kind worker workers rs i = [] := List.eq_nil_of_length_eq_zero (by simpa using h)
      rw [List.flatMap_cons, this, List.nil_append, ih]

theorem partE_may {kind worker workers : Int} {rs : List Rc} (h : partE kind worker workers rs = 0) : mayB worker workers = true := by
  unfold partE at h
  cases hm : mayB worker workers with
  | true => rfl
  | false => rw [hm, if_pos rfl] at h; cases h
theorem toV_range {kind worker workers : Int} (hm : mayB worker workers = true) (r : Rc) : 0 ≤ toV kind worker workers r ∧ toV kind worker workers r < workers := by
  obtain ⟨h1, h2, h3, h4⟩ := (mayB_iff _ _).1 hm
  unfold toV
  split
  · exact ofV_range h1 h2
  · exact ⟨h3, h4⟩
theorem partP_zero {kind worker workers : Int} {rs : List Rc} (h : partE kind worker workers rs = 0) : partP kind worker workers rs = partL kind worker workers rs := by unfold partP; rw [if_pos h]

/-- all records go, each once -/
theorem parcels_perm {kind worker workers : Int} {rs : List Rc} (h : partE kind worker workers rs = 0) : (flatR (parcelL (partP kind worker workers rs))).Perm rs := by
  have hm := partE_may h
  have hw := (mayB_iff _ _).1 hm
  rw [flatR_parcelL, partP_zero h]
  have e : flatR (partL kind worker workers rs) = (partIs kind worker workers rs workers.toNat).flatMap fun (i : Nat) => rowL kind worker workers rs i := by
    unfold flatR partL
    rw [List.flatMap_map]
  rw [e, partIs_flat]
  have h1 := range_perm (toV kind worker workers) rs workers.toNat
  have h2 : (rs.filter fun r => decide (0 ≤ toV kind worker workers r) && decide (toV kind worker workers r < (workers.toNat : Int))) = rs := by
    refine List.filter_eq_self.2 fun r _ => ?_
    have := toV_range (kind := kind) hm r
    simp
    omega
  rw [h2] at h1
  exact h1

/-- where a parcel's records go -/
theorem parcel_to {kind worker workers : Int} {rs : List Rc} {p : Int × List Rc} (hp : p ∈ parcelL (partP kind worker workers rs)) : (∀ r ∈ p.2, toV kind worker workers r = p.1) ∧ 0 < p.2.length ∧ p.2.length ≤ 64 := by
  obtain ⟨q, hq, hb⟩ := List.mem_flatMap.1 hp
  obtain ⟨b, hb2, rfl⟩ := List.mem_map.1 hb
  clear hb
  have hb := hb2
  refine ⟨fun r hr => ?_, (batF_mem _ _ _ hb).2.1, (batF_mem _ _ _ hb).2.2⟩
  have hrq : r ∈ q.2 := by
    rw [← batL_flat q.2]
    exact List.mem_flatten.2 ⟨b, hb, hr⟩
  unfold partP at hq
  split at hq
  · obtain ⟨i, _, rfl⟩ := List.mem_map.1 hq
    have := (List.mem_filter.1 hrq).2
    simpa using this
  · cases hq
theorem parcels_sorted (kind worker workers : Int) (rs : List Rc) : (parcelL (partP kind worker workers rs)).Pairwise fun p q => p.1 ≤ q.1 := by
  unfold parcelL
  rw [List.pairwise_flatMap]
  refine ⟨fun p _ => ?_, ?_⟩
  · rw [List.pairwise_map]
    exact List.pairwise_of_forall fun _ _ => Int.le_refl _
  · have : (partP kind worker workers rs).Pairwise fun p q => p.1 < q.1 := by
      unfold partP
      split
      · unfold partL
        rw [List.pairwise_map]
        refine List.Pairwise.imp (R := fun a b : Nat => a < b) (fun h => by simpa using h) ?_
        exact List.pairwise_lt_range.filter _
      · exact List.Pairwise.nil
    refine this.imp fun {p q} h x hx y hy => ?_
    obtain ⟨b, _, rfl⟩ := List.mem_map.1 hx
    obtain ⟨c, _, rfl⟩ := List.mem_map.1 hy
    exact Int.le_of_lt h
theorem parcels_step {kind worker workers : Int} {rs : List Rc} {k : Nat} {p q : Int × List Rc} (hp : (parcelL (partP kind worker workers rs))[k]? = some p) (hq : (parcelL (partP kind worker workers rs))[k + 1]? = some q) : p.1 ≤ q.1 := by
  have h := parcels_sorted kind worker workers rs
  obtain ⟨h1, rfl⟩ := List.getElem?_eq_some_iff.1 hp
  obtain ⟨h2, rfl⟩ := List.getElem?_eq_some_iff.1 hq
  exact List.pairwise_iff_getElem.1 h k (k + 1) h1 h2 (by omega)
theorem partP_keyed {kind worker other workers : Int} {rs : List Rc} (hk : keyB kind = true) (h1 : partE kind worker workers rs = 0) (h2 : partE kind other workers rs = 0) : partP kind worker workers rs = partP kind other workers rs := by
  have hr : ∀ i, rowL kind worker workers rs i = rowL kind other workers rs i := fun i => by unfold rowL toV; simp [hk]
  rw [partP_zero h1, partP_zero h2]
  unfold partL partIs
  simp only [hr]

theorem first_at {r : Rc} : ∀ {l : List Rc}, r ∈ l → ∃ k : Nat, l[k]? = some r ∧ ∀ j, j < k → l[j]? ≠ some r
  | [], h => by cases h
  | x :: l, h => by
    by_cases hx : x = r
    · exact ⟨0, by simp [hx], fun j hj => by omega⟩
    · have : r ∈ l := by
        rcases List.mem_cons.1 h with h | h
        · exact absurd h.symm hx
        · exact h
      obtain ⟨k, h1, h2⟩ := first_at this
      refine ⟨k + 1, by simpa using h1, fun j hj => ?_⟩
      cases j with
      | zero => simpa using hx
      | succ j => simpa using h2 j (by omega)
theorem perm_at {r : Rc} {rest : List Rc} : ∀ {l : List Rc} {k : Nat}, l[k]? = some r → l.Perm (r :: rest) → (l.eraseIdx k).Perm rest := by
  intro l k hk hp
  have h1 : l.Perm (r :: l.eraseIdx k) := by
    obtain ⟨hlt, rfl⟩ := List.getElem?_eq_some_iff.1 hk
    rw [List.eraseIdx_eq_take_drop_succ]
    have : l = l.take k ++ l[k] :: l.drop (k + 1) := by
      rw [List.getElem_cons_drop, List.take_append_drop]
    refine (List.Perm.of_eq this).trans List.perm_middle
  exact List.Perm.cons_inv (h1.symm.trans hp)

theorem parcelL_len {m : Nat} : ∀ (ps : List (Int × List Rc)), (∀ p ∈ ps, p.2.length ≤ m) → (parcelL ps).length ≤ ps.length * m
  | [], _ => by simp [parcelL]
  | p :: ps, h => by
    have h1 := parcelL_len ps (fun q hq => h q (List.mem_cons_of_mem _ hq))
    have h2 := h p List.mem_cons_self
    have h3 := batL_len p.2
    have e : parcelL (p :: ps) = (batL p.2).map (fun b => (p.1, b)) ++ parcelL ps := rfl
    rw [e, List.length_append, List.length_map, List.length_cons, Nat.add_mul]
    omega
theorem parcelL_mem {ps : List (Int × List Rc)} {p : Int × List Rc} (h : p ∈ parcelL ps) : ∃ q ∈ ps, p.1 = q.1 ∧ p.2 ∈ batL q.2 := by
  obtain ⟨q, hq, hp⟩ := List.mem_flatMap.1 h
  obtain ⟨b, hb, rfl⟩ := List.mem_map.1 hp
  exact ⟨q, hq, rfl, hb⟩
theorem parcelP_len (kind worker workers : Int) (rs : List Rc) (hl : rs.length ≤ 1000000) : (parcelL (partP kind worker workers rs)).length ≤ 100000000 := by
  obtain ⟨h1, h2⟩ := partP_bounds kind worker workers rs
  have h3 := parcelL_len (m := 1000000) _ (fun p hp => Nat.le_trans (h2 p hp) hl)
  omega
theorem parcelP_mem (kind worker workers : Int) (rs : List Rc) : ∀ p ∈ parcelL (partP kind worker workers rs), p.2.length ≤ 1000000 := by
  intro p hp
  obtain ⟨q, _, _, hb⟩ := parcelL_mem hp
  have := (batF_mem _ _ _ hb).2.2
  omega

/-- what the map tells: each key that is there, its worker -/
structure AtOk (f : Int → Int) (D : DataW Unit) : Prop where
  map : Maps.IsMap D
  at_ : ∀ x, Maps.has D (.int .i64 x) = true → D.atKey (.int .i64 x) (.lit (.int .i64 0)) = .lit (.int .i64 (f x))
theorem AtOk.empty (f : Int → Int) : AtOk f (.map []) := ⟨Maps.isMap_empty, fun x h => by simp [Maps.has] at h⟩
theorem AtOk.put {f : Int → Int} {D : DataW Unit} (h : AtOk f D) (x : Int) : AtOk f (D.put (.int .i64 x) (.lit (.int .i64 (f x)))) := by
  refine ⟨h.map.put _ _, fun y hy => ?_⟩
  by_cases hxy : y = x
  · subst hxy
    exact Maps.atKey_put_same h.map (by simp [WideAt.IsKeyLit]) _ _
  · have hne : (Lit.int .i64 y) ≠ .int .i64 x := fun e => hxy (by cases e; rfl)
    rw [Maps.atKey_put_other hne]
    rw [Maps.has_put_other hne] at hy
    exact h.at_ y hy
end Go.Proofs.YtidblliobkjeeaaDoor
