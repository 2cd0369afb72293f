/-
  Part: records by the workers to which they go.
-/
import Derived.Test.YtidblliobkjeeaaDoorRecs
namespace Go.Proofs.YtidblliobkjeeaaDoor
open Go.RowKit

def toV (kind worker workers : Int) (r : Rc) : Int := if keyB kind = true then ofV r.1 workers else worker
def rowL (kind worker workers : Int) (rs : List Rc) (i : Nat) : List Rc := rs.filter fun r => toV kind worker workers r == (i : Int)
theorem rowL_snoc (kind worker workers : Int) (rs : List Rc) (r : Rc) (t : Nat) (h : toV kind worker workers r = (t : Int)) :
    (fun i => rowL kind worker workers (rs ++ [r]) i) = upd (fun i => rowL kind worker workers rs i) t (rowL kind worker workers rs t ++ [r]) := by
  funext i
  unfold rowL upd
  rw [List.filter_append]
  by_cases hi : i = t
  · subst hi
    rw [if_pos rfl]
    simp [h]
  · rw [if_neg hi]
    have : ¬ ((t : Int) = (i : Int)) := by omega
    simp [h, this]

theorem info28 : (Tryd.prog.info? 28).map (fun i => (i.zero, i.size, i.bytes)) = some (some (.slice none 0 0), 1, 24) := by kernel_rfl
theorem info32 : (Tryd.prog.info? 32).map (fun i => (i.zero, i.size, i.bytes)) = some (some (.agg #[.int .i64 0, .string ⟨#[]⟩]), 2, 24) := by kernel_rfl

/-- what is wrong with what is asked of Part -/
def partE (kind worker workers : Int) (rs : List Rc) : Int :=
  if mayB worker workers = false then 1 else if insV kind < 0 then 1 else if rs.all (fun r => okB r.2) = true then 0 else 50

theorem madeCells_nil (n : Nat) : ((List.range n).map fun _ => Value.slice none 0 0).toArray = madeCells #[Value.slice none 0 0] n := by
  apply Array.ext_getElem?
  intro k
  by_cases hk : k < n
  · simp [madeCells, hk, Nat.mod_one]
  · rw [Array.getElem?_eq_none (by simp; omega), Array.getElem?_eq_none (by rw [size_madeCells]; omega)]

theorem part_round {w w3 w5 : World} {kind worker workers : Int} {rs : List Rc} {k t n gg cap2 cap3 : Nat} {r : Rc} {V : Nat → Value} {A2 : Option Addr} {o : Obj} (hg3 : Ge w w3)
    (hrows : Rows w3 w.heap.size n V (fun i => rowL kind worker workers (rs.take k) i)) (ht : t < n) (htv : toV kind worker workers r = (t : Int)) (hsn : rs.take (k + 1) = rs.take k ++ [r])
    (hVt : V t = .slice A2 (rowL kind worker workers (rs.take k) t).length cap2)
    (hown : w5.ownsRow (w.heap.size + 1) 32 2 (.slice (some ⟨gg, 0, none⟩) ((rowL kind worker workers (rs.take k) t).length + 1) cap3) ((rowL kind worker workers (rs.take k) t).length + 1) (recC (rowL kind worker workers (rs.take k) t) ++ [.int .i64 r.1, .string r.2]))
    (hgrow : (w3.alloc o).drew.grownBy w5 (Value.slice A2 (rowL kind worker workers (rs.take k) t).length cap2).ownBlock)
    (hat : (Value.slice A2 (rowL kind worker workers (rs.take k) t).length cap2).ownBlock = some gg ∨ gg = w3.heap.size + 1) :
    Rows (w5.setCell ⟨w.heap.size, t, none⟩ (.slice (some ⟨gg, 0, none⟩) ((rowL kind worker workers (rs.take k) t).length + 1) cap3)) w.heap.size n
      (upd V t (.slice (some ⟨gg, 0, none⟩) ((rowL kind worker workers (rs.take k) t).length + 1) cap3)) (fun i => rowL kind worker workers (rs.take (k + 1)) i) ∧
    Ge w (w5.setCell ⟨w.heap.size, t, none⟩ (.slice (some ⟨gg, 0, none⟩) ((rowL kind worker workers (rs.take k) t).length + 1) cap3)) := by
  have hO : OwnR w5 (w.heap.size + 1) (.slice (some ⟨gg, 0, none⟩) ((rowL kind worker workers (rs.take k) t).length + 1) cap3) (rowL kind worker workers (rs.take k) t ++ [r]) := by
    unfold OwnR
    rw [recC_snoc, List.length_append]
    exact hown
  refine ⟨?_, ?_⟩
  · rw [hsn, rowL_snoc kind worker workers (rs.take k) r t htv]
    exact hrows.put ht (((Ge.refl w3).alloc o).drew) (by rw [hVt]; exact hgrow) hO (by rw [hVt]; exact hat.imp id (fun h => by omega))
  · have h1 : Ge w w5 := Below.grown ((hg3.alloc o).drew) hgrow ((hg3.alloc o).drew).size (fun j hj => by
      have hl := (World.ownsRow.lt (hrows.own t ht) j (by rw [hVt]; exact hj)).1
      omega)
    exact Below.setCell h1 (by show w.heap.size ≤ w.heap.size; omega) _

/-- the rows that are not empty, with their numbers -/
def partIs (kind worker workers : Int) (rs : List Rc) (m : Nat) : List Nat := (List.range m).filter fun i => decide (0 < (rowL kind worker workers rs i).length)
def partL (kind worker workers : Int) (rs : List Rc) : List (Int × List Rc) := (partIs kind worker workers rs workers.toNat).map fun (i : Nat) => ((i : Int), rowL kind worker workers rs i)
theorem partIs_snoc (kind worker workers : Int) (rs : List Rc) (m : Nat) :
    partIs kind worker workers rs (m + 1) = partIs kind worker workers rs m ++ if 0 < (rowL kind worker workers rs m).length then [m] else [] := by
  unfold partIs
  rw [List.range_succ, List.filter_append]
  by_cases h : 0 < (rowL kind worker workers rs m).length <;> simp [h]
theorem partIs_len (kind worker workers : Int) (rs : List Rc) (m : Nat) : (partIs kind worker workers rs m).length ≤ m := by
  have := List.length_filter_le (fun i => decide (0 < (rowL kind worker workers rs i).length)) (List.range m)
  simpa [partIs] using this
theorem partIs_lt {kind worker workers : Int} {rs : List Rc} {m i : Nat} (h : i ∈ partIs kind worker workers rs m) : i < m := by
  unfold partIs at h
  simp at h
  exact h.1

/-- v reads as these parcels -/
def ParcelsAt (w : World) (v : Value) (ps : List (Int × List Rc)) : Prop := ∃ (A : Option Addr) (cap : Nat) (us : List Value), v = .slice A ps.length cap ∧ ps.length ≤ cap ∧ us.length = ps.length ∧
  (ps ≠ [] → ∃ b off, A = some ⟨b, off, none⟩ ∧ b < w.heap.size ∧ ∀ (j : Nat) (p : Int × List Rc) (u : Value), ps[j]? = some p → us[j]? = some u → w.cell? ⟨b, off + j * 2, none⟩ = some (.int .i64 p.1) ∧ w.cell? ⟨b, off + j * 2 + 1, none⟩ = some u) ∧
  ∀ (j : Nat) (p : Int × List Rc) (u : Value), ps[j]? = some p → us[j]? = some u → RecsAt w u p.2
theorem ParcelsAt.ge {w w' : World} {v : Value} {ps : List (Int × List Rc)} (h : ParcelsAt w v ps) (hg : Ge w w') : ParcelsAt w' v ps := by
  obtain ⟨A, cap, us, rfl, hle, hul, hc, hr⟩ := h
  refine ⟨A, cap, us, rfl, hle, hul, fun hne => ?_, fun j p u h1 h2 => (hr j p u h1 h2).ge hg⟩
  obtain ⟨b, off, rfl, hb, hcell⟩ := hc hne
  exact ⟨b, off, rfl, Nat.lt_of_lt_of_le hb hg.size, fun j p u h1 h2 => ⟨(hg.cell (p := ⟨b, off + j * 2, none⟩) hb).trans (hcell j p u h1 h2).1, (hg.cell (p := ⟨b, off + j * 2 + 1, none⟩) hb).trans (hcell j p u h1 h2).2⟩⟩
theorem ParcelsAt.nil (w : World) : ParcelsAt w (.slice none 0 0) [] := ⟨none, 0, [], rfl, Nat.le_refl _, rfl, fun h => absurd rfl h, fun j p u h => by simp at h⟩

/-- cells of a row of pairs, by an index list -/
def pairC (is : List Nat) (V : Nat → Value) : List Value := is.flatMap fun (i : Nat) => [.int .i64 (i : Int), V i]
theorem pairC_len (is : List Nat) (V : Nat → Value) : (pairC is V).length = is.length * 2 := by
  induction is with
  | nil => rfl
  | cons r t ih =>
    have : pairC (r :: t) V = [.int .i64 (r : Int), V r] ++ pairC t V := rfl
    rw [this, List.length_append, ih]
    simp
    omega
theorem pairC_at (is : List Nat) (V : Nat → Value) : ∀ (j i : Nat), is[j]? = some i → (pairC is V)[j * 2]? = some (.int .i64 (i : Int)) ∧ (pairC is V)[j * 2 + 1]? = some (V i) := by
  induction is with
  | nil => intro j r h; simp at h
  | cons q t ih =>
    intro j r h
    have e : pairC (q :: t) V = Value.int .i64 (q : Int) :: V q :: pairC t V := rfl
    rw [e]
    cases j with
    | zero => simp at h; subst h; exact ⟨rfl, rfl⟩
    | succ j =>
      rw [List.getElem?_cons_succ] at h
      have := ih j r h
      rw [show (j + 1) * 2 = j * 2 + 1 + 1 by omega, show j * 2 + 1 + 1 + 1 = (j * 2 + 1) + 1 + 1 by omega]
      simp only [List.getElem?_cons_succ]
      exact this
theorem ownCells {w : World} {base : Nat} {e : TypeId} {size : Nat} {A : Option Addr} {n cap : Nat} {xs : List Value} (h : w.ownsRow base e size (.slice A n cap) n xs) (hn : 0 < n) :
    ∃ g, A = some ⟨g, 0, none⟩ ∧ g < w.heap.size ∧ ∀ k u, xs[k]? = some u → w.cell? ⟨g, 0 + k, none⟩ = some u := by
  obtain ⟨h1, h2⟩ := h
  rcases h2 with ⟨_, h0⟩ | ⟨g, cap', cur, hv, hg, hh, hle, hm, hs, ht⟩
  · omega
  · cases hv
    refine ⟨g, rfl, (Array.getElem?_eq_some_iff.1 hh).1, fun k u hu => ?_⟩
    rw [← ht] at hu
    have hk : k < n * size := by
      rw [List.getElem?_take] at hu
      split at hu
      · assumption
      · cases hu
    rw [List.getElem?_take, if_pos hk, Array.getElem?_toList] at hu
    simp only [World.cell?, hh, Nat.zero_add]
    simpa using hu

theorem parcels_of_rows {w w2 : World} {R n base : Nat} {V : Nat → Value} {L : Nat → List Rc} {is : List Nat} {A : Option Addr} {cap : Nat} (hrows : Rows w R n V L) (hg : Ge w w2) (his : ∀ i ∈ is, i < n)
    (hown : w2.ownsRow base 39 2 (.slice A is.length cap) is.length (pairC is V)) : ParcelsAt w2 (.slice A is.length cap) (is.map fun (i : Nat) => ((i : Int), L i)) := by
  have hle : is.length ≤ cap := by
    rcases hown.2 with ⟨h, h0⟩ | ⟨g, cap', cur, hv, hg, hh, hle, _⟩
    · omega
    · simp at hv
      omega
  refine ⟨A, cap, is.map V, by simp, by simpa using hle, by simp, fun hne => ?_, fun j p u h1 h2 => ?_⟩
  · have hpos : 0 < is.length := by
      cases is with
      | nil => simp at hne
      | cons _ _ => simp
    obtain ⟨g, rfl, hlt, hc⟩ := ownCells hown hpos
    refine ⟨g, 0, rfl, hlt, fun j p u h1 h2 => ?_⟩
    simp only [List.getElem?_map, Option.map_eq_some_iff] at h1 h2
    obtain ⟨i, hi, rfl⟩ := h1
    obtain ⟨i', hi', rfl⟩ := h2
    rw [hi] at hi'
    cases hi'
    obtain ⟨e1, e2⟩ := pairC_at is V j i hi
    rw [Nat.add_assoc]
    exact ⟨hc _ _ e1, hc _ _ e2⟩
  · simp only [List.getElem?_map, Option.map_eq_some_iff] at h1 h2
    obtain ⟨i, hi, rfl⟩ := h1
    obtain ⟨i', hi', rfl⟩ := h2
    rw [hi] at hi'
    cases hi'
    exact ((hrows.own i (his i (List.mem_of_getElem? hi))).ge hg).recsAt

theorem info39 : (Tryd.prog.info? 39).map (fun i => (i.zero, i.size, i.bytes)) = some (some (.agg #[.int .i64 0, .slice none 0 0]), 2, 32) := by kernel_rfl

/-- how Part ends behind its guard -/
def PartEnd (kind : Int) (wk n : Nat) (rs : List Rc) (w : World) (e : Ending) (w' : World) : Prop :=
  ((rs.all (fun r => okB r.2) = true ∧ ∃ v, e = .returned (.tuple #[v, .int .i64 0]) ∧ ParcelsAt w' v (partL kind (wk : Int) (n : Int) rs)) ∨
   ¬ rs.all (fun r => okB r.2) = true ∧ e = .returned (.tuple #[.slice none 0 0, .int .i64 50])) ∧ Ge w w'
theorem not_all {rs : List Rc} {k : Nat} {key : Int} {s : ByteArray} (h : rs[k]? = some (key, s)) (hs : okB s = false) : ¬ rs.all (fun r => okB r.2) = true := by
  intro ha
  have := List.all_eq_true.1 ha (key, s) (List.mem_of_getElem? h)
  rw [hs] at this
  cases this

end Go.Proofs.YtidblliobkjeeaaDoor
