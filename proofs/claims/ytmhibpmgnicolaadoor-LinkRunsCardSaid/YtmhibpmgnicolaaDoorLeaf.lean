/-
  What came in, cell by cell.
-/
import Derived.Test.YtmhibpmgnicolaaDoorMsg
import Derived.SliceStrings
import Derived.Deep.Matrix
import Derived.Deep.Strs
import Derived.OpenShut
namespace Go.Proofs.YtmhibpmgnicolaaDoor
open Go.ChangeShapes Go.WideShapes Go.ChangeAt Go.RowKit Go.Deep

/-- the type of a row's cell i -/
def leafAt (P : Program) : Nat → TypeId → Nat → Option TypeId
  | 0, _, _ => none
  | n + 1, t, i => match P.underlying t with
    | some (.struct fs) => fs.toList.findSome? fun f => if f.offset ≤ i ∧ i < f.offset + P.cellsOf f.type then leafAt P n f.type (i - f.offset) else none
    | some (.array k e) => if i / P.cellsOf e < k ∧ 0 < P.cellsOf e then leafAt P n e (i % P.cellsOf e) else none
    | some (.int _) => if i = 0 then some t else none
    | some .bool => if i = 0 then some t else none
    | some .string => if i = 0 then some t else none
    | some (.slice _) => if i = 0 then some t else none
    | _ => none

theorem sub_get (cs : List Value) (off n i : Nat) (h : i < n) : ((cs.drop off).take n)[i]? = cs[off + i]? := by
  rw [List.getElem?_take, if_pos h, List.getElem?_drop]

variable {H : Type} {enc : TypeId × Value → H} {P : Program} {w : World} {base : Nat} {spare : Nat → Bool} {held : Bool}
theorem leaf_trod : ∀ (n : Nat) (t : TypeId) (i : Nat) (u : TypeId) (cs : List Value) (x : DataW H × List MemPlace) (fuel : Nat), leafAt P n t i = some u → DataW.trod enc P w base spare held fuel t cs = some x →
    ∃ v fuel' y, cs[i]? = some v ∧ DataW.trod enc P w base spare held fuel' u [v] = some y
  | 0, _, _, _, _, _, _, h, _ => by cases h
  | n + 1, t, i, u, cs, x, fuel, h, ht => by
    unfold leafAt at h
    split at h
    · rename_i fs hu
      obtain ⟨f, hf, hx⟩ := List.exists_of_findSome?_eq_some h
      split at hx
      · rename_i hi
        obtain ⟨xs, m, _, _, hl, hxl, hfs⟩ := DataW.trod_struct hu ht
        obtain ⟨j, hj, hjf⟩ := List.getElem_of_mem hf
        have hfj : fs[j]? = some f := by
          rw [← Array.getElem?_toList, List.getElem?_eq_getElem hj, hjf]
        have hjx : j < xs.length := by rw [hxl]; simpa using hj
        have h2 := (hfs j f hfj).trans (List.getElem?_eq_getElem hjx)
        obtain ⟨v, fuel', y, h3, h4⟩ := leaf_trod n f.type (i - f.offset) u _ _ _ hx h2
        rw [sub_get _ _ _ _ (by omega), show f.offset + (i - f.offset) = i by omega] at h3
        exact ⟨v, fuel', y, h3, h4⟩
      · cases hx
    · rename_i k e hu
      split at h
      · rename_i hi
        obtain ⟨xs, m, _, _, hl, hxl, hfs⟩ := DataW.trod_array hu ht
        have hil : i / P.cellsOf e < xs.length := by omega
        have h2 := (hfs _ hi.1).trans (List.getElem?_eq_getElem hil)
        obtain ⟨v, fuel', y, h3, h4⟩ := leaf_trod n e (i % P.cellsOf e) u _ _ _ h h2
        rw [sub_get _ _ _ _ (Nat.mod_lt _ hi.2), show i / P.cellsOf e * P.cellsOf e + i % P.cellsOf e = i by rw [Nat.mul_comm]; exact Nat.div_add_mod i _] at h3
        exact ⟨v, fuel', y, h3, h4⟩
      · cases h
    · rename_i k hu
      split at h
      · rename_i hi
        cases h
        obtain ⟨n', rfl, _⟩ := DataW.trod_int hu ht
        exact ⟨_, fuel, x, by rw [hi]; rfl, ht⟩
      · cases h
    · rename_i hu
      split at h
      · rename_i hi
        cases h
        obtain ⟨n', rfl, _⟩ := DataW.trod_bool hu ht
        exact ⟨_, fuel, x, by rw [hi]; rfl, ht⟩
      · cases h
    · rename_i hu
      split at h
      · rename_i hi
        cases h
        obtain ⟨n', rfl, _⟩ := DataW.trod_string hu ht
        exact ⟨_, fuel, x, by rw [hi]; rfl, ht⟩
      · cases h
    · rename_i e hu
      split at h
      · rename_i hi
        cases h
        rcases DataW.trod_slice hu ht with ⟨rfl, _⟩ | ⟨a, len, cap, _, _, _, _, rfl, _⟩
        · exact ⟨_, fuel, x, by rw [hi]; rfl, ht⟩
        · exact ⟨_, fuel, x, by rw [hi]; rfl, ht⟩
      · cases h
    · cases h
theorem leaf_int {n : Nat} {t : TypeId} {i : Nat} {k : IntKind} {cs : List Value} {x : DataW H × List MemPlace} {fuel : Nat} (hl : (leafAt P n t i).bind P.underlying = some (.int k)) (h : DataW.trod enc P w base spare held fuel t cs = some x) : ∃ z, cs[i]? = some (.int k z) := by
  obtain ⟨u, hl, hu⟩ := Option.bind_eq_some_iff.1 hl
  obtain ⟨v, fuel', y, h1, h2⟩ := leaf_trod n t i u cs x fuel hl h
  obtain ⟨z, e, _⟩ := DataW.trod_int hu h2
  cases e
  exact ⟨z, h1⟩
theorem leaf_str {n : Nat} {t : TypeId} {i : Nat} {cs : List Value} {x : DataW H × List MemPlace} {fuel : Nat} (hl : (leafAt P n t i).bind P.underlying = some (.string)) (h : DataW.trod enc P w base spare held fuel t cs = some x) : ∃ z, cs[i]? = some (.string z) := by
  obtain ⟨u, hl, hu⟩ := Option.bind_eq_some_iff.1 hl
  obtain ⟨v, fuel', y, h1, h2⟩ := leaf_trod n t i u cs x fuel hl h
  obtain ⟨z, e, _⟩ := DataW.trod_string hu h2
  cases e
  exact ⟨z, h1⟩
theorem leaf_bool {n : Nat} {t : TypeId} {i : Nat} {cs : List Value} {x : DataW H × List MemPlace} {fuel : Nat} (hl : (leafAt P n t i).bind P.underlying = some (.bool)) (h : DataW.trod enc P w base spare held fuel t cs = some x) : ∃ z, cs[i]? = some (.bool z) := by
  obtain ⟨u, hl, hu⟩ := Option.bind_eq_some_iff.1 hl
  obtain ⟨v, fuel', y, h1, h2⟩ := leaf_trod n t i u cs x fuel hl h
  obtain ⟨z, e, _⟩ := DataW.trod_bool hu h2
  cases e
  exact ⟨z, h1⟩
end Go.Proofs.YtmhibpmgnicolaaDoor
