/-
  Join: bytes one behind the other.
-/
import Derived.Test.YtonpoloahagddaaShelf
import Derived.Test.YtonpoloahagddaaPut
namespace Go.Proofs.Ytonpoloahagddaa
open Go.RowKit

/-- the slice value holds slices that hold these bytes -/
def PartsW (w : World) (v : Value) (ls : List (List Int)) : Prop :=
  ∃ (A : Option Addr) (cap : Nat) (vs : List Value), v = .slice A ls.length cap ∧ ls.length ≤ cap ∧ vs.length = ls.length ∧ (∀ l ∈ ls, IsB l) ∧
    (ls ≠ [] → ∃ b off, A = some ⟨b, off, none⟩ ∧ b < w.heap.size ∧ ∀ (j : Nat) u, vs[j]? = some u → w.cell? ⟨b, off + j, none⟩ = some u) ∧
    ∀ (j : Nat) u l, vs[j]? = some u → ls[j]? = some l → BytesAt w u l
theorem PartsW.ge {w w' : World} {v : Value} {ls : List (List Int)} (h : PartsW w v ls) (hb : Ge w w') : PartsW w' v ls := by
  obtain ⟨A, cap, vs, rfl, hle, hl, hi, h1, h2⟩ := h
  refine ⟨A, cap, vs, rfl, hle, hl, hi, fun hne => ?_, fun j u l hu hl' => (h2 j u l hu hl').ge hb⟩
  obtain ⟨b, off, rfl, hlt, hc⟩ := h1 hne
  exact ⟨b, off, rfl, Nat.lt_of_lt_of_le hlt hb.size, fun j u hu => (hb.cell (p := ⟨b, off + j, none⟩) hlt).trans (hc j u hu)⟩

theorem cell_lt {w : World} {b o : Nat} {v : Value} (h : w.cell? ⟨b, o, none⟩ = some v) : b < w.heap.size := by
  rcases Nat.lt_or_ge b w.heap.size with h1 | h1
  · exact h1
  · simp [World.cell?, Array.getElem?_eq_none h1] at h

theorem bytesOf_inj {xs ys : List Int} (hx : IsB xs) (hy : IsB ys) (h : Lib.bytesOf xs = Lib.bytesOf ys) : xs = ys := by
  refine strOfNums_inj hx hy ?_
  rw [strOfNums_data, strOfNums_data]
  exact h

theorem fresh_bytes {B : Nat} {w : World} {v : Value} {xs : List Int} (hx : IsB xs) (h : Lib.FreshBytes B w v (Lib.bytesOf xs)) : BytesAt w v xs := by
  have hl : (Lib.bytesOf xs).length = xs.length := by simp [Lib.bytesOf]
  obtain ⟨g, cap, zs, rfl, hB, hle, hm, hz, hzb, hb, hc, -⟩ := h
  rw [hl] at hle hb ⊢
  have e : zs.take xs.length = xs := bytesOf_inj (fun x hx' => by have := hzb x (List.mem_of_mem_take hx'); omega) hx hb
  refine ⟨some ⟨g, 0, none⟩, cap, rfl, hle, fun hne => ?_⟩
  have hpos : 0 < xs.length := List.length_pos_iff.2 hne
  refine ⟨g, 0, rfl, cell_lt (hc 0 (by omega)), fun j hj => ?_⟩
  rw [Nat.zero_add, hc j (by omega)]
  have : (zs.take xs.length)[j]? = xs[j]? := by rw [e]
  rw [List.getElem?_take, if_pos hj] at this
  rw [← this]
  simp [List.getD]

theorem holds_of {w : World} {v : Value} {xs : List Int} (hx : IsB xs) (h : BytesAt w v xs) : Lib.HoldsBytes w v (Lib.bytesOf xs) := by
  obtain ⟨A, cap, rfl, hle, hc⟩ := h
  refine ⟨A, cap, by simp [Lib.bytesOf], fun hA => ?_, fun a ha i x hx' => ?_⟩
  · rcases xs with _ | ⟨y, ys⟩
    · rfl
    · obtain ⟨b, off, h, _⟩ := hc (by simp)
      rw [hA] at h
      cases h
  · have hi : i < xs.length := by have := (List.getElem?_eq_some_iff.1 hx').1; simpa [Lib.bytesOf] using this
    obtain ⟨b, off, h, _, hcell⟩ := hc (by intro e; subst e; simp at hi)
    rw [h] at ha
    cases ha
    rw [addr_add, hcell i hi]
    have hb := hx xs[i] (List.getElem_mem hi)
    simp [Lib.bytesOf, hi] at hx'
    rw [List.getElem?_eq_getElem hi]
    subst hx'
    simp
    omega

theorem join_flatten (ls : List (List Int)) : Lib.join (ls.map Lib.bytesOf) [] = Lib.bytesOf ls.flatten := by
  cases ls with
  | nil => rfl
  | cons l ls =>
    rw [List.map_cons, Lib.join_cons]
    have : ∀ r : List (List Int), Lib.joinTail [] (r.map Lib.bytesOf) = Lib.bytesOf r.flatten := by
      intro r
      induction r with
      | nil => rfl
      | cons x r ih =>
        simp only [Lib.joinTail, List.map_cons, List.nil_append, List.flatten_cons] at ih ⊢
        rw [ih]
        simp [Lib.bytesOf]
    rw [this]
    simp [Lib.bytesOf]
theorem lens_eq (ls : List (List Int)) : Lib.lens (ls.map Lib.bytesOf) = ls.flatten.length := by
  induction ls with
  | nil => rfl
  | cons l ls ih =>
    simp only [Lib.lens, List.map_cons, List.sum_cons, List.flatten_cons, List.length_append] at ih ⊢
    rw [ih]
    simp [Lib.bytesOf]
theorem isB_flatten {ls : List (List Int)} (h : ∀ l ∈ ls, IsB l) : IsB ls.flatten := by
  intro x hx
  obtain ⟨l, hl, hx⟩ := List.mem_flatten.1 hx
  exact h l hl x hx

theorem join_any {w : World} {v : Value} {ls : List (List Int)} (h : PartsW w v ls) (h1 : ls.length ≤ 1000000) (h2 : ls.flatten.length ≤ 140737488355328) :
    Calls Try.prog 34 #[v, .slice none 0 0] w fun e w' => ∃ v', e = .returned v' ∧ BytesAt w' v' ls.flatten ∧ Ge w w' := by
  obtain ⟨A, cap, vs, rfl, hle, hl, hi, hc, hb⟩ := h
  rcases ls with _ | ⟨l0, _ | ⟨l1, ls⟩⟩
  · refine (Try.bytes_Join_none A cap _ w).mono ?_
    rintro e w' ⟨rfl, rfl⟩
    exact ⟨_, rfl, ⟨_, 0, rfl, Nat.le_refl _, fun h => absurd rfl h⟩, (Ge.refl w).alloc _⟩
  · obtain ⟨b, off, rfl, hlt, hcell⟩ := hc (by simp)
    match vs, hl with
    | [v0], _ =>
      have c0 := hcell 0 v0 rfl
      have b0 := hb 0 v0 l0 rfl rfl
      have i0 := hi l0 (by simp)
      obtain ⟨p0, cap0, hv0, hp0, hx0⟩ := holds_of i0 b0
      subst hv0
      rw [Nat.add_zero] at c0
      by_cases hz : l0 = []
      · subst hz
        refine (Try.bytes_Join_one_empty b off cap p0 cap0 _ w (by simpa [Lib.bytesOf] using c0)).mono ?_
        rintro e w' ⟨rfl, rfl⟩
        exact ⟨_, rfl, ⟨none, 0, rfl, Nat.le_refl _, fun h => absurd rfl h⟩, Ge.refl _⟩
      · have hpos : 0 < (Lib.bytesOf l0).length := by simpa [Lib.bytesOf] using List.length_pos_iff.2 hz
        cases p0 with
        | none => exact absurd (hp0 rfl) (by intro e; rw [e] at hpos; simp at hpos)
        | some ad =>
          refine (Try.bytes_Join_one b off cap ad cap0 (Lib.bytesOf l0) _ w c0 (hx0 ad rfl) hpos (by simp at h2; simp [Lib.bytesOf]; omega)).mono ?_
          rintro e w' ⟨v', rfl, hf, hg⟩
          exact ⟨_, rfl, by simpa using fresh_bytes i0 hf, hg⟩
  · obtain ⟨b, off, rfl, hlt, hcell⟩ := hc (by simp)
    have hs : Lib.HoldsBytes w (.slice none 0 0) [] := ⟨none, 0, rfl, fun _ => rfl, fun a ha => by cases ha⟩
    refine (Try.bytes_Join_many b off (l0 :: l1 :: ls).length cap vs ((l0 :: l1 :: ls).map Lib.bytesOf) _ [] w (by simp) (by simp) ⟨by rw [hl]; simp, fun i u hu => by rw [addr_add]; exact hcell i u hu, fun i u l hu hl' => ?_⟩ hle hs (by omega) (by rw [lens_eq]; simp only [List.length_nil, Nat.zero_mul]; omega)).mono ?_
    · rw [List.getElem?_map] at hl'
      obtain ⟨l', hl1, rfl⟩ := Option.map_eq_some_iff.1 hl'
      exact holds_of (hi l' (List.mem_of_getElem? hl1)) (hb i u l' hu hl1)
    · rintro e w' ⟨v', rfl, hf, hg⟩
      rw [join_flatten] at hf
      exact ⟨_, rfl, fresh_bytes (isB_flatten hi) hf, hg⟩

set_option maxHeartbeats 1000000 in
theorem wjoin_any {w : World} {v : Value} {ls : List (List Int)} (h : PartsW w v ls) (h1 : ls.length ≤ 1000000) (h2 : ls.flatten.length ≤ 140737488355328) :
    Calls Try.prog 20 #[v] w fun e w' => ∃ v', e = .returned v' ∧ BytesAt w' v' ls.flatten ∧ Ge w w' := by
  have J := Lib.hid (join_any h h1 h2)
  go_enter Try.func20, Try.ntmps20
  go_wp2_with fail
  refine J.out.mono ?_
  rintro e w1 ⟨v', rfl, hb, hg⟩
  have HB := Lib.hid hb
  have HG := Lib.hid hg
  clear hb hg
  go_wp2
  go_returns
  exact ⟨_, rfl, HB.out, HG.out⟩
end Go.Proofs.Ytonpoloahagddaa
