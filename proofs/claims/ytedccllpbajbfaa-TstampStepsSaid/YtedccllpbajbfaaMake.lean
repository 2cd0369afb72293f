/-
  Make: a time of an epoch and counters.
-/
import Derived.Test.YtedccllpbajbfaaCheck
import Derived.Test.YtedccllpbajbfaaPlainB
import Derived.Lib.Hide
import Derived.Laws.IdiomCopy
namespace Go.Proofs.Ytedccllpbajbfaa
open Go.RowKit

/-- the slice value holds these numbers -/
def IntsAt (w : World) (sv : Value) (xs : List Int) : Prop :=
  ∃ (A : Option Addr) (cap : Nat), sv = .slice A xs.length cap ∧ (xs ≠ [] → ∃ b off, A = some ⟨b, off, none⟩ ∧ b < w.heap.size ∧ ∀ j, j < xs.length → w.cell? ⟨b, off + j, none⟩ = some (.int .i64 (xs[j]?.getD 0)))
theorem IntsAt.below {w w' : World} {sv : Value} {xs : List Int} (h : IntsAt w sv xs) (hb : Below w.heap.size w w') : IntsAt w' sv xs := by
  obtain ⟨A, cap, rfl, h⟩ := h
  refine ⟨A, cap, rfl, fun hne => ?_⟩
  obtain ⟨b, off, rfl, hlt, hc⟩ := h hne
  exact ⟨b, off, rfl, Nat.lt_of_lt_of_le hlt hb.size, fun j hj => (hb.cell (p := ⟨b, off + j, none⟩) hlt).trans (hc j hj)⟩

theorem copy_in (w : World) (A : Obj) (B : Array Value) (hB : B.size = 6) (b off cap : Nat) (xs : List Int) (hn : xs.length ≤ 4) (hb : b < w.heap.size)
    (hcell : ∀ j, j < xs.length → w.cell? ⟨b, off + j, none⟩ = some (.int .i64 (xs[j]?.getD 0))) :
    (Builtin.copy_ #[30, 30] 3 #[.slice (some ⟨w.heap.size + 1, 2, none⟩) 4 4, .slice (some ⟨b, off, none⟩) xs.length cap]).run Try.prog ((w.alloc A).alloc (.cells B 24)) =
      .ok (goInt xs.length) (((w.alloc A).alloc (.cells B 24)).setCells (w.heap.size + 1) 2 (xs.map (Value.int .i64))) := by
  have hnew : ∀ o, ((w.alloc A).alloc (.cells B 24)).cell? ⟨w.heap.size + 1, o, none⟩ = B[o]? := fun o => by
    have := World.cell?_alloc_new (w.alloc A) B 24 o
    rwa [World.size_alloc] at this
  have hfr : ∀ o, ((w.alloc A).alloc (.cells B 24)).frozen? ⟨w.heap.size + 1, o, none⟩ = false := fun o => by
    have : ((w.alloc A).alloc (.cells B 24)).heap[w.heap.size + 1]? = some (.cells B 24 (0, 0)) := by
      have := heap_alloc_new (w.alloc A) (.cells B 24)
      rwa [World.size_alloc] at this
    unfold World.frozen?
    simp only [this]
    simp
  have := run_copy_cells (P := Try.prog) ((w.alloc A).alloc (.cells B 24)) 30 30 3 2 (w.heap.size + 1) 2 4 4 ⟨b, off, none⟩ xs.length cap (xs.map (Value.int .i64)) Try.underlying30 (by kernel_rfl) (by rw [List.length_map]; exact (Nat.min_eq_left hn).symm) ?_ ?_ ?_ ?_
  · simpa using this
  · intro j v hj
    have hjl : j < xs.length := by
      have := (List.getElem?_eq_some_iff.1 hj).1
      simpa using this
    have hplain : (⟨b, off, none⟩ : Addr).add j = ⟨b, off + j, none⟩ := by unfold Addr.add; split <;> simp_all
    rw [hplain, World.cell?_alloc_lt _ _ _ (by simp; omega), World.cell?_alloc_lt _ _ _ (by simpa using hb), hcell j hjl]
    simp [hjl] at hj ⊢
    exact hj
  · intro j hj
    rw [hnew]
    simp at hj
    simp [hB]; omega
  · intro j _
    exact hfr _
  · intro v hv
    simp at hv
    obtain ⟨n, _, rfl⟩ := hv
    rfl

set_option maxHeartbeats 4000000 in
theorem make_any (ep : Int) (sv : Value) (xs : List Int) (w : World) (hs : IntsAt w sv xs) (hlen : xs.length ≤ 1000000) :
    Calls Try.prog 15 #[.int .i64 ep, sv] w fun e w' =>
      e = .returned (.tuple #[.agg #[.int .i64 (makeT ep xs).e, .int .i64 (makeT ep xs).d, .int .i64 (makeT ep xs).l0, .int .i64 (makeT ep xs).l1, .int .i64 (makeT ep xs).l2, .int .i64 (makeT ep xs).l3], .int .i64 (makeE ep xs)]) ∧ Below w.heap.size w w' := by
  obtain ⟨A, cap, rfl, hA⟩ := hs
  by_cases h4 : 4 < xs.length
  · have H4 := Lib.hid h4
    clear hA
    go_enter Try.func15, Try.ntmps15
    go_wp2
    go_returns
    have := H4.out
    exact ⟨by simp [makeT, makeE, this, Nat.not_le.2 this, tz], by go_grown⟩
  · by_cases hc : Chk (mkT ep xs)
    · have H := Lib.hid (check_yes hc)
      have HC := Lib.hid hc
      clear hc
      cases xs with
      | nil =>
        have hcp := fun W => run_copy_none (P := Try.prog) W 30 30 3 2 (some ⟨w.heap.size + 1, 2, none⟩) A 4 4 0 cap Try.underlying30 (by kernel_rfl) rfl
        clear hA h4
        go_enter Try.func15, Try.ntmps15
        go_wp2_with fail
        refine (H.out _).mono ?_
        rintro e w1 ⟨rfl, rfl⟩
        go_wp2
        go_returns
        exact ⟨by rw [makeT_yes (by simp) HC.out, makeE_yes (by simp) HC.out]; rfl, by go_grown⟩
      | cons x0 xs =>
        obtain ⟨b, off, rfl, hlt, hcell⟩ := hA (by simp)
        clear hA
        rcases xs with _ | ⟨x1, xs⟩
        · have hcp := copy_in w (.cells #[.int .i64 0, .int .i64 0, .int .i64 0, .int .i64 0, .int .i64 0, .int .i64 0] 24) #[.int .i64 ep, .int .i64 1, .int .i64 0, .int .i64 0, .int .i64 0, .int .i64 0] rfl b off cap [x0] (by simp) hlt hcell
          simp [World.setCells, go_sem, goInt] at hcp
          clear hcell h4
          go_enter Try.func15, Try.ntmps15
          go_wp2_with fail
          refine (H.out _).mono ?_
          rintro e w1 ⟨rfl, rfl⟩
          go_wp2
          go_returns
          exact ⟨by rw [makeT_yes (by simp) HC.out, makeE_yes (by simp) HC.out]; rfl, by go_grown⟩
        rcases xs with _ | ⟨x2, xs⟩
        · have hcp := copy_in w (.cells #[.int .i64 0, .int .i64 0, .int .i64 0, .int .i64 0, .int .i64 0, .int .i64 0] 24) #[.int .i64 ep, .int .i64 2, .int .i64 0, .int .i64 0, .int .i64 0, .int .i64 0] rfl b off cap [x0, x1] (by simp) hlt hcell
          simp [World.setCells, go_sem, goInt] at hcp
          clear hcell h4
          go_enter Try.func15, Try.ntmps15
          go_wp2_with fail
          refine (H.out _).mono ?_
          rintro e w1 ⟨rfl, rfl⟩
          go_wp2
          go_returns
          exact ⟨by rw [makeT_yes (by simp) HC.out, makeE_yes (by simp) HC.out]; rfl, by go_grown⟩
        rcases xs with _ | ⟨x3, xs⟩
        · have hcp := copy_in w (.cells #[.int .i64 0, .int .i64 0, .int .i64 0, .int .i64 0, .int .i64 0, .int .i64 0] 24) #[.int .i64 ep, .int .i64 3, .int .i64 0, .int .i64 0, .int .i64 0, .int .i64 0] rfl b off cap [x0, x1, x2] (by simp) hlt hcell
          simp [World.setCells, go_sem, goInt] at hcp
          clear hcell h4
          go_enter Try.func15, Try.ntmps15
          go_wp2_with fail
          refine (H.out _).mono ?_
          rintro e w1 ⟨rfl, rfl⟩
          go_wp2
          go_returns
          exact ⟨by rw [makeT_yes (by simp) HC.out, makeE_yes (by simp) HC.out]; rfl, by go_grown⟩
        rcases xs with _ | ⟨x4, xs⟩
        · have hcp := copy_in w (.cells #[.int .i64 0, .int .i64 0, .int .i64 0, .int .i64 0, .int .i64 0, .int .i64 0] 24) #[.int .i64 ep, .int .i64 4, .int .i64 0, .int .i64 0, .int .i64 0, .int .i64 0] rfl b off cap [x0, x1, x2, x3] (by simp) hlt hcell
          simp [World.setCells, go_sem, goInt] at hcp
          clear hcell h4
          go_enter Try.func15, Try.ntmps15
          go_wp2_with fail
          refine (H.out _).mono ?_
          rintro e w1 ⟨rfl, rfl⟩
          go_wp2
          go_returns
          exact ⟨by rw [makeT_yes (by simp) HC.out, makeE_yes (by simp) HC.out]; rfl, by go_grown⟩
        · simp at h4
    · have H := Lib.hid (check_no hc)
      have HC := Lib.hid hc
      clear hc
      cases xs with
      | nil =>
        have hcp := fun W => run_copy_none (P := Try.prog) W 30 30 3 2 (some ⟨w.heap.size + 1, 2, none⟩) A 4 4 0 cap Try.underlying30 (by kernel_rfl) rfl
        clear hA h4
        go_enter Try.func15, Try.ntmps15
        go_wp2_with fail
        refine (H.out _).mono ?_
        rintro e w1 ⟨rfl, rfl⟩
        go_wp2
        go_returns
        exact ⟨by rw [makeT_no HC.out, makeE_no (by simp) HC.out]; rfl, by go_grown⟩
      | cons x0 xs =>
        obtain ⟨b, off, rfl, hlt, hcell⟩ := hA (by simp)
        clear hA
        rcases xs with _ | ⟨x1, xs⟩
        · have hcp := copy_in w (.cells #[.int .i64 0, .int .i64 0, .int .i64 0, .int .i64 0, .int .i64 0, .int .i64 0] 24) #[.int .i64 ep, .int .i64 1, .int .i64 0, .int .i64 0, .int .i64 0, .int .i64 0] rfl b off cap [x0] (by simp) hlt hcell
          simp [World.setCells, go_sem, goInt] at hcp
          clear hcell h4
          go_enter Try.func15, Try.ntmps15
          go_wp2_with fail
          refine (H.out _).mono ?_
          rintro e w1 ⟨rfl, rfl⟩
          go_wp2
          go_returns
          exact ⟨by rw [makeT_no HC.out, makeE_no (by simp) HC.out]; rfl, by go_grown⟩
        rcases xs with _ | ⟨x2, xs⟩
        · have hcp := copy_in w (.cells #[.int .i64 0, .int .i64 0, .int .i64 0, .int .i64 0, .int .i64 0, .int .i64 0] 24) #[.int .i64 ep, .int .i64 2, .int .i64 0, .int .i64 0, .int .i64 0, .int .i64 0] rfl b off cap [x0, x1] (by simp) hlt hcell
          simp [World.setCells, go_sem, goInt] at hcp
          clear hcell h4
          go_enter Try.func15, Try.ntmps15
          go_wp2_with fail
          refine (H.out _).mono ?_
          rintro e w1 ⟨rfl, rfl⟩
          go_wp2
          go_returns
          exact ⟨by rw [makeT_no HC.out, makeE_no (by simp) HC.out]; rfl, by go_grown⟩
        rcases xs with _ | ⟨x3, xs⟩
        · have hcp := copy_in w (.cells #[.int .i64 0, .int .i64 0, .int .i64 0, .int .i64 0, .int .i64 0, .int .i64 0] 24) #[.int .i64 ep, .int .i64 3, .int .i64 0, .int .i64 0, .int .i64 0, .int .i64 0] rfl b off cap [x0, x1, x2] (by simp) hlt hcell
          simp [World.setCells, go_sem, goInt] at hcp
          clear hcell h4
          go_enter Try.func15, Try.ntmps15
          go_wp2_with fail
          refine (H.out _).mono ?_
          rintro e w1 ⟨rfl, rfl⟩
          go_wp2
          go_returns
          exact ⟨by rw [makeT_no HC.out, makeE_no (by simp) HC.out]; rfl, by go_grown⟩
        rcases xs with _ | ⟨x4, xs⟩
        · have hcp := copy_in w (.cells #[.int .i64 0, .int .i64 0, .int .i64 0, .int .i64 0, .int .i64 0, .int .i64 0] 24) #[.int .i64 ep, .int .i64 4, .int .i64 0, .int .i64 0, .int .i64 0, .int .i64 0] rfl b off cap [x0, x1, x2, x3] (by simp) hlt hcell
          simp [World.setCells, go_sem, goInt] at hcp
          clear hcell h4
          go_enter Try.func15, Try.ntmps15
          go_wp2_with fail
          refine (H.out _).mono ?_
          rintro e w1 ⟨rfl, rfl⟩
          go_wp2
          go_returns
          exact ⟨by rw [makeT_no HC.out, makeE_no (by simp) HC.out]; rfl, by go_grown⟩
        · simp at h4
end Go.Proofs.Ytedccllpbajbfaa
