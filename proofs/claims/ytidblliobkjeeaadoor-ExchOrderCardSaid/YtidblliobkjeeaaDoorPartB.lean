/-
  Part, whatever is asked of it.
-/
import Derived.Test.YtidblliobkjeeaaDoorPart
namespace Go.Proofs.YtidblliobkjeeaaDoor
open Go.RowKit

set_option maxHeartbeats 2000000 in
theorem part_arg (w : World) (kind worker workers : Int) (A : Option Addr) (m cap : Nat) (h : mayB worker workers = false ∨ insV kind < 0) :
    Calls Tryd.prog 18 #[.int .i64 kind, .int .i64 worker, .int .i64 workers, .slice A m cap] w fun e w' => e = .returned (.tuple #[.slice none 0 0, .int .i64 1]) ∧ Ge w w' := by
  have hM := Lib.hid (may_any worker workers)
  have hI := Lib.hid (ins_any kind)
  cases hm : mayB worker workers with
  | false =>
    rw [hm] at hM
    clear hm h hI
    go_enter Tryd.func18, Tryd.ntmps18
    go_wp2_with fail
    refine (hM.out _).mono ?_
    rintro e w1 ⟨rfl, rfl⟩
    go_wp2
    go_returns
    exact ⟨rfl, Ge.refl _⟩
  | true =>
    have hi : insV kind < 0 := by
      rcases h with h | h
      · rw [hm] at h; cases h
      · exact h
    rw [hm] at hM
    clear hm h
    generalize insV kind = z at *
    go_enter Tryd.func18, Tryd.ntmps18
    go_wp2_with fail
    refine (hM.out _).mono ?_
    rintro e w1 ⟨rfl, rfl⟩
    go_wp2_with fail
    refine (hI.out _).mono ?_
    rintro e w1 ⟨rfl, rfl⟩
    go_wp2
    go_returns
    exact ⟨rfl, Ge.refl _⟩

/-- what Part gives -/
def partP (kind worker workers : Int) (rs : List Rc) : List (Int × List Rc) := if partE kind worker workers rs = 0 then partL kind worker workers rs else []
def PartOut (kind worker workers : Int) (rs : List Rc) (w : World) (e : Ending) (w' : World) : Prop :=
  ∃ v, e = .returned (.tuple #[v, .int .i64 (partE kind worker workers rs)]) ∧ ParcelsAt w' v (partP kind worker workers rs) ∧ Ge w w'

theorem part_any {w : World} (hT : Tabs w) (kind worker workers : Int) {v : Value} {rs : List Rc} (hv : RecsAt w v rs) (hl : rs.length ≤ 1000000) :
    Calls Tryd.prog 18 #[.int .i64 kind, .int .i64 worker, .int .i64 workers, v] w (PartOut kind worker workers rs w) := by
  by_cases h : mayB worker workers = false ∨ insV kind < 0
  · have hE : partE kind worker workers rs = 1 := by
      unfold partE
      rcases h with h | h
      · rw [if_pos h]
      · rw [if_pos h]
        simp
    obtain ⟨A, cap, rfl, _⟩ := hv
    refine (part_arg w kind worker workers A rs.length cap h).mono ?_
    rintro e w' ⟨rfl, hg⟩
    refine ⟨_, by rw [hE], ?_, hg⟩
    unfold partP
    rw [hE, if_neg (by decide)]
    exact ParcelsAt.nil _
  · have hm : mayB worker workers = true := by
      cases hx : mayB worker workers with
      | false => exact absurd (Or.inl hx) h
      | true => rfl
    have hi : ¬ insV kind < 0 := fun hx => h (Or.inr hx)
    obtain ⟨h1, h2, h3, h4⟩ := (mayB_iff _ _).1 hm
    obtain ⟨wk, rfl⟩ : ∃ k : Nat, worker = (k : Int) := ⟨worker.toNat, by omega⟩
    obtain ⟨n, rfl⟩ : ∃ k : Nat, workers = (k : Int) := ⟨workers.toNat, by omega⟩
    have hE : partE kind (wk : Int) (n : Int) rs = if rs.all (fun r => okB r.2) = true then 0 else 50 := by
      unfold partE
      rw [hm, if_neg (by decide), if_neg hi]
    refine (part_go hT kind wk n hv hl hm hi).mono ?_
    rintro e w' ⟨⟨hok, v', rfl, hp⟩ | ⟨hok, rfl⟩, hg⟩
    · rw [if_pos hok] at hE
      refine ⟨v', by rw [hE], ?_, hg⟩
      unfold partP
      rw [hE, if_pos rfl]
      exact hp
    · rw [if_neg hok] at hE
      refine ⟨_, by rw [hE], ?_, hg⟩
      unfold partP
      rw [hE, if_neg (by decide)]
      exact ParcelsAt.nil _
end Go.Proofs.YtidblliobkjeeaaDoor
