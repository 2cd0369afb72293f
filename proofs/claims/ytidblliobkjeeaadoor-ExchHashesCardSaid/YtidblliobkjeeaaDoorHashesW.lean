/-
  ExchHashes: the walk.
-/
import Derived.Test.YtidblliobkjeeaaDoorBegun
namespace Go.Proofs.YtidblliobkjeeaaDoor
open Go.RowKit

set_option maxHeartbeats 4000000 in
theorem hashes_any {w : World} (hT : Tabs w) (n k : Int) : Calls Tryd.prog 3 #[.int .i64 n, .int .i64 k] w fun e w' => e = .returned (.bool true) ∧ Ge w w' := by
  have HB := Lib.hid (begun_any hT)
  have H1 := Lib.hid (hash_any n)
  have H2 := Lib.hid (rhash_any n)
  have H3 := Lib.hid (of_any n k)
  have H4 := Lib.hid (rof_any n k)
  clear hT
  generalize hashV n = h at *
  generalize ofV n k = o at *
  go_enter Tryd.func3, Tryd.ntmps3
  go_wp2_with fail
  refine HB.out.mono ?_
  rintro e w1 ⟨rfl, hg1⟩
  have G1 := Lib.hid hg1
  clear hg1
  go_wp2_with fail
  refine (H1.out _).mono ?_
  rintro e w2 ⟨rfl, hg2⟩
  have G2 := Lib.hid (G1.out.trans hg2)
  clear hg2
  go_wp2_with fail
  refine (H2.out _).mono ?_
  rintro e w3 ⟨rfl, rfl⟩
  go_wp2_with fail
  refine (H3.out _).mono ?_
  rintro e w4 ⟨rfl, hg4⟩
  have G4 := Lib.hid (G2.out.trans hg4)
  clear hg4
  go_wp2_with fail
  refine (H4.out _).mono ?_
  rintro e w5 ⟨rfl, rfl⟩
  go_wp2
  go_returns
  exact ⟨rfl, G4.out⟩
end Go.Proofs.YtidblliobkjeeaaDoor
