/-
  Check of a record; records in memory.
-/
import Derived.Test.YtmhibpmgnicolaaDoorGe
import Derived.Handy
import Derived.WalkSpells
import Derived.WalkLawsBesides
import Derived.KernelRfl
import Derived.Lib.Hide
import Derived.WalkKit
import Derived.Test.YtmhibpmgnicolaaDoorShelf
import Derived.Carry
import Derived.ProofKit
namespace Go.Proofs.YtmhibpmgnicolaaDoor
open Go.RowKit

theorem cell_lt {w : World} {b o : Nat} {v : Value} (h : w.cell? ⟨b, o, none⟩ = some v) : b < w.heap.size := by
  unfold World.cell? at h
  rcases Nat.lt_or_ge b w.heap.size with h' | h'
  · exact h'
  · simp [Array.getElem?_eq_none h'] at h
/-- the two tables of unicode/utf8, as the text lays them -/
def Tabs (w : World) : Prop := Lib.Utf8Tabs (Tryd.laysValid_ren.g 3) (Tryd.laysValid_ren.g 4) w
theorem Tabs.ge {w w' : World} (h : Tabs w) (hg : Ge w w') : Tabs w' := by
  obtain ⟨h1, h2⟩ := h
  refine ⟨fun c hc => ?_, fun i hi => ?_⟩
  · exact (hg.cell (p := ⟨_, c, none⟩) (cell_lt (h1 c hc))).trans (h1 c hc)
  · exact ⟨(hg.cell (p := ⟨_, 2 * i, none⟩) (cell_lt (h2 i hi).1)).trans (h2 i hi).1, (hg.cell (p := ⟨_, 2 * i + 1, none⟩) (cell_lt (h2 i hi).2)).trans (h2 i hi).2⟩

/-- a record may be -/
def okB (s : ByteArray) : Bool := decide (s.size ≤ 64) && Lib.validD s.data.toList
def chkV (s : ByteArray) : Int := if okB s = true then 0 else 50

set_option maxHeartbeats 2000000 in
theorem check_any {w : World} (hT : Tabs w) (k : Int) (s : ByteArray) :
    Calls Tryd.prog 74 #[.agg #[.int .i64 k, .string s]] w fun e w' => e = .returned (.int .i64 (chkV s)) ∧ Ge w w' := by
  unfold chkV okB
  by_cases h64 : 64 < s.size
  · have hd : decide (s.size ≤ 64) = false := by simpa using h64
    rw [hd]
    have h64' : (64 : Int) < (s.size : Int) := by omega
    go_enter Tryd.func74, Tryd.ntmps74
    go_wp2
    go_returns
    exact ⟨rfl, (Ge.refl w).alloc _⟩
  · have hd : decide (s.size ≤ 64) = true := by simp; omega
    rw [hd]
    have h64' : decide ((64 : Int) < (s.size : Int)) = false := by simp; omega
    have hW : Tabs (w.alloc (.cells #[.int .i64 k, .string s] 80)) := hT.ge ((Ge.refl w).alloc _)
    have hV : Calls Tryd.prog 79 #[.string s] (w.alloc (.cells #[.int .i64 k, .string s] 80)) _ := Any.utf8_ValidString Tryd.laysValid s _ (by omega) hW
    have HV := Lib.hid hV
    clear hV hW h64
    cases hv : Lib.validD s.data.toList with
    | false =>
      rw [hv] at HV
      clear hv
      go_enter Tryd.func74, Tryd.ntmps74
      go_wp2_with fail
      refine HV.out.mono ?_
      rintro e w1 ⟨rfl, hg⟩
      have G1 := Lib.hid (show Ge w w1 from ((Ge.refl w).alloc _).trans hg)
      clear hg HV
      go_wp2
      go_returns
      exact ⟨rfl, G1.out⟩
    | true =>
      rw [hv] at HV
      clear hv
      go_enter Tryd.func74, Tryd.ntmps74
      go_wp2_with fail
      refine HV.out.mono ?_
      rintro e w1 ⟨rfl, hg⟩
      have G1 := Lib.hid (show Ge w w1 from ((Ge.refl w).alloc _).trans hg)
      clear hg HV
      go_wp2
      go_returns
      exact ⟨rfl, G1.out⟩
end Go.Proofs.YtmhibpmgnicolaaDoor
