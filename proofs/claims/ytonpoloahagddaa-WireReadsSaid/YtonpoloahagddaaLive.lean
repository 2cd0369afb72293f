/-
  live: forms that the document tells.
-/
import Derived.Test.YtonpoloahagddaaRead
namespace Go.Proofs.Ytonpoloahagddaa
open Go.RowKit

theorem lit_bytes (w : World) (cs : Array Value) (xs : List Int) {g : Nat} (hg : g = w.heap.size) (hx : cs.toList = xs.map (Value.int .u8)) (hl : xs.length ≤ maxLen) :
    BytesAt (w.alloc (.cells cs 5)) (.slice (some ⟨g, 0, none⟩) xs.length xs.length) xs := by
  subst hg
  exact (OwnB.lit (base := 0) _ (by show (w.heap.push _)[w.heap.size]? = _; simp) (Nat.zero_le _) hx hl).bytes

theorem live_text : textL (bytesI ⟨#[97, 98]⟩) = [102, 97, 98] := by decide
theorem live_take : takeL (List.drop 0 [201, 1, 0]) = (256, 3, 0) := by decide
theorem live_ints : intsL [0, -1, -51] = [100, 49, 208, 50] := by decide

set_option maxHeartbeats 2000000 in
theorem live_any (w : World) : Calls Try.prog 9 #[] w fun e w' => e = .returned (.bool true) ∧ Ge w w' := by
  go_enter Try.func9, Try.ntmps9
  go_wp2_with fail
  refine (text_any _ (by decide) _).mono ?_
  rintro e w1 ⟨v, rfl, hv, hg1⟩
  rw [live_text] at hv
  have V1 := Lib.hid hv.bytes
  have G1 := Lib.hid hg1
  clear hv hg1
  go_wp2_with fail
  refine (new_any (xs := [201, 1, 0]) (lit_bytes w1 _ [201, 1, 0] rfl rfl (by simp [maxLen])) (by intro x hx; simp at hx; omega) (by simp)).mono ?_
  rintro e w2 ⟨g, rfl, hgs, hr, hg2⟩
  have G2 := Lib.hid (((Ge.refl w1).alloc _).trans hg2)
  have HR := Lib.hid hr
  have hgs' : w1.heap.size ≤ g := by simp at hgs; omega
  clear hr hg2
  go_wp2_with fail
  refine (rint_any HR.out).mono ?_
  rw [live_take]
  rintro e w3 ⟨rfl, hr3, hg3⟩
  have G3 := Lib.hid (Gg.ge G2.out hg3 hgs')
  have V3 := Lib.hid (V1.out.ge G3.out)
  clear hr3 hg3 hgs hgs' HR G2
  go_wp2_with fail
  refine (equal_any (V3.out.ge ((Ge.refl w3).alloc _)) (lit_bytes w3 _ [102, 97, 98] rfl rfl (by simp [maxLen])) (by intro x hx; simp at hx; omega) (by intro x hx; simp at hx; omega)).mono ?_
  rintro e w4 ⟨rfl, rfl⟩
  rw [show eqL [102, 97, 98] [102, 97, 98] = true from by decide]
  go_wp2_with fail
  refine (ints_any (ns := [0, -1, -51]) ⟨some ⟨w3.heap.size + 1, 0, none⟩, 3, rfl, by simp, by intro x hx; simp at hx; omega, fun _ => ⟨w3.heap.size + 1, 0, rfl, by simp, fun j hj => ?_⟩⟩ (by simp)).mono ?_
  · simp only [List.length_cons, List.length_nil] at hj
    match j, hj with
    | 0, _ => go_simp
    | 1, _ => go_simp
    | 2, _ => go_simp
  rintro e w5 ⟨v5, rfl, hv5, hg5⟩
  rw [live_ints] at hv5
  have V5 := Lib.hid hv5.bytes
  have G5 := Lib.hid ((((Ge.refl w3).alloc _).alloc _).trans hg5)
  clear hv5 hg5
  go_wp2_with fail
  refine (equal_any (V5.out.ge ((Ge.refl w5).alloc _)) (lit_bytes w5 _ [100, 49, 208, 50] rfl rfl (by simp [maxLen])) (by intro x hx; simp at hx; omega) (by intro x hx; simp at hx; omega)).mono ?_
  rintro e w6 ⟨rfl, rfl⟩
  rw [show eqL [100, 49, 208, 50] [100, 49, 208, 50] = true from by decide]
  go_wp2
  go_returns
  exact ⟨rfl, ((G1.out.trans G3.out).trans G5.out).alloc _⟩
end Go.Proofs.Ytonpoloahagddaa
