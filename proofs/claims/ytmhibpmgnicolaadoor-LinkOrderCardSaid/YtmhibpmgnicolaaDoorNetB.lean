/-
  link, Counts, Room.
-/
import Derived.Test.YtmhibpmgnicolaaDoorNetA
namespace Go.Proofs.YtmhibpmgnicolaaDoor
open Go.RowKit

theorem link_no {w : World} {v : Value} (h : NoNet w v) (f t : Int) : Calls Tryd.prog 31 #[v, .int .i64 f, .int .i64 t] w fun e w' => e = .returned (.tuple #[.pointer none, .int .i64 2]) ∧ Ge w w' := by
  have HR := Lib.hid (row_no h f t)
  have HM := Lib.hid (fun w' (g : Ge w w') => made_no (h.ge g))
  go_enter Tryd.func31, Tryd.ntmps31
  go_wp2_with fail
  refine HR.out.mono ?_
  rintro e w1 ⟨rfl, g1⟩
  have HG := Lib.hid g1
  clear g1
  go_wp2_with fail
  refine (HM.out w1 HG.out).mono ?_
  rintro e w2 ⟨rfl, g2⟩
  have HG2 := Lib.hid (HG.out.trans g2)
  clear g2
  go_wp2
  go_returns
  exact ⟨rfl, HG2.out⟩
theorem link_none {B : Nat} {w : World} {p q : Nat} {O : Nat → Option Nat} {S : Nt} {C : Array Value} (h : NetC B w p q O S C) {f t : Int} (hi : S.idx f t = none) :
    Calls Tryd.prog 31 #[.pointer (some ⟨p, 0, none⟩), .int .i64 f, .int .i64 t] w fun e w' => e = .returned (.tuple #[.pointer none, .int .i64 1]) ∧ Ge w w' := by
  have HR := row_any h f t
  rw [hi] at HR
  have HR := Lib.hid HR
  have HM := Lib.hid (fun w' (g : Ge w w') => made_yes (h.ge g))
  clear h hi
  go_enter Tryd.func31, Tryd.ntmps31
  go_wp2_with fail
  refine HR.out.mono ?_
  rintro e w1 ⟨rfl, g1⟩
  have HG := Lib.hid g1
  clear g1
  unfold rowP
  go_wp2_with fail
  refine (HM.out w1 HG.out).mono ?_
  rintro e w2 ⟨rfl, g2⟩
  have HG2 := Lib.hid (HG.out.trans g2)
  clear g2
  go_wp2
  go_returns
  exact ⟨rfl, HG2.out⟩
theorem link_some {B : Nat} {w : World} {p q : Nat} {O : Nat → Option Nat} {S : Nt} {C : Array Value} (h : NetC B w p q O S C) {f t : Int} {j : Nat} (hi : S.idx f t = some j) :
    Calls Tryd.prog 31 #[.pointer (some ⟨p, 0, none⟩), .int .i64 f, .int .i64 t] w fun e w' => e = .returned (.tuple #[.pointer (some ⟨q, j * 3, none⟩), .int .i64 0]) ∧ Ge w w' := by
  have HR := row_any h f t
  rw [hi] at HR
  have HR := Lib.hid HR
  have HM := Lib.hid (fun w' (g : Ge w w') => made_yes (h.ge g))
  clear h hi
  go_enter Tryd.func31, Tryd.ntmps31
  go_wp2_with fail
  refine HR.out.mono ?_
  rintro e w1 ⟨rfl, g1⟩
  have HG := Lib.hid g1
  clear g1
  unfold rowP
  go_wp2_with fail
  refine (HM.out w1 HG.out).mono ?_
  rintro e w2 ⟨rfl, g2⟩
  have HG2 := Lib.hid (HG.out.trans g2)
  clear g2
  go_wp2
  go_returns
  exact ⟨rfl, HG2.out⟩

theorem counts_no {w : World} {v : Value} (h : NoNet w v) (f t : Int) : Calls Tryd.prog 20 #[v, .int .i64 f, .int .i64 t] w fun e w' => e = .returned (.tuple #[.int .i64 0, .int .i64 0]) ∧ Ge w w' := by
  have HR := Lib.hid (row_no h f t)
  go_enter Tryd.func20, Tryd.ntmps20
  go_wp2_with fail
  refine HR.out.mono ?_
  rintro e w1 ⟨rfl, g1⟩
  have HG := Lib.hid g1
  clear g1
  go_wp2
  go_returns
  exact ⟨rfl, HG.out⟩
theorem counts_none {B : Nat} {w : World} {p q : Nat} {O : Nat → Option Nat} {S : Nt} {C : Array Value} (h : NetC B w p q O S C) {f t : Int} (hi : S.idx f t = none) :
    Calls Tryd.prog 20 #[.pointer (some ⟨p, 0, none⟩), .int .i64 f, .int .i64 t] w fun e w' => e = .returned (.tuple #[.int .i64 0, .int .i64 0]) ∧ Ge w w' := by
  have HR := row_any h f t
  rw [hi] at HR
  have HR := Lib.hid HR
  clear h hi
  go_enter Tryd.func20, Tryd.ntmps20
  go_wp2_with fail
  refine HR.out.mono ?_
  rintro e w1 ⟨rfl, g1⟩
  have HG := Lib.hid g1
  clear g1
  unfold rowP
  go_wp2
  go_returns
  exact ⟨rfl, HG.out⟩
theorem counts_some {B : Nat} {w : World} {p q : Nat} {O : Nat → Option Nat} {S : Nt} {C : Array Value} (h : NetC B w p q O S C) {f t : Int} {j : Nat} {r : Lk} (hi : S.idx f t = some j) (hr : S.rows[j]? = some r) :
    Calls Tryd.prog 20 #[.pointer (some ⟨p, 0, none⟩), .int .i64 f, .int .i64 t] w fun e w' => e = .returned (.tuple #[.int .i64 r.sent, .int .i64 r.taken]) ∧ Ge w w' := by
  have HR := row_any h f t
  rw [hi] at HR
  have HR := Lib.hid HR
  have hC := h.row
  obtain ⟨v, x0, x1, x2, _⟩ := h.rows j r hr
  have HX1 := Lib.hid (fun w' (g : Ge w w') => ((hC.ge g).cell _).trans x1)
  have HX2 := Lib.hid (fun w' (g : Ge w w') => ((hC.ge g).cell _).trans x2)
  have HLT := Lib.hid (fun w' (g : Ge w w') => (hC.ge g).lt)
  clear h hi hC hr x0 x1 x2
  go_enter Tryd.func20, Tryd.ntmps20
  go_wp2_with fail
  refine HR.out.mono ?_
  rintro e w1 ⟨rfl, g1⟩
  have HG := Lib.hid g1
  have x1 := HX1.out w1 g1
  have x2 := HX2.out w1 g1
  have n1 := HLT.out w1 g1
  clear g1
  unfold rowP
  go_wp2
  go_quiet (fail)
  go_wp2
  go_returns
  exact ⟨rfl, HG.out.drewN _⟩

theorem room_no {w : World} {v : Value} (h : NoNet w v) (f t : Int) : Calls Tryd.prog 22 #[v, .int .i64 f, .int .i64 t] w fun e w' => e = .returned (.int .i64 0) ∧ Ge w w' := by
  have HR := Lib.hid (row_no h f t)
  go_enter Tryd.func22, Tryd.ntmps22
  go_wp2_with fail
  refine HR.out.mono ?_
  rintro e w1 ⟨rfl, g1⟩
  have HG := Lib.hid g1
  clear g1
  go_wp2
  go_returns
  exact ⟨rfl, HG.out⟩
theorem room_none {B : Nat} {w : World} {p q : Nat} {O : Nat → Option Nat} {S : Nt} {C : Array Value} (h : NetC B w p q O S C) {f t : Int} (hi : S.idx f t = none) :
    Calls Tryd.prog 22 #[.pointer (some ⟨p, 0, none⟩), .int .i64 f, .int .i64 t] w fun e w' => e = .returned (.int .i64 0) ∧ Ge w w' := by
  have HR := row_any h f t
  rw [hi] at HR
  have HR := Lib.hid HR
  clear h hi
  go_enter Tryd.func22, Tryd.ntmps22
  go_wp2_with fail
  refine HR.out.mono ?_
  rintro e w1 ⟨rfl, g1⟩
  have HG := Lib.hid g1
  clear g1
  unfold rowP
  go_wp2
  go_returns
  exact ⟨rfl, HG.out⟩
theorem room_some {B : Nat} {w : World} {p q : Nat} {O : Nat → Option Nat} {S : Nt} {C : Array Value} (h : NetC B w p q O S C) {f t : Int} {j : Nat} {r : Lk} (hi : S.idx f t = some j) (hr : S.rows[j]? = some r) :
    Calls Tryd.prog 22 #[.pointer (some ⟨p, 0, none⟩), .int .i64 f, .int .i64 t] w fun e w' => e = .returned (.int .i64 ((S.room : Int) - (r.l.length : Int))) ∧ Ge w w' := by
  have HR := row_any h f t
  rw [hi] at HR
  have HR := Lib.hid HR
  have hC := h.row
  obtain ⟨v, x0, x1, x2, hrow⟩ := h.rows j r hr
  obtain ⟨A, cap, rfl, _⟩ := hrow
  have HX0 := Lib.hid (fun w' (g : Ge w w') => ((hC.ge g).cell _).trans x0)
  have HLT := Lib.hid (fun w' (g : Ge w w') => (hC.ge g).lt)
  have HN := Lib.hid (fun w' (g : Ge w w') => (h.net.ge g).cell)
  have HNL := Lib.hid (fun w' (g : Ge w w') => (h.net.ge g).lt)
  have b1 := h.ok.r2
  have b2 := h.ok.small r (List.mem_of_getElem? hr)
  have es : IntKind.i64.wrap ((S.room : Int) - (r.l.length : Int)) = (S.room : Int) - (r.l.length : Int) := IntWalk.i64_in _ (by omega)
  clear h hi hC hr x0 x1 x2 b1 b2
  generalize S.k = k at *
  generalize S.room = room at *
  generalize r.l.length = n at *
  go_enter Tryd.func22, Tryd.ntmps22
  go_wp2_with fail
  refine HR.out.mono ?_
  rintro e w1 ⟨rfl, g1⟩
  have HG := Lib.hid g1
  have x0 := HX0.out w1 g1
  have n1 := HLT.out w1 g1
  have c0 := HN.out w1 g1
  have n0 := HNL.out w1 g1
  clear g1
  unfold rowP
  go_wp2
  go_quiet (fail)
  go_wp2
  go_returns
  exact ⟨rfl, HG.out.drewN _⟩
end Go.Proofs.YtmhibpmgnicolaaDoor
