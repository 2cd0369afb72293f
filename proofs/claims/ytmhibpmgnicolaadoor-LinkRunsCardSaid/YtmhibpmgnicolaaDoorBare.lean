/-
  What a message's kind does not use; a message with its kind and version alone: in plain Lean, and bare.
-/
import Derived.Test.YtmhibpmgnicolaaDoorClone
import Derived.Test.YtmhibpmgnicolaaDoorGood
namespace Go.Proofs.YtmhibpmgnicolaaDoor
open Go.RowKit

def mzero : Msg := ⟨0, 0, 0, 0, ⟨0, 0, 0, 0, 0, 0⟩, [], [], [], [], [], 0, [], false, 0⟩
def bareM (m : Msg) : Msg := { mzero with kind := m.kind, ver := m.ver }
def endB (m : Msg) : Bool := decide (m.ents.length ≤ 1024) && (m.yes || m.ents.length == 0)
/-- what a message's kind does not use, and whether what it uses may be -/
def restM (m : Msg) : Msg × Bool :=
  if m.kind = 1 then ({ m with p1 := 0, p2 := 0, t := ⟨0, 0, 0, 0, 0, 0⟩, recs := [] }, decide (Chk m.t) && goodR m.recs)
  else if m.kind = 2 then ({ m with chs := [] }, goodC m.chs)
  else if m.kind = 3 then ({ m with drop := [], put := [], moves := [], cut := 0 }, decide (0 ≤ m.cut) && decide (m.cut ≤ 1073741824))
  else if m.kind = 4 then (m, true)
  else if m.kind = 6 then (if (m.why == 0) != m.yes then (m, false) else ({ m with why := 0, yes := false, ents := [] }, endB m))
  else if m.kind = 5 then ({ m with yes := false, ents := [] }, endB m)
  else (m, false)
def chkM (m : Msg) : Int := if (restM m).2 = true ∧ 0 ≤ m.ver ∧ (restM m).1 = bareM m then 0 else 130

def nilS : Sls := ⟨.slice none 0 0, .slice none 0 0, .slice none 0 0, .slice none 0 0, .slice none 0 0, .slice none 0 0⟩
theorem PutAt.nil (B : Nat) (w : World) : PutAt B w (.slice none 0 0) [] := ⟨[], LAt.nil _ _ _ _ _, rfl, fun j r n h => by simp at h⟩
theorem nilS_at (B : Nat) (w : World) (m : Msg) : SlAt B w nilS (bareM m) := ⟨LAt.nil _ _ _ _ _, LAt.nil _ _ _ _ _, LAt.nil _ _ _ _ _, PutAt.nil _ _, LAt.nil _ _ _ _ _, LAt.nil _ _ _ _ _⟩
theorem small_bare (m : Msg) : Small (bareM m) := ⟨Nat.zero_le _, Nat.zero_le _, Nat.zero_le _, Nat.zero_le _, (fun _ h => by cases h), Nat.zero_le _, Nat.zero_le _⟩

/-- two results, the first in a cell -/
theorem i45 : (Tryd.prog.info? 45).map (·.size) = some 19 := by kernel_rfl
theorem results_msg_tmp {fn : Func} {p q : Tmp} (h : fn.results = #[.cell p 45, .tmp q]) (tmps : Array Value) (w : World) (g : Nat) (cs : Array Value) (v : Value)
    (hp : tmps.getD p undef = .pointer (some ⟨g, 0, none⟩)) (hg : Bx w g 45 cs) (hs : cs.size = 19) (hq : tmps.getD q undef = v) : (results fn tmps).run Tryd.prog w = .ok (.tuple #[.agg cs, v]) w := by
  have hp' : tmps[p]?.getD undef = .pointer (some ⟨g, 0, none⟩) := by simpa using hp
  have hq' : tmps[q]?.getD undef = v := by simpa using hq
  have hl := run_loadVar_row (P := Tryd.prog) w g 45 45 cs (0, 0) _ hg Tryd.underlying45 rfl (by rw [hs]; exact i45)
  simp [results, h, hp', hq', asAddr, hl]

set_option maxRecDepth 100000 in
set_option maxHeartbeats 8000000 in
theorem bare_any {w : World} (s : Sls) (m : Msg) : Calls Tryd.prog 52 #[.agg (encG m s).toArray] w fun e w' => e = .returned (.agg (encG (bareM m) nilS).toArray) ∧ Ge w w' := by
  obtain ⟨kd, ve, p1, p2, ⟨te, td, t0, t1, t2, t3⟩, rl, cl, dl, pl, ml, cu, el, ye, wy⟩ := m
  obtain ⟨sr, sc, sd, sp, sm, se⟩ := s
  obtain ⟨CS, hCS⟩ : ∃ cs, cs = (encG ⟨kd, ve, p1, p2, ⟨te, td, t0, t1, t2, t3⟩, rl, cl, dl, pl, ml, cu, el, ye, wy⟩ ⟨sr, sc, sd, sp, sm, se⟩).toArray := ⟨_, rfl⟩
  have k0 : CS[0]? = some (.int .i64 kd) := by rw [hCS]; rfl
  have k1 : CS[1]? = some (.int .i64 ve) := by rw [hCS]; rfl
  simp only [encG, bareM, mzero, nilS]
  simp only [encG] at hCS
  obtain ⟨CZ, hCZ⟩ : ∃ cs : Array Value, cs = #[.int .i64 0, .int .i64 0, .int .i64 0, .int .i64 0, .int .i64 0, .int .i64 0, .int .i64 0, .int .i64 0, .int .i64 0, .int .i64 0, .slice none 0 0, .slice none 0 0, .slice none 0 0, .slice none 0 0, .slice none 0 0, .int .i64 0, .slice none 0 0, .bool false, .int .i64 0] := ⟨_, rfl⟩
  obtain ⟨CR, hCR⟩ : ∃ cs : Array Value, cs = #[.int .i64 kd, .int .i64 ve, .int .i64 0, .int .i64 0, .int .i64 0, .int .i64 0, .int .i64 0, .int .i64 0, .int .i64 0, .int .i64 0, .slice none 0 0, .slice none 0 0, .slice none 0 0, .slice none 0 0, .slice none 0 0, .int .i64 0, .slice none 0 0, .bool false, .int .i64 0] := ⟨_, rfl⟩
  obtain ⟨W2, hW2⟩ : ∃ x, x = (w.alloc (.cells CS 45)).alloc (.cells CZ 45) := ⟨_, rfl⟩
  have X0 : Bx W2 w.heap.size 45 CS := by rw [hW2]; exact (Bx.new w 45 _ rfl).alloc _
  have X1 : Bx W2 (w.heap.size + 1) 45 CZ := by rw [hW2]; exact Bx.new _ 45 _ (by simp)
  have GW := Lib.hid (show Ge w W2 by rw [hW2]; exact ((Ge.refl w).alloc _).alloc _)
  have HX1 := Lib.hid X1
  have HTH := Lib.hid (show W2.there (w.heap.size + 1) 0 19 from by have := X1.there; rw [hCZ] at this; exact this)
  have HONE := Lib.hid (show CR.all (fun v => v.oneCell') = true by rw [hCR]; simp [Value.oneCell'])
  have c0 := X0.cell 0
  have c1 := X0.cell 1
  have l0 := X0.lt
  rw [k0] at c0
  rw [k1] at c1
  have HCR := Lib.hid hCR
  have HCZ := Lib.hid hCZ
  have HI := Lib.hid i45
  rw [hCS, hCZ] at hW2
  clear hCS hCZ k0 k1 X0 X1 hCR
  go_enter Tryd.func52, Tryd.ntmps52
  go_upto_region 1 with (fail)
  rw [← hW2]
  clear hW2
  go_wp2_with (refine wpList_store_mid (by rfl) 45 (.tmp 2) (.tmp 7) (by rfl) (w.heap.size + 1) 0 #[.int .i64 kd, .int .i64 ve, .int .i64 0, .int .i64 0, .int .i64 0, .int .i64 0, .int .i64 0, .int .i64 0, .int .i64 0, .int .i64 0, .slice none 0 0, .slice none 0 0, .slice none 0 0, .slice none 0 0, .slice none 0 0, .int .i64 0, .slice none 0 0, .bool false, .int .i64 0] (by rfl) (by rfl) HTH.out HI.out (by rw [← HCR.out]; exact HONE.out) ?_; rw [← HCR.out])
  have z2 := HX1.out.fill CR.toList (by rw [HCR.out, HCZ.out]; rfl)
  have g6 : Ge w (W2.setCells (w.heap.size + 1) 0 CR.toList) := below_sets (by omega) _ _ _ GW.out
  rw [← HCR.out]
  refine bodyPost_ret (v := .agg CR) (results_cell_row Tryd.results52 _ _ (w.heap.size + 1) 45 CR (0, 0) _ rfl z2 Tryd.underlying45 rfl (by rw [HCR.out]; exact HI.out)) rfl ?_
  exact ⟨rfl, g6⟩
end Go.Proofs.YtmhibpmgnicolaaDoor
