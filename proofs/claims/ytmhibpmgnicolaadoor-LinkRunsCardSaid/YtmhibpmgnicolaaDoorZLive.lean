/-
  live: a link with room for one.
-/
import Derived.Test.YtmhibpmgnicolaaDoorZTake
import Derived.Test.YtmhibpmgnicolaaDoorZChain
import Derived.Test.YtmhibpmgnicolaaDoorRMSame
namespace Go.Proofs.YtmhibpmgnicolaaDoor
open Go.RowKit
attribute [local go_sem] Dr.upT

def frz : Msg := ⟨4, 3, 0, 0, ⟨0, 0, 0, 0, 0, 0⟩, [], [], [], [], [], 0, [], false, 0⟩
theorem frz_chk : chkM frz = 0 := by decide
theorem frz_small : Small frz := ⟨Nat.zero_le _, Nat.zero_le _, Nat.zero_le _, Nat.zero_le _, (fun _ h => by cases h), Nat.zero_le _, Nat.zero_le _⟩
theorem frz_at (B : Nat) (w : World) : SlAt B w nilS frz := ⟨LAt.nil _ _ _ _ _, LAt.nil _ _ _ _ _, LAt.nil _ _ _ _ _, PutAt.nil _ _, LAt.nil _ _ _ _ _, LAt.nil _ _ _ _ _⟩
theorem frz_cells : (encG frz nilS).toArray = #[.int .i64 4, .int .i64 3, .int .i64 0, .int .i64 0, .int .i64 0, .int .i64 0, .int .i64 0, .int .i64 0, .int .i64 0, .int .i64 0, .slice none 0 0, .slice none 0 0, .slice none 0 0, .slice none 0 0, .slice none 0 0, .int .i64 0, .slice none 0 0, .bool false, .int .i64 0] := rfl
def S0 : Nt := ⟨2, 1, zRows 2⟩
def S1 : Nt := { S0 with rows := S0.rows.set 1 (sentR ⟨[], 0, 0⟩ frz) }

set_option maxRecDepth 100000 in
set_option maxHeartbeats 8000000 in
theorem live_any {w : World} (hT : Tabs w) : Calls Tryd.prog 8 #[] w fun e w' => e = .returned (.bool true) ∧ Ge w w' := by
  have HTB := Lib.hid hT
  have HNEW := Lib.hid (show Calls Tryd.prog 9 #[.int .i64 2, .int .i64 1] w _ from new_ok (B := w.heap.size) (Nat.le_refl _) (k := 2) (room := 1) (by omega) (by omega) (by omega) (by omega))
  clear hT
  go_enter Tryd.func8, Tryd.ntmps8
  go_wp2_with fail
  refine HNEW.out.mono ?_
  rintro e w1 ⟨p, q, C, rfl, hn, g1, hp, hq⟩
  obtain ⟨O, hO⟩ : ∃ O : Nat → Option Nat, O = fun _ => none := ⟨_, rfl⟩
  rw [← hO] at hn
  have HF := Lib.hid (show ∀ b, FpC p q O b → w.heap.size ≤ b from fun b hb => by
    rcases hb with rfl | rfl | hb
    · exact hp
    · exact hq
    · rw [hO] at hb
      exact absurd rfl hb)
  have HG1 := Lib.hid g1
  have HN1 := Lib.hid (show NetC w.heap.size w1 p q O S0 C from hn)
  clear hn g1 hp hq HNEW hO
  obtain ⟨W3, hW3⟩ : ∃ x, x = w1.alloc (.cells #[.int .i64 0, .int .i64 0, .int .i64 0, .int .i64 0, .int .i64 0, .int .i64 0, .int .i64 0, .int .i64 0, .int .i64 0, .int .i64 0, .slice none 0 0, .slice none 0 0, .slice none 0 0, .slice none 0 0, .slice none 0 0, .int .i64 0, .slice none 0 0, .bool false, .int .i64 0] 45) := ⟨_, rfl⟩
  have HB3 := Lib.hid (show Bx W3 w1.heap.size 45 #[.int .i64 0, .int .i64 0, .int .i64 0, .int .i64 0, .int .i64 0, .int .i64 0, .int .i64 0, .int .i64 0, .int .i64 0, .int .i64 0, .slice none 0 0, .slice none 0 0, .slice none 0 0, .slice none 0 0, .slice none 0 0, .int .i64 0, .slice none 0 0, .bool false, .int .i64 0] by rw [hW3]; exact Bx.new w1 45 _ rfl)
  have HG3 := Lib.hid (show Ge w1 W3 by rw [hW3]; exact (Ge.refl _).alloc _)
  have HT3 := Lib.hid (show W3.there w1.heap.size 0 19 from HB3.out.there)
  have HI := Lib.hid i45
  have HW3 := Lib.hid hW3
  clear hW3
  go_upto_region 5 with (rw [← HW3.out]; refine wpList_store_mid (by rfl) 45 (.tmp 3) (.tmp 20) (by rfl) w1.heap.size 0 #[.int .i64 4, .int .i64 3, .int .i64 0, .int .i64 0, .int .i64 0, .int .i64 0, .int .i64 0, .int .i64 0, .int .i64 0, .int .i64 0, .slice none 0 0, .slice none 0 0, .slice none 0 0, .slice none 0 0, .slice none 0 0, .int .i64 0, .slice none 0 0, .bool false, .int .i64 0] (by rfl) (by rfl) HT3.out HI.out (by simp [Value.oneCell']) ?_; generalize hW4 : W3.setCells w1.heap.size 0 (#[.int .i64 4, .int .i64 3, .int .i64 0, .int .i64 0, .int .i64 0, .int .i64 0, .int .i64 0, .int .i64 0, .int .i64 0, .int .i64 0, .slice none 0 0, .slice none 0 0, .slice none 0 0, .slice none 0 0, .slice none 0 0, .int .i64 0, .slice none 0 0, .bool false, .int .i64 0] : Array Value).toList = W4; have HW4 := Lib.hid hW4; clear hW4)
  have G34 : Ge w1 W4 := by rw [← HW4.out]; exact below_sets (Nat.le_refl _) _ _ _ HG3.out
  have HG4 := Lib.hid (HG1.out.trans G34)
  have HB4 := Lib.hid (show Bx W4 w1.heap.size 45 (encG frz nilS).toArray by
    have := HB3.out.fill (#[.int .i64 4, .int .i64 3, .int .i64 0, .int .i64 0, .int .i64 0, .int .i64 0, .int .i64 0, .int .i64 0, .int .i64 0, .int .i64 0, .slice none 0 0, .slice none 0 0, .slice none 0 0, .slice none 0 0, .slice none 0 0, .int .i64 0, .slice none 0 0, .bool false, .int .i64 0] : Array Value).toList rfl
    rw [HW4.out] at this
    rw [frz_cells]
    exact this)
  have HN4 := Lib.hid (HN1.out.ge G34)
  have HNB := Lib.hid (show ¬ FpC p q O w1.heap.size from fun hb => absurd (HN1.out.lt hb) (by omega))
  have HR := Lib.hid (show ∀ w7, Nx w.heap.size (FpC p q O) W4 w7 → Ge w w7 from fun w7 n => Below.trans HG4.out (n.below HF.out HG4.out.size))
  have HCS := Lib.hid (show (encG frz nilS).toArray.size = 19 from rfl)
  have hr0 : S0.rows[1]? = some ⟨[], 0, 0⟩ := rfl
  have hr1 : S1.rows[1]? = some (sentR ⟨[], 0, 0⟩ frz) := rfl
  have hi0 : S0.idx 0 1 = some 1 := rfl
  have hi1 : S1.idx 0 1 = some 1 := rfl
  have HS1 := Lib.hid (show ∀ w7, Nx w.heap.size (FpC p q O) W4 w7 → NetC w.heap.size w7 p q O S0 C → Calls Tryd.prog 14 #[.pointer (some ⟨p, 0, none⟩), .int .i64 0, .int .i64 1, .agg (encG frz nilS).toArray] w7 fun e w' => e = .returned (.int .i64 0) ∧ Nx w.heap.size (FpC p q O) w7 w' ∧ Post w.heap.size W4.heap.size p q O S1 w' from fun w7 n hn =>
    (send_ok (HTB.out.ge (HR.out w7 n)) hn hi0 hr0 (frz_at _ _) frz_small frz_chk (by decide)).mono fun e w' ⟨e1, O', C', h1, h2, h3⟩ => ⟨e1, h2, ⟨O', C', h1, fun b hb hf => h3 b (Nat.lt_of_lt_of_le hb n.kp.size) hf⟩⟩)
  have HS2 := Lib.hid (show ∀ w7, Nx w.heap.size (FpC p q O) W4 w7 → Post w.heap.size W4.heap.size p q O S1 w7 → Calls Tryd.prog 14 #[.pointer (some ⟨p, 0, none⟩), .int .i64 0, .int .i64 1, .agg (encG frz nilS).toArray] w7 fun e w' => e = .returned (.int .i64 7) ∧ Nx w.heap.size (FpC p q O) w7 w' ∧ Post w.heap.size W4.heap.size p q O S1 w' from fun w7 n hn => by
    obtain ⟨O', C', h1, h2⟩ := hn
    exact (send_full (HTB.out.ge (HR.out w7 n)) h1 hi1 hr1 (frz_at _ _) frz_small frz_chk (by decide)).mono fun e w' ⟨e1, g⟩ => ⟨e1, Nx.of_ge g, ⟨O', C', h1.ge g, h2⟩⟩)
  clear hr0 hr1 hi0 hi1 G34
  generalize hCS : (encG frz nilS).toArray = CS at *
  have HCSE := Lib.hid hCS
  clear hCS
  refine Dr.wp_region_C (Nx w.heap.size (FpC p q O)) [2, 5] (fun w' => NetC w.heap.size w' p q O S0 C) (rel_nx _ _) (by kernel_rfl) (by kernel_rfl) (by kernel_rfl) (fun _ _ g h => h.ge g) HN4.out ?_
  iterate 1 (apply Dr.wpC_det (hc := by rfl); · (intro u w7 hw hF; clear hF; go_simp; first | exact ⟨Ge.refl _, rfl⟩ | exact Ge.refl _ | rfl))
  refine wpC_msg (.tmp 3) w1.heap.size CS (by rfl) (by rfl) (by intro u; go_simp) (fun _ n => HB4.out.nx n HNB.out) HCS.out (by intro u; go_simp) ?_
  refine wpC_call 14 #[.pointer (some ⟨p, 0, none⟩), .int .i64 0, .int .i64 1, .agg CS] (.int .i64 0) (Post w.heap.size W4.heap.size p q O S1) (by rfl) (fun _ _ g h => h.ge g) (by intro u; go_simp) (by intro u w7; go_simp) (fun u w7 n h => HS1.out w7 n h) ?_
  iterate 1 (apply Dr.wpC_det (hc := by rfl); · (intro u w7 hw hF; clear hF; go_simp; first | exact ⟨Ge.refl _, rfl⟩ | exact Ge.refl _ | rfl))
  refine wpC_msg (.tmp 3) w1.heap.size CS (by rfl) (by rfl) (by intro u; go_simp) (fun _ n => HB4.out.nx n HNB.out) HCS.out (by intro u; go_simp) ?_
  refine wpC_call 14 #[.pointer (some ⟨p, 0, none⟩), .int .i64 0, .int .i64 1, .agg CS] (.int .i64 7) (Post w.heap.size W4.heap.size p q O S1) (by rfl) (fun _ _ g h => h.ge g) (by intro u; go_simp) (by intro u w7; go_simp) (fun u w7 n h => HS2.out w7 n h) ?_
  iterate 2 (apply Dr.wpC_det (hc := by rfl); · (intro u w7 hw hF; clear hF; go_simp; first | exact ⟨Ge.refl _, rfl⟩ | exact Ge.refl _ | rfl))
  intro u w7 hw hF hS
  clear hF
  obtain ⟨O', C', hn7, hfp⟩ := hS
  have HN7 := Lib.hid hw
  have HNET7 := Lib.hid hn7
  have HFP := Lib.hid hfp
  have HGE7 := Lib.hid (HR.out w7 hw)
  have HB7 := Lib.hid (HB4.out.nx hw HNB.out)
  have HTK := Lib.hid (take_ok hn7 (f := 0) (t := 1) (j := 1) (r := sentR ⟨[], 0, 0⟩ frz) (m := frz) (l := []) rfl rfl rfl)
  clear hw hn7 hfp HS1 HS2
  simp only [Act.put, List.setIfInBounds_toArray, List.set_cons_zero, List.set_cons_succ]
  go_wp2_with fail
  refine HTK.out.mono ?_
  rintro e w8 ⟨⟨s', rfl, hsl⟩, ⟨C2, hn8⟩, hx8⟩
  have HLEN := Lib.hid (show (encG frz s').length = 19 from rfl)
  have HONE := Lib.hid (all_oneCell_toArray (encG_one hsl))
  have HSAME := Lib.hid (fun w' (g : Ge w8 w') => rsame (hsl.ge g) (frz_at w.heap.size w') frz_small)
  have hf8 : ∀ b, FpC p q O' b → w.heap.size ≤ b := fun b hb => by
    rcases Nat.lt_or_ge b W4.heap.size with h | h
    · exact HF.out b (HFP.out b h hb)
    · exact Nat.le_trans HG4.out.size h
  have HGE8 := Lib.hid (show Ge w w8 from Below.trans HGE7.out (hx8.below hf8 HGE7.out.size))
  have HB8 := Lib.hid (show Bx w8 w1.heap.size 45 CS from HB7.out.nx hx8 (fun hb => HNB.out (HFP.out _ HB4.out.lt hb)))
  have HCT := Lib.hid (fun w' (g : Ge w8 w') => counts_some (hn8.ge g) (f := 0) (t := 1) (j := 1) (r := takenR (sentR ⟨[], 0, 0⟩ frz) []) rfl rfl)
  clear hsl hn8 hx8 hf8 HTK
  generalize hL : encG frz s' = L at *
  have HI2 := Lib.hid (show (Tryd.prog.info? 45).map (·.size) = some L.toArray.size by have e : L.toArray.size = 19 := HLEN.out; rw [e]; exact i45)
  obtain ⟨W9, hW9⟩ : ∃ x, x = w8.alloc (.cells #[.int .i64 0, .int .i64 0, .int .i64 0, .int .i64 0, .int .i64 0, .int .i64 0, .int .i64 0, .int .i64 0, .int .i64 0, .int .i64 0, .slice none 0 0, .slice none 0 0, .slice none 0 0, .slice none 0 0, .slice none 0 0, .int .i64 0, .slice none 0 0, .bool false, .int .i64 0] 45) := ⟨_, rfl⟩
  have HB9 := Lib.hid (show Bx W9 w8.heap.size 45 #[.int .i64 0, .int .i64 0, .int .i64 0, .int .i64 0, .int .i64 0, .int .i64 0, .int .i64 0, .int .i64 0, .int .i64 0, .int .i64 0, .slice none 0 0, .slice none 0 0, .slice none 0 0, .slice none 0 0, .slice none 0 0, .int .i64 0, .slice none 0 0, .bool false, .int .i64 0] by rw [hW9]; exact Bx.new w8 45 _ rfl)
  have HG9 := Lib.hid (show Ge w8 W9 by rw [hW9]; exact (Ge.refl _).alloc _)
  have HT9 := Lib.hid (show W9.there w8.heap.size 0 L.toArray.size from by have e : L.toArray.size = 19 := HLEN.out; rw [e]; exact HB9.out.there)
  have HW9 := Lib.hid hW9
  clear hW9 hL
  go_wp2_with (rw [← HW9.out]; refine wpList_store_mid (by rfl) 45 (.tmp 6) (.tmp 30) (by rfl) w8.heap.size 0 L.toArray (by rfl) (by rfl) HT9.out HI2.out HONE.out ?_; generalize hW10 : W9.setCells w8.heap.size 0 L.toArray.toList = W10; have HW10 := Lib.hid hW10; clear hW10)
  have G10 : Ge w8 W10 := by rw [← HW10.out]; exact below_sets (Nat.le_refl _) _ _ _ HG9.out
  have HB10 := Lib.hid (show Bx W10 w8.heap.size 45 L.toArray by
    have := HB9.out.fill L.toArray.toList (by simp [HLEN.out])
    rw [HW10.out] at this
    exact this)
  have HG10 := Lib.hid G10
  clear G10
  refine (HCT.out W10 HG10.out).mono ?_
  rintro e w11 ⟨rfl, g11⟩
  have HG11 := Lib.hid (HG10.out.trans g11)
  have HX11 := Lib.hid (HB10.out.ge g11)
  have HY11 := Lib.hid (HB8.out.ge HG11.out)
  have es : (takenR (sentR ⟨[], 0, 0⟩ frz) []).sent = 1 := by kernel_rfl
  have et : (takenR (sentR ⟨[], 0, 0⟩ frz) []).taken = 1 := by kernel_rfl
  rw [es, et]
  clear g11 es et
  go_wp2_with (first | (refine wpList_load_rowG (by go_simp) (.tmp 6) (by rfl) w8.heap.size (by rfl) L.toArray HX11.out HLEN.out ?_) | (refine wpList_load_rowG (by go_simp) (.tmp 3) (by rfl) w1.heap.size (by rfl) CS HY11.out HCS.out ?_))
  have hsame := HSAME.out w11 HG11.out
  rw [HCSE.out] at hsame
  refine hsame.mono ?_
  rintro e w12 ⟨rfl, g12⟩
  have HG12 := Lib.hid (HGE8.out.trans (HG11.out.trans g12))
  clear g12
  go_wp2
  go_returns
  exact ⟨rfl, HG12.out⟩
end Go.Proofs.YtmhibpmgnicolaaDoor
