/-
  begun: all to the worker itself; by keys.
-/
import Derived.Test.YtidblliobkjeeaaDoorPartB
import Derived.Test.YtidblliobkjeeaaDoorDraw
namespace Go.Proofs.YtidblliobkjeeaaDoor
open Go.RowKit
attribute [local go_sem] Dr.upT

theorem ok_empty : okB ⟨#[]⟩ = true := by decide
theorem ok_a : okB ⟨#[97]⟩ = true := by
  have : Lib.validD [97] = true := by rw [Lib.validD_cons 97 [] (by decide)]; rfl
  unfold okB
  rw [show (⟨#[97]⟩ : ByteArray).data.toList = [97] from rfl, this]
  rfl
def rsA : List Rc := [(1, ⟨#[]⟩), (2, ⟨#[]⟩)]
def rsB : List Rc := [(1, ⟨#[]⟩), (1, ⟨#[97]⟩)]
theorem partE_A : partE 2 2 4 rsA = 0 := by
  unfold partE
  rw [show mayB 2 4 = true from rfl, show insV 2 = 1 from rfl]
  simp [rsA, ok_empty]
theorem partE_B : partE 7 2 4 rsB = 0 := by
  unfold partE
  rw [show mayB 2 4 = true from rfl, show insV 7 = 1 from rfl]
  simp [rsB, ok_empty, ok_a]
theorem partP_A : partP 2 2 4 rsA = [(2, rsA)] := by
  unfold partP
  rw [partE_A, if_pos rfl]
  simp [partL, partIs, rowL, toV, keyB, rsA, List.range_succ]
theorem partP_B : partP 7 2 4 rsB = [(ofV 1 4, rsB)] := by
  have h := ofV_range (n := 1) (k := 4) (by omega) (by omega)
  unfold partP
  rw [partE_B, if_pos rfl]
  have h4 : ofV 1 4 = 0 ∨ ofV 1 4 = 1 ∨ ofV 1 4 = 2 ∨ ofV 1 4 = 3 := by omega
  rcases h4 with h | h | h | h <;> simp [partL, partIs, rowL, toV, keyB, rsB, List.range_succ, h]

theorem lit_recs (w : World) (k1 k2 : Int) (s1 s2 : ByteArray) {g : Nat} (hg : g = w.heap.size) :
    RecsAt (w.alloc (.cells #[.int .i64 k1, .string s1, .int .i64 k2, .string s2] 32)) (.slice (some ⟨g, 0, none⟩) 2 2) [(k1, s1), (k2, s2)] := by
  subst hg
  have X : Bx (w.alloc (.cells #[.int .i64 k1, .string s1, .int .i64 k2, .string s2] 32)) w.heap.size 32 #[.int .i64 k1, .string s1, .int .i64 k2, .string s2] := Bx.new _ _ _ rfl
  refine ⟨_, 2, rfl, by simp, fun _ => ⟨w.heap.size, 0, rfl, X.lt, fun j r hj => ?_⟩⟩
  match j, hj with
  | 0, hj => simp at hj; subst hj; exact ⟨X.cell 0, X.cell 1⟩
  | 1, hj => simp at hj; subst hj; exact ⟨X.cell 2, X.cell 3⟩
theorem ParcelsAt.one {w : World} {v : Value} {i : Int} {rs : List Rc} (h : ParcelsAt w v [(i, rs)]) :
    ∃ b off cap A c, v = .slice (some ⟨b, off, none⟩) 1 cap ∧ b < w.heap.size ∧ w.cell? ⟨b, off, none⟩ = some (.int .i64 i) ∧ w.cell? ⟨b, off + 1, none⟩ = some (.slice A rs.length c) := by
  obtain ⟨A, cap, us, rfl, hle, hul, hc, hr⟩ := h
  obtain ⟨b, off, rfl, hb, hcell⟩ := hc (by simp)
  match us, hul with
  | [u], _ =>
    obtain ⟨h1, h2⟩ := hcell 0 _ _ rfl rfl
    obtain ⟨A, c, hu, _⟩ := hr 0 _ _ rfl rfl
    simp only [hu] at h2
    exact ⟨b, off, cap, A, c, rfl, hb, by simpa using h1, by simpa using h2⟩

set_option maxRecDepth 100000 in
set_option maxHeartbeats 8000000 in
theorem begun_any {w : World} (hT : Tabs w) : Calls Tryd.prog 7 #[] w fun e w' => e = .returned (.bool true) ∧ Ge w w' := by
  have HT := Lib.hid hT
  clear hT
  have H1 := Lib.hid (part_any (HT.out.ge ((Ge.refl w).alloc (.cells #[.int .i64 1, .string ⟨#[]⟩, .int .i64 2, .string ⟨#[]⟩] 32))) 2 2 4 (lit_recs w 1 2 ⟨#[]⟩ ⟨#[]⟩ rfl) (by simp))
  unfold PartOut at H1
  rw [show ([(1, ⟨#[]⟩), (2, ⟨#[]⟩)] : List Rc) = rsA from rfl, partE_A, partP_A] at H1
  go_enter Tryd.func7, Tryd.ntmps7
  go_wp2_with fail
  refine H1.out.mono ?_
  rintro e w1 ⟨v1, rfl, hp1, hg1⟩
  obtain ⟨b1, o1, cap1, A1, c1, rfl, hb1, k1, k2⟩ := hp1.one
  have G1 := Lib.hid (Ge.trans ((Ge.refl w).alloc _) hg1)
  have H2 := Lib.hid (part_any (HT.out.ge (G1.out.alloc (.cells #[.int .i64 1, .string ⟨#[]⟩, .int .i64 1, .string ⟨#[97]⟩] 32))) 7 2 4 (lit_recs w1 1 1 ⟨#[]⟩ ⟨#[97]⟩ rfl) (by simp))
  unfold PartOut at H2
  rw [show ([(1, ⟨#[]⟩), (1, ⟨#[97]⟩)] : List Rc) = rsB from rfl, partE_B, partP_B] at H2
  clear hp1 hg1 H1
  go_wp2_with fail
  refine H2.out.mono ?_
  rintro e w2 ⟨v2, rfl, hp2, hg2⟩
  obtain ⟨b2, o2, cap2, A2, c2, rfl, hb2, k3, k4⟩ := hp2.one
  have HK1 := Lib.hid (fun (w3 : World) (hw : Ge w2 w3) => (Ge.trans (Ge.trans ((Ge.refl w1).alloc _) hg2) hw).cell (p := ⟨b1, o1, none⟩) hb1 |>.trans k1)
  have HK2 := Lib.hid (fun (w3 : World) (hw : Ge w2 w3) => (Ge.trans (Ge.trans ((Ge.refl w1).alloc _) hg2) hw).cell (p := ⟨b1, o1 + 1, none⟩) hb1 |>.trans k2)
  have HK3 := Lib.hid (fun (w3 : World) (hw : Ge w2 w3) => hw.cell (p := ⟨b2, o2, none⟩) hb2 |>.trans k3)
  have HK4 := Lib.hid (fun (w3 : World) (hw : Ge w2 w3) => hw.cell (p := ⟨b2, o2 + 1, none⟩) hb2 |>.trans k4)
  have G2 := Lib.hid (Ge.trans (G1.out.alloc _) hg2)
  have HO4 := Lib.hid (of_any 1 4)
  have HO1 := Lib.hid (of_any 1 1)
  rw [ofV_one] at HO1
  clear k1 k2 k3 k4 hg2 hp2 H2
  generalize ofV 1 4 = o at *
  simp only [rsA, rsB, List.length_cons, List.length_nil, Nat.reduceAdd, Nat.zero_add] at HK2 HK4
  go_wp2
  refine Dr.wp_region_T (by kernel_rfl) (by kernel_rfl) ?_
  iterate 36 (apply Dr.wpT_det; · (intro u w3 hw hF; clear hF; have q1 := HK1.out w3 hw; have q2 := HK2.out w3 hw; have q3 := HK3.out w3 hw; have q4 := HK4.out w3 hw; go_simp; first | exact ⟨Ge.refl _, rfl⟩ | exact Ge.refl _ | rfl))
  refine Dr.wpT_det (.int .i64 o) ?_ ?_
  · intro u w3 hw hF
    clear hF
    go_simp
    exact HO4.out _
  iterate 3 (apply Dr.wpT_det; · (intro u w3 hw hF; clear hF; have q1 := HK1.out w3 hw; have q2 := HK2.out w3 hw; have q3 := HK3.out w3 hw; have q4 := HK4.out w3 hw; go_simp; first | exact ⟨Ge.refl _, rfl⟩ | exact Ge.refl _ | rfl))
  refine Dr.wpT_det (.int .i64 0) ?_ ?_
  · intro u w3 hw hF
    clear hF
    go_simp
    exact HO1.out _
  iterate 3 (apply Dr.wpT_det; · (intro u w3 hw hF; clear hF; have q1 := HK1.out w3 hw; have q2 := HK2.out w3 hw; have q3 := HK3.out w3 hw; have q4 := HK4.out w3 hw; go_simp; first | exact ⟨Ge.refl _, rfl⟩ | exact Ge.refl _ | rfl))
  intro u w3 hw hF
  clear hF
  have G3 := Lib.hid (G2.out.trans hw)
  clear hw
  simp only [Act.put, List.setIfInBounds_toArray, List.set_cons_zero, List.set_cons_succ]
  go_wp2
  go_returns
  exact ⟨rfl, G3.out⟩
end Go.Proofs.YtidblliobkjeeaaDoor
