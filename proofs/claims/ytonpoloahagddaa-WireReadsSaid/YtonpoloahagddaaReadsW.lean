/-
  WireReads: the walk.
-/
import Derived.Test.YtonpoloahagddaaSEq
import Derived.Test.YtonpoloahagddaaSeq
import Derived.Deep.RegionHeld3
import Derived.Laws.StructEq
namespace Go.Proofs.Ytonpoloahagddaa
open Go.RowKit Go.Shelf

/-- one take: which, from, to -/
abbrev Tk := Int × Int × Int
/-- v reads as these takes -/
def TakesAt (w : World) (v : Value) (ts : List Tk) : Prop := ∃ (A : Option Addr) (cap : Nat), v = .slice A ts.length cap ∧
  (ts ≠ [] → ∃ b off, A = some ⟨b, off, none⟩ ∧ b < w.heap.size ∧ ∀ j, j < ts.length → w.cell? ⟨b, off + j * 3, none⟩ = some (.int .i64 (ts[j]?.getD (0, 0, 0)).1) ∧
    w.cell? ⟨b, off + j * 3 + 1, none⟩ = some (.int .i64 (ts[j]?.getD (0, 0, 0)).2.1) ∧ w.cell? ⟨b, off + j * 3 + 2, none⟩ = some (.int .i64 (ts[j]?.getD (0, 0, 0)).2.2))

theorem cut_run {w : World} {A : Option Addr} {bs : List Int} {p cap : Nat} (hb : BytesAt w (.slice A bs.length cap) bs) (hp : p ≤ bs.length) :
    ∃ sv, (∀ w' : World, (Instr.slice 23 (.slice A bs.length cap) (some (.int .i64 (p : Int))) none none).run Try.prog w' = .ok sv w') ∧ BytesAt w sv (bs.drop p) := by
  obtain ⟨A', cap', e, hle, hc⟩ := id hb
  cases e
  have h1 : (p : Int) ≤ (bs.length : Int) := by omega
  by_cases hc : cap = p
  · subst hc
    have h2 : bs.length = cap := by omega
    refine ⟨.slice A (bs.length - cap) (cap - cap), fun w' => ?_, ?_⟩
    · go_simp
    · rw [h2]
      have : bs.drop cap = [] := List.drop_eq_nil_of_le (by omega)
      rw [this, Nat.sub_self]
      exact BytesAt.none _ _ _
  · refine ⟨.slice (Option.map (fun x => x.add p) A) (bs.length - p) (cap - p), fun w' => ?_, ?_⟩
    · go_simp
    · have := hb.part (q := p) (m := bs.length - p) (by omega)
      rwa [List.take_of_length_le (by simp)] at this

theorem neq57_same (n : Int) (s : ByteArray) (e : Int) (w : World) : (binOp .neq 57 (.agg #[.int .i64 n, .string s, .int .i64 e]) (.agg #[.int .i64 n, .string s, .int .i64 e])).run Try.prog w = .ok (.bool false) w := by
  have hS : Try.prog.underlying 57 = some (.struct (Try.prog.fieldsOf 57)) := by kernel_rfl
  have hp : Try.prog.stoodInHeld 57 = false := by kernel_rfl
  rw [run_neq_struct, show (10000 : Nat) = 9999 + 1 from rfl, run_equalIn_agg w 9999 57 _ _ hS hp]
  simp only [Program.fieldsOf, Try.underlying57]
  go_simp

theorem ownI_app {w wr w1 : World} {base : Nat} {v : Value} {xs : List Int} (hge : Ge w wr) (hv : OwnI wr base v xs) (hb : w.heap.size ≤ base) (hg : wr.grownBy w1 v.ownBlock) : Ge w w1 := by
  refine Below.grown hge hg hge.size (fun k hk => ?_)
  rcases hv.2 with ⟨rfl, _⟩ | ⟨g, cap, cur, rfl, hgb, _⟩
  · simp [Value.ownBlock] at hk
  · simp [Value.ownBlock] at hk
    omega

set_option maxRecDepth 100000 in
set_option maxHeartbeats 4000000 in
theorem reads_any {w : World} {v lv : Value} {bs : List Int} {ts : List Tk} (hb : BytesAt w v bs) (hi : IsB bs) (ht : TakesAt w lv ts) :
    Calls Try.prog 8 #[v, lv] w fun e w' => e = .returned (.bool true) ∧ Ge w w' := by
  obtain ⟨Ab, cb, rfl, hle, hcb⟩ := id hb
  obtain ⟨At, ct, rfl, hct⟩ := ht
  have HB := Lib.hid hb
  have HI := Lib.hid hi
  have HCT := Lib.hid hct
  clear hcb hct hb hi
  by_cases c1 : 3000 < bs.length
  · have d1 : decide ((3000 : Int) < (bs.length : Int)) = true := by simp; omega
    go_enter Try.func8, Try.ntmps8
    go_wp2_with fail
    refine (live_any _).mono ?_
    rintro e w1 ⟨rfl, hg1⟩
    go_wp2
    go_returns
    exact ⟨rfl, hg1⟩
  have d1 : decide ((3000 : Int) < (bs.length : Int)) = false := by simp; omega
  by_cases c2 : 300 < ts.length
  · have d2 : decide ((300 : Int) < (ts.length : Int)) = true := by simp; omega
    go_enter Try.func8, Try.ntmps8
    go_wp2_with fail
    refine (live_any _).mono ?_
    rintro e w1 ⟨rfl, hg1⟩
    go_wp2
    go_returns
    exact ⟨rfl, hg1⟩
  have d2 : decide ((300 : Int) < (ts.length : Int)) = false := by simp; omega
  go_enter Try.func8, Try.ntmps8
  go_wp2_with fail
  refine (live_any _).mono ?_
  rintro e w1 ⟨rfl, hg1⟩
  have G1 := Lib.hid hg1
  have N1 := Lib.hid (new_any (HB.out.ge hg1) HI.out (by omega))
  clear hg1
  go_wp2_with fail
  refine N1.out.mono ?_
  rintro e w2 ⟨g, rfl, hgg, hr2, hg2⟩
  have R2 := Lib.hid hr2
  have hgw : w.heap.size ≤ g := Nat.le_trans G1.out.size hgg
  have G2 := Lib.hid (G1.out.trans hg2)
  clear hr2 hg2 N1 hgg
  go_wp2
  go_loopw [31, 6] (fun i at_ wr => ∃ k p : Nat, k ≤ ts.length ∧ i = .int .i64 (k : Int) ∧ at_ = .int .i64 (p : Int) ∧ p ≤ bs.length ∧ Rd wr g bs p ∧ Ge w wr) (fun i _ _ => ts.length - (intOf i).toNat)
  case atStart => exact ⟨0, 0, by omega, rfl, rfl, by omega, R2.out, G2.out⟩
  case round =>
    obtain ⟨k, p, hk, rfl, rfl, hp, hr, hge⟩ := hrel
    have R := Lib.hid hr
    have G := Lib.hid hge
    by_cases hlt : k < ts.length
    · obtain ⟨b, off, rfl, hblt, hcells⟩ := HCT.out (by intro e; rw [e] at hlt; simp at hlt)
      obtain ⟨h0, h1, h2⟩ := hcells k hlt
      replace h0 := (hge.cell (p := ⟨b, off + k * 3, none⟩) hblt).trans h0
      replace h1 := (hge.cell (p := ⟨b, off + k * 3 + 1, none⟩) hblt).trans h1
      replace h2 := (hge.cell (p := ⟨b, off + k * 3 + 2, none⟩) hblt).trans h2
      have hbl : b < wr.heap.size := Nat.lt_of_lt_of_le hblt hge.size
      obtain ⟨⟨d, x, y⟩, hxyz⟩ : ∃ t : Tk, t = ts[k]?.getD (0, 0, 0) := ⟨_, rfl⟩
      rw [← hxyz] at h0 h1 h2
      clear hcells hr hge hxyz
      dsimp only at h0 h1 h2
      have i1 : (0 : Int) ≤ (k : Int) := by omega
      have i2 : (k : Int) < (ts.length : Int) := by omega
      obtain ⟨sv, hsv, hbv⟩ := cut_run HB.out hp
      go_wp2
      have XT : Bx (wr.alloc (.cells #[.int .i64 d, .int .i64 x, .int .i64 y] 52)) wr.heap.size 52 #[.int .i64 d, .int .i64 x, .int .i64 y] := Bx.new _ _ _ rfl
      have Ga := Lib.hid (G.out.alloc (.cells #[.int .i64 d, .int .i64 x, .int .i64 y] 52))
      have Ra := Lib.hid (R.out.ge ((Ge.refl wr).alloc (.cells #[.int .i64 d, .int .i64 x, .int .i64 y] 52)))
      obtain ⟨T, hrT⟩ : ∃ T, T = wr.heap.size := ⟨_, rfl⟩
      rw [← hrT] at XT ⊢
      generalize wr.alloc (.cells #[.int .i64 d, .int .i64 x, .int .i64 y] 52) = wa at *
      have HBa := Lib.hid (hbv.ge Ga.out)
      have hTw : w.heap.size ≤ T := by rw [hrT]; exact G.out.size
      have HT := Lib.hid hrT
      clear h0 h1 h2 hbl hbv i1 i2 hrT
      have hgT : g < T := by rw [HT.out]; obtain ⟨_, X0, _⟩ := R.out; exact X0.lt
      have cT := XT.cell
      have lT := XT.lt
      have c0 := cT 0
      have c1' := cT 1
      have c2' := cT 2
      simp only [List.getElem?_toArray, List.getElem?_cons_zero, List.getElem?_cons_succ] at c0 c1' c2'
      clear cT
      have HW := Lib.hid (fun (w' : World) (hg : Ge wa w') => wants_any (HBa.out.ge hg) (HI.out.drop p) (by simp; omega) d x y)
      have HK := Lib.hid (fun (w' : World) (hr : Rd w' g bs p) => takes_any hr d x y)
      unfold takenV at HW HK
      generalize takenL d x y (bs.drop p) = TL at *
      obtain ⟨n, s, ee, q⟩ := TL
      dsimp only at HW HK
      generalize strOfNums s = st at *
      go_region_held3 (fun w' => w'.cell? ⟨T, 0, none⟩ = some (.int .i64 d) ∧ w'.cell? ⟨T, 1, none⟩ = some (.int .i64 x) ∧ w'.cell? ⟨T, 2, none⟩ = some (.int .i64 y)) (first | go_keep | (go_simp) | assumption) (first | (go_at_call 29; refine (HW.out _ (by go_grown)).mono ?_; rintro e w3 ⟨rfl, hb3⟩; have hl3 : T < w3.heap.size := Nat.lt_of_lt_of_le (by simp; omega) hb3.size; have k0 : w3.cell? ⟨T, 0, none⟩ = some (.int .i64 d) := (hb3.cell (p := ⟨T, 0, none⟩) (by simp; omega)).trans (by go_simp); have k1 : w3.cell? ⟨T, 1, none⟩ = some (.int .i64 x) := (hb3.cell (p := ⟨T, 1, none⟩) (by simp; omega)).trans (by go_simp); have k2 : w3.cell? ⟨T, 2, none⟩ = some (.int .i64 y) := (hb3.cell (p := ⟨T, 2, none⟩) (by simp; omega)).trans (by go_simp); try (have hx3 : Bx w3 wa.heap.size 57 #[.int .i64 0, .string ⟨#[]⟩, .int .i64 0] := (hb3.block wa.heap.size (by simp)).trans (Bx.new wa 57 _ rfl); have cz3 := hx3.cell; have fz3 := hx3.frozen; have lz3 := hx3.lt)))
      · have gw : Ge wa w3 := Ge.trans (Ge.drew (Ge.refl wa)) hb3
        have XB : Bx (w3.alloc (.cells #[.int .i64 n, .string st, .int .i64 ee] 57)) w3.heap.size 57 #[.int .i64 n, .string st, .int .i64 ee] := Bx.new _ _ _ rfl
        have XT2 := (XT.ge gw).alloc (.cells #[.int .i64 n, .string st, .int .i64 ee] 57)
        have RV := Lib.hid (Ra.out.ge (gw.alloc (.cells #[.int .i64 n, .string st, .int .i64 ee] 57)))
        have GV := Lib.hid (Ge.trans Ga.out (gw.alloc (.cells #[.int .i64 n, .string st, .int .i64 ee] 57)))
        have hTB : T < w3.heap.size := hl3
        rename_i hh
        clear hh k0 k1 k2 hb3 gw hl3 XT lT
        generalize w3.alloc (.cells #[.int .i64 n, .string st, .int .i64 ee] 57) = V at *
        generalize w3.heap.size = B at *
        clear w3 c0 c1' c2'
        have cT := XT2.cell
        have lT := XT2.lt
        have cB := XB.cell
        have lB := XB.lt
        have t0 := cT 0
        have t1 := cT 1
        have t2 := cT 2
        have b0 := cB 0
        have b1 := cB 1
        have b2 := cB 2
        simp only [List.getElem?_toArray, List.getElem?_cons_zero, List.getElem?_cons_succ] at t0 t1 t2 b0 b1 b2
        clear cT cB
        have hneq := neq57_same n st ee
        go_wp2
        go_region_held3 (fun w' => w'.cell? ⟨T, 0, none⟩ = some (.int .i64 d) ∧ w'.cell? ⟨T, 1, none⟩ = some (.int .i64 x) ∧ w'.cell? ⟨T, 2, none⟩ = some (.int .i64 y) ∧ w'.cell? ⟨B, 0, none⟩ = some (.int .i64 n) ∧ w'.cell? ⟨B, 1, none⟩ = some (.string st) ∧ w'.cell? ⟨B, 2, none⟩ = some (.int .i64 ee)) (first | go_keep | (go_simp) | assumption) (first | (go_at_call 27; refine (HK.out _ (RV.out.ge (by go_grown))).mono ?_; rintro e w4 ⟨rfl, hr4, hg4⟩; have XT4 := XT2.gg (Gg.trans (Gg.of_ge (Ge.drew (Ge.refl V))) hg4) (by omega); have XB4 := XB.gg (Gg.trans (Gg.of_ge (Ge.drew (Ge.refl V))) hg4) (by omega); have m0 := XT4.cell 0; have m1 := XT4.cell 1; have m2 := XT4.cell 2; have m3 := XB4.cell 0; have m4 := XB4.cell 1; have m5 := XB4.cell 2; simp only [List.getElem?_toArray, List.getElem?_cons_zero, List.getElem?_cons_succ] at m0 m1 m2 m3 m4 m5))
        rename_i hh2
        have R4 := Lib.hid hr4
        have hq : p + q ≤ bs.length := by obtain ⟨_, _, _, _, hp2, _⟩ := hr4; exact hp2
        have G4 := Lib.hid (Gg.ge GV.out (Gg.trans (Gg.of_ge (Ge.drew (Ge.refl V))) hg4) hgw)
        clear hh2 hr4 hg4 XT4 XB4 m0 m1 m2 m3 m4 m5 XT2 XB t0 t1 t2 b0 b1 b2 lT lB hneq
        go_wp2_with fail
        refine (at_any R4.out).mono ?_
        rintro e w5 ⟨rfl, rfl⟩
        go_wp2
        go_roundw
        case rel => exact ⟨k + 1, p + q, by omega, by go_num, by go_num, hq, R4.out, G4.out⟩
        case measure => simp [intOf]; omega
      · have gw : Ge wa w3 := Ge.trans (((Ge.refl wa).alloc _).drew) hb3
        have XT1 := XT.ge gw
        have hTB : T < wa.heap.size := lT
        have X1 := hx3.set 0 (.int .i64 n)
        have X2 := X1.set 1 (.string st)
        have XB := X2.set 2 (.int .i64 ee)
        replace XB : Bx (((w3.setCell ⟨wa.heap.size, 0, none⟩ (.int .i64 n)).setCell ⟨wa.heap.size, 1, none⟩ (.string st)).setCell ⟨wa.heap.size, 2, none⟩ (.int .i64 ee)) wa.heap.size 57 #[.int .i64 n, .string st, .int .i64 ee] := XB
        have XT2 := ((XT1.set_ne (b' := wa.heap.size) 0 (.int .i64 n) (by omega)).set_ne (b' := wa.heap.size) 1 (.string st) (by omega)).set_ne (b' := wa.heap.size) 2 (.int .i64 ee) (by omega)
        have hne : wa.heap.size ≠ g := by omega
        have RV := Lib.hid ((((Ra.out.ge gw).other (k := 0) (v := .int .i64 n) hx3 hne).other (k := 1) (v := .string st) X1 hne).other (k := 2) (v := .int .i64 ee) X2 hne)
        have GV := Lib.hid (Gg.ge (Gg.ge (Gg.ge (Ge.trans Ga.out gw) (Gg.set wa.heap.size w3 0 (.int .i64 n)) Ga.out.size) (Gg.set wa.heap.size _ 1 (.string st)) Ga.out.size) (Gg.set wa.heap.size _ 2 (.int .i64 ee)) Ga.out.size)
        rename_i hh
        clear hh k0 k1 k2 hb3 gw hl3 XT lT X1 X2 hx3 cz3 fz3 lz3 XT1 hne
        generalize ((w3.setCell ⟨wa.heap.size, 0, none⟩ (.int .i64 n)).setCell ⟨wa.heap.size, 1, none⟩ (.string st)).setCell ⟨wa.heap.size, 2, none⟩ (.int .i64 ee) = V at *
        generalize wa.heap.size = B at *
        clear w3 c0 c1' c2'
        have cT := XT2.cell
        have lT := XT2.lt
        have cB := XB.cell
        have lB := XB.lt
        have t0 := cT 0
        have t1 := cT 1
        have t2 := cT 2
        have b0 := cB 0
        have b1 := cB 1
        have b2 := cB 2
        simp only [List.getElem?_toArray, List.getElem?_cons_zero, List.getElem?_cons_succ] at t0 t1 t2 b0 b1 b2
        clear cT cB
        have hneq := neq57_same n st ee
        go_wp2
        go_region_held3 (fun w' => w'.cell? ⟨T, 0, none⟩ = some (.int .i64 d) ∧ w'.cell? ⟨T, 1, none⟩ = some (.int .i64 x) ∧ w'.cell? ⟨T, 2, none⟩ = some (.int .i64 y) ∧ w'.cell? ⟨B, 0, none⟩ = some (.int .i64 n) ∧ w'.cell? ⟨B, 1, none⟩ = some (.string st) ∧ w'.cell? ⟨B, 2, none⟩ = some (.int .i64 ee)) (first | go_keep | (go_simp) | assumption) (first | (go_at_call 27; refine (HK.out _ (RV.out.ge (by go_grown))).mono ?_; rintro e w4 ⟨rfl, hr4, hg4⟩; have XT4 := XT2.gg (Gg.trans (Gg.of_ge (Ge.drew (Ge.refl V))) hg4) (by omega); have XB4 := XB.gg (Gg.trans (Gg.of_ge (Ge.drew (Ge.refl V))) hg4) (by omega); have m0 := XT4.cell 0; have m1 := XT4.cell 1; have m2 := XT4.cell 2; have m3 := XB4.cell 0; have m4 := XB4.cell 1; have m5 := XB4.cell 2; simp only [List.getElem?_toArray, List.getElem?_cons_zero, List.getElem?_cons_succ] at m0 m1 m2 m3 m4 m5))
        rename_i hh2
        have R4 := Lib.hid hr4
        have hq : p + q ≤ bs.length := by obtain ⟨_, _, _, _, hp2, _⟩ := hr4; exact hp2
        have G4 := Lib.hid (Gg.ge GV.out (Gg.trans (Gg.of_ge (Ge.drew (Ge.refl V))) hg4) hgw)
        clear hh2 hr4 hg4 XT4 XB4 m0 m1 m2 m3 m4 m5 XT2 XB t0 t1 t2 b0 b1 b2 lT lB hneq
        go_wp2_with fail
        refine (at_any R4.out).mono ?_
        rintro e w5 ⟨rfl, rfl⟩
        go_wp2
        go_roundw
        case rel => exact ⟨k + 1, p + q, by omega, by go_num, by go_num, hq, R4.out, G4.out⟩
        case measure => simp [intOf]; omega
    · have hkt : k = ts.length := by omega
      clear hr hge
      have hN := Lib.hid (nums_any R.out)
      have hn43 := nil43
      go_wp2_with fail
      refine hN.out.mono ?_
      rintro e w3 ⟨rfl, ⟨v, hbx, hown⟩, hg3⟩
      have X3 := Lib.hid hbx
      have O3 := Lib.hid hown
      have G3 := Lib.hid (Ge.trans G.out hg3)
      have R3 := Lib.hid (R.out.ge hg3)
      have hs3 := hg3.size
      clear hbx hown hg3 hN
      generalize wr.heap.size = Bn at *
      go_wp2
      go_loopw [12, 13] (fun all kv wl => ∃ (q : Nat) (pre : List Int) (A2 : Option Addr) (cap2 : Nat), q ≤ bs.length ∧ all = .slice A2 pre.length cap2 ∧ kv = .int .i64 (q : Int) ∧ OwnI wl w3.heap.size all pre ∧ pre ++ numsL (bs.drop q) = numsL (bs.drop p) ∧ Ge w3 wl) (fun _ kv _ => bs.length - (intOf kv).toNat)
      case atStart => exact ⟨p, [], none, 0, hp, rfl, rfl, World.ownsRow_nil _ _ _ _, rfl, Ge.refl _⟩
      case round =>
        obtain ⟨q, pre, A2, cap2, hq, rfl, rfl, hown, hpre, hgl⟩ := hrel
        have OW := Lib.hid hown
        have PRE := Lib.hid hpre
        have GL := Lib.hid hgl
        obtain ⟨sv, hsv, hbv⟩ := cut_run HB.out hq
        have HT := Lib.hid (rtake_any (hbv.ge (G3.out.trans hgl)) (HI.out.drop q) (by simp; omega))
        unfold takeV at HT
        have hnu := numsL_eq (bs.drop q)
        have hsome := takeL_some (xs := bs.drop q)
        have hkl := takeL_le (bs.drop q)
        have hpl := numsL_len (bs.drop p)
        rw [List.length_drop] at hkl hpl
        generalize takeL (bs.drop q) = TL at *
        obtain ⟨z, m, ee⟩ := TL
        dsimp only at HT hnu hsome hkl
        have HNU := Lib.hid hnu
        have HSO := Lib.hid hsome
        clear hnu hsome hown hpre hgl hbv
        have hprel : pre.length ≤ bs.length := by
          have := congrArg List.length PRE.out
          simp at this
          omega
        go_wp2_with fail
        refine HT.out.mono ?_
        rintro e w4 ⟨rfl, hg4⟩
        have G4 := Lib.hid (Ge.trans GL.out hg4)
        have O4 := Lib.hid (OW.out.ge hg4)
        clear hg4 HT OW GL
        by_cases c1 : ee = 0
        · subst c1
          have hk1 := (HSO.out rfl).1
          obtain ⟨i0, hi, hz0, hz1, hz2⟩ := info_parts info2
          have hrow : w4.ownsRow w3.heap.size 2 1 (.slice A2 pre.length cap2) pre.length (pre.map (Value.int .i64)) := O4.out
          have HROWS := Lib.hid (hrow.alloc (.cells #[.int .i64 z] 2))
          have HOA : OwnI (w4.alloc (.cells #[.int .i64 z] 2)) w3.heap.size (.slice A2 pre.length cap2) pre := HROWS.out
          have HO := Lib.hid HOA
          have hnew : ∀ (j : Nat) (u : Value), [Value.int .i64 z][j]? = some u → (w4.alloc (.cells #[.int .i64 z] 2)).cell? ((⟨w4.heap.size, 0, none⟩ : Addr).add j) = some u := by
            intro j u hu
            rcases j with _ | j
            · simp at hu
              subst hu
              rw [addr_add]
              exact (Bx.new w4 2 #[.int .i64 z] rfl).cell 0
            · simp at hu
          have HNEW := Lib.hid hnew
          have C3 : w3.heap.size ≤ (w4.alloc (.cells #[.int .i64 z] 2)).heap.size := by have := G4.out.size; simp; omega
          have HC3 := Lib.hid C3
          have HNX := Lib.hid (show (pre ++ [z]) ++ numsL (bs.drop (q + m)) = numsL (bs.drop p) by
            have h1 := PRE.out
            rw [HNU.out, if_neg (by simp)] at h1
            simpa using h1)
          clear hnew hrow C3 HOA
          go_wp2_with (at_builtin; refine wpList_append_own _ rfl (.tmp 71) (.tmp 73) 28 rfl w3.heap.size 2 i0 (.int .i64 0) 1 8 Try.underlying28 hi hz0 hz1 hz2 rfl (by decide) _ pre.length _ rfl HROWS.out ⟨w4.heap.size, 0, none⟩ 1 1 [.int .i64 z] rfl rfl HNEW.out (fun u hu => by simp at hu; rw [hu]; rfl) (by simp only [maxLen]; omega) (by omega) HC3.out ?_; intro v' w5 hown hgrow _hn; have K5 := Lib.hid (show OwnI w5 w3.heap.size v' (pre ++ [z]) by unfold OwnI; simpa using hown); have G5 := Lib.hid (ownI_app (w := w3) (Ge.alloc G4.out (.cells #[.int .i64 z] 2)) HO.out (Nat.le_refl _) hgrow); obtain ⟨g', cap', rfl⟩ := ownsRow_succ hown; clear hown hgrow _hn)
          go_roundw
          case rel => exact ⟨q + m, pre ++ [z], some ⟨g', 0, none⟩, cap', by omega, by simp, by go_num, K5.out, HNX.out, G5.out⟩
          case measure => simp [intOf]; omega
        · have c1' : (ee != 0) = true := by simpa using c1
          have hpe : pre = numsL (bs.drop p) := by
            have h1 := PRE.out
            rw [HNU.out, if_pos c1, List.append_nil] at h1
            exact h1
          have I4 := Lib.hid (O4.out.intsAt)
          have IV := Lib.hid ((O3.out.intsAt).ge G4.out)
          have XV := Lib.hid (show Boxed w4 Bn 28 v from (G4.out.block Bn X3.out.lt).trans X3.out)
          rw [← hpe] at IV
          have R4 := Lib.hid (R3.out.ge G4.out)
          have GW := Lib.hid (Ge.trans G3.out G4.out)
          have hpp : ((p : Int) == (p : Int)) = true := by simp
          have HPE := Lib.hid hpe
          clear hpe c1
          have HC := Lib.hid (collect_any XV.out IV.out (by omega))
          go_wp2_with fail
          refine HC.out.mono ?_
          rintro e w5 ⟨v5, rfl, hi5, hg5⟩
          have HS := Lib.hid (sequal_any hi5 (I4.out.ge hg5) (by omega))
          have R5 := Lib.hid (R4.out.ge hg5)
          have GW5 := Lib.hid (Ge.trans GW.out hg5)
          clear hi5 hg5 HC
          go_wp2_with fail
          refine HS.out.mono ?_
          rintro e w6 ⟨rfl, hg6⟩
          have R6 := Lib.hid (R5.out.ge hg6)
          have GW6 := Lib.hid (Ge.trans GW5.out hg6)
          clear hg6 HS
          go_wp2_with fail
          refine (at_any R6.out).mono ?_
          rintro e w7 ⟨rfl, rfl⟩
          go_wp2
          go_returns
          exact ⟨rfl, GW6.out⟩
end Go.Proofs.Ytonpoloahagddaa
