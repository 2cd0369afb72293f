/-
  WireAgain: the walk.
-/
import Derived.Test.YtonpoloahagddaaReadB
import Derived.Test.YtonpoloahagddaaJoin
import Derived.Test.YtonpoloahagddaaLive
namespace Go.Proofs.Ytonpoloahagddaa
open Go.RowKit

theorem txtL_back {xs : List Int} (hb : IsB xs) {l : List Int} {k : Nat} (h : txtL xs = (l, k, 0)) : textL l = xs.take k ∧ k ≤ xs.length ∧ l.length ≤ 65536 ∧ IsB l := by
  unfold txtL at h
  split at h
  · rename_i h1
    simp only [Prod.mk.injEq] at h
    exact absurd h.2.2 h1
  · rename_i h1
    split at h
    · simp at h
    · rename_i h2
      simp only [Prod.mk.injEq] at h
      obtain ⟨rfl, rfl, _⟩ := h
      have hbd := lenL_bounds xs 65536 (by decide)
      have hz : (lenL xs 65536).2.2 = 0 := by simpa using h1
      have e : lenL xs 65536 = ((takeL xs).1, (takeL xs).2.1, 0) ∧ (takeL xs).2.2 = 0 := by
        unfold lenL at hz ⊢
        by_cases c1 : (takeL xs).2.2 = 0
        · rw [if_neg (by simpa using c1)] at hz ⊢
          by_cases c2 : (takeL xs).1 < 0
          · rw [if_pos c2] at hz; simp at hz
          · rw [if_neg c2] at hz ⊢
            by_cases c3 : 65536 < (takeL xs).1
            · rw [if_pos c3] at hz; simp at hz
            · rw [if_neg c3]; exact ⟨rfl, c1⟩
        · rw [if_pos c1] at hz; exact absurd hz c1
      rw [e.1] at hbd h2 ⊢
      dsimp only at hbd h2 ⊢
      obtain ⟨e1, e2, e3, e4, e5⟩ := takeL_back hb (n := (takeL xs).1) (k := (takeL xs).2.1) (by rw [← e.2])
      generalize (takeL xs).1 = n at *
      generalize (takeL xs).2.1 = k at *
      have hl : ((xs.drop k).take n.toNat).length = n.toNat := by simp; omega
      refine ⟨?_, by omega, by omega, (hb.drop k).take _⟩
      unfold textL
      rw [hl, show ((n.toNat : Nat) : Int) = n by omega, e1, List.take_add]

theorem bytesI_strOf {l : List Int} (h : IsB l) : bytesI (strOfNums l) = l := by
  unfold bytesI
  rw [strOfNums_data, List.map_map]
  refine (List.map_congr_left (g := id) fun x hx => ?_).trans (List.map_id l)
  have := h x hx
  simp
  omega

/-- bytes are not a reader -/
theorem BytesAt.keep {w w' : World} {g : Nat} {bs : List Int} {p : Nat} {v : Value} {xs : List Int} (hr : Rd w g bs p) (h : BytesAt w v xs) (hg : Gg g w w') : BytesAt w' v xs := by
  obtain ⟨A, cap, rfl, hle, hc⟩ := h
  refine ⟨A, cap, rfl, hle, fun hne => ?_⟩
  obtain ⟨b, off, rfl, hlt, hcell⟩ := hc hne
  have hbg : b ≠ g := by
    rintro rfl
    obtain ⟨A', X, -⟩ := hr
    have h0 := hcell 0 (List.length_pos_iff.2 hne)
    rw [X.cell] at h0
    rcases off with _ | _ | _ | off <;> simp at h0
  exact ⟨b, off, rfl, Nat.lt_of_lt_of_le hlt hg.size, fun j hj => (World.cell?_of_block (a := ⟨b, off + j, none⟩) (hg.block b hlt (fun e => hbg (by cases e; rfl)))).trans (hcell j hj)⟩

theorem two_parts {w : World} {a b : Value} {xs ys : List Int} (ha : BytesAt w a xs) (hb : BytesAt w b ys) (hx : IsB xs) (hy : IsB ys) {g : Nat} (hg : g = w.heap.size) :
    PartsW (w.alloc (.cells #[a, b] 23)) (.slice (some ⟨g, 0, none⟩) 2 2) [xs, ys] := by
  subst hg
  refine ⟨_, 2, [a, b], rfl, Nat.le_refl _, rfl, ?_, fun _ => ⟨w.heap.size, 0, rfl, by simp, fun j u hu => ?_⟩, fun j u l hu hl => ?_⟩
  · intro l hl
    simp at hl
    rcases hl with rfl | rfl
    · exact hx
    · exact hy
  · have X : Bx (w.alloc (.cells #[a, b] 23)) w.heap.size 23 #[a, b] := Bx.new _ _ _ rfl
    rw [X.cell, Nat.zero_add]
    simpa using hu
  · rcases j with _ | _ | j
    · simp at hu hl; subst hu hl; exact ha.ge ((Ge.refl w).alloc _)
    · simp at hu hl; subst hu hl; exact hb.ge ((Ge.refl w).alloc _)
    · simp at hu

theorem takeL_zero {xs : List Int} {n : Int} {k : Nat} {e : Int} (h : takeL xs = (n, k, e)) (he : e ≠ 0) : k = 0 := by
  have : (takeL xs).2.2 ≠ 0 → (takeL xs).2.1 = 0 := by
    cases xs with
    | nil => intro _; rfl
    | cons c t =>
      rw [takeL]
      (repeat' split) <;> simp
  rw [h] at this
  exact this he
theorem txtL_zero {xs : List Int} {l : List Int} {k : Nat} {e : Int} (h : txtL xs = (l, k, e)) (he : e ≠ 0) : k = 0 := by
  unfold txtL at h
  split at h
  · simp only [Prod.mk.injEq] at h; exact h.2.1.symm
  · split at h
    · simp only [Prod.mk.injEq] at h; exact h.2.1.symm
    · simp only [Prod.mk.injEq] at h; exact absurd h.2.2.symm he

def AgainRel (bs : List Int) (g : Nat) (w : World) (o i : Value) (wr : World) : Prop :=
  ∃ (k p : Nat), k ≤ 64 ∧ i = .int .i64 (k : Int) ∧ Rd wr g bs p ∧ BytesAt wr o (bs.take p) ∧ Ge w wr

theorem hasPre_take {bs : List Int} (p : Nat) : hasPre bs (bs.take p) = true := by
  unfold hasPre eqL
  simp [List.length_take]
  omega

set_option maxHeartbeats 4000000 in
theorem again_any {w : World} {v : Value} {bs : List Int} (hb : BytesAt w v bs) (hi : IsB bs) (texts : Int) (_ht0 : 0 ≤ texts) (_ht1 : texts ≤ 18446744073709551615) (hlen : bs.length ≤ 9223372036854775807) :
    Calls Try.prog 5 #[v, .int .u64 texts] w fun e w' => e = .returned (.bool true) ∧ Ge w w' := by
  have HB := Lib.hid hb
  have HI := Lib.hid hi
  obtain ⟨A, cap, rfl, hle, hc⟩ := hb
  clear hc hi
  go_enter Try.func5, Try.ntmps5
  go_wp2_with fail
  refine (live_any _).mono ?_
  rintro e w1 ⟨rfl, hg1⟩
  have G1 := Lib.hid hg1
  clear hg1
  by_cases hl : 3000 < bs.length
  · go_wp2
    go_returns
    exact ⟨rfl, G1.out⟩
  go_wp2_with fail
  refine (new_any (HB.out.ge G1.out) HI.out (by omega)).mono ?_
  rintro e w2 ⟨g, rfl, hgs, hr, hg2⟩
  have G2 := Lib.hid (G1.out.trans hg2)
  have R2 := Lib.hid hr
  have hgs' : w.heap.size ≤ g := Nat.le_trans G1.out.size hgs
  clear hr hg2 hgs
  go_wp2
  go_loopw [6, 21] (fun o i wr => AgainRel bs g w o i wr) (fun _ i _ => 64 - (intOf i).toNat)
  case atStart => exact ⟨0, 0, by omega, rfl, R2.out, ⟨none, 0, rfl, Nat.le_refl _, fun h => absurd rfl h⟩, G2.out⟩
  case round =>
    obtain ⟨k, p, hk, rfl, hr, ho, hge⟩ := hrel
    have R := Lib.hid hr
    have O := Lib.hid ho
    have G := Lib.hid hge
    have hp : p ≤ bs.length := by obtain ⟨A, X, hb, hi, hp, r⟩ := hr; exact hp
    have hlp : (bs.take p).length = p := by rw [List.length_take]; omega
    obtain ⟨oA, ocap, rfl, ole, -⟩ := ho
    rw [hlp] at O ⊢
    have HLP := Lib.hid hlp
    clear hr hge hlp ole
    by_cases hlt : k < 64
    · go_wp2_with fail
      · refine (rtext_any R.out).mono ?_
        rintro e w3 ⟨rfl, hr3, hg3⟩
        have hG3 := Gg.ge G.out hg3 hgs'
        have hO3 := BytesAt.keep R.out O.out hg3
        clear hg3
        obtain ⟨T, hT⟩ : ∃ T, T = txtL (bs.drop p) := ⟨_, rfl⟩
        rw [← hT] at hr3 ⊢
        obtain ⟨l, kk, ee⟩ := T
        dsimp only at hr3 ⊢
        have HT := Lib.hid hT
        have R3 := Lib.hid hr3
        have O3 := Lib.hid hO3
        have G3 := Lib.hid hG3
        clear hT hr3 hO3 hG3
        by_cases c1 : ee = 0
        · subst c1
          obtain ⟨t1, t2, t3, t4⟩ := txtL_back (HI.out.drop p) HT.out.symm
          have T1 := Lib.hid t1
          have T4 := Lib.hid t4
          rw [List.length_drop] at t2
          clear t1 t4
          go_wp2_with fail
          refine (text_any _ (by rw [strOfNums_size]; exact t3) _).mono ?_
          rintro e w4 ⟨v4, rfl, hv4, hg4⟩
          rw [bytesI_strOf T4.out, T1.out] at hv4
          have R4 := Lib.hid (R3.out.ge hg4)
          have O4 := Lib.hid (O3.out.ge hg4)
          have G4 := Lib.hid (G3.out.trans hg4)
          have V4 := Lib.hid hv4.bytes
          obtain ⟨vA, vcap, rfl, -, -⟩ := hv4.bytes
          have hl4 : ((bs.drop p).take kk).length = kk := by rw [List.length_take, List.length_drop]; omega
          rw [hl4] at V4 ⊢
          clear hv4 hg4 hl4
          go_wp2_with fail
          refine (wjoin_any (two_parts O4.out V4.out (HI.out.take p) ((HI.out.drop p).take kk) rfl) (by simp) (by simp; omega)).mono ?_
          rintro e w5 ⟨v5, rfl, hv5, hg5⟩
          rw [show [bs.take p, (bs.drop p).take kk].flatten = bs.take (p + kk) by simp [List.take_add]] at hv5
          have R5 := Lib.hid (R4.out.ge (((Ge.refl w4).alloc _).trans hg5))
          have G5 := Lib.hid (G4.out.trans (((Ge.refl w4).alloc _).trans hg5))
          have V5 := Lib.hid hv5
          clear hv5 hg5
          go_wp2
          go_roundw
          case rel => exact ⟨k + 1, p + kk, by omega, by go_num, R5.out, V5.out, G5.out⟩
          case measure => simp [intOf]; omega
        · have c1' : (ee != 0) = true := by simpa using c1
          have C1 := Lib.hid c1
          clear c1
          have hk0 : kk = 0 := txtL_zero HT.out.symm C1.out
          subst hk0
          go_wp2_with fail
          refine (at_any R3.out).mono ?_
          rintro e w9 ⟨rfl, rfl⟩
          go_wp2_with fail
          refine (hasPrefix_any (HB.out.ge G3.out) O3.out HI.out (HI.out.take p) (by rw [List.length_take]; omega)).mono ?_
          rintro e w9 ⟨rfl, rfl⟩
          rw [hasPre_take]
          go_wp2
          go_returns
          exact ⟨rfl, G3.out⟩
      · refine (rint_any R.out).mono ?_
        rintro e w3 ⟨rfl, hr3, hg3⟩
        have hG3 := Gg.ge G.out hg3 hgs'
        have hO3 := BytesAt.keep R.out O.out hg3
        clear hg3
        obtain ⟨T, hT⟩ : ∃ T, T = takeL (bs.drop p) := ⟨_, rfl⟩
        rw [← hT] at hr3 ⊢
        obtain ⟨n, kk, ee⟩ := T
        dsimp only at hr3 ⊢
        have HT := Lib.hid hT
        have R3 := Lib.hid hr3
        have O3 := Lib.hid hO3
        have G3 := Lib.hid hG3
        clear hT hr3 hO3 hG3
        by_cases c1 : ee = 0
        · subst c1
          obtain ⟨t1, t2, t3, t4, t5⟩ := takeL_back (HI.out.drop p) HT.out.symm
          have T1 := Lib.hid t1
          rw [List.length_drop] at t2
          clear t1
          go_wp2_with fail
          refine (int_any _ t4 t5 _).mono ?_
          rintro e w4 ⟨v4, rfl, hv4, hg4⟩
          rw [T1.out] at hv4
          have R4 := Lib.hid (R3.out.ge hg4)
          have O4 := Lib.hid (O3.out.ge hg4)
          have G4 := Lib.hid (G3.out.trans hg4)
          have V4 := Lib.hid hv4.bytes
          obtain ⟨vA, vcap, rfl, -, -⟩ := hv4.bytes
          have hl4 : ((bs.drop p).take kk).length = kk := by rw [List.length_take, List.length_drop]; omega
          rw [hl4] at V4 ⊢
          clear hv4 hg4 hl4
          go_wp2_with fail
          refine (wjoin_any (two_parts O4.out V4.out (HI.out.take p) ((HI.out.drop p).take kk) rfl) (by simp) (by simp; omega)).mono ?_
          rintro e w5 ⟨v5, rfl, hv5, hg5⟩
          rw [show [bs.take p, (bs.drop p).take kk].flatten = bs.take (p + kk) by simp [List.take_add]] at hv5
          have R5 := Lib.hid (R4.out.ge (((Ge.refl w4).alloc _).trans hg5))
          have G5 := Lib.hid (G4.out.trans (((Ge.refl w4).alloc _).trans hg5))
          have V5 := Lib.hid hv5
          clear hv5 hg5
          go_wp2
          go_roundw
          case rel => exact ⟨k + 1, p + kk, by omega, by go_num, R5.out, V5.out, G5.out⟩
          case measure => simp [intOf]; omega
        · have c1' : (ee != 0) = true := by simpa using c1
          have C1 := Lib.hid c1
          clear c1
          have hk0 : kk = 0 := takeL_zero HT.out.symm C1.out
          subst hk0
          go_wp2_with fail
          refine (at_any R3.out).mono ?_
          rintro e w9 ⟨rfl, rfl⟩
          go_wp2_with fail
          refine (hasPrefix_any (HB.out.ge G3.out) O3.out HI.out (HI.out.take p) (by rw [List.length_take]; omega)).mono ?_
          rintro e w9 ⟨rfl, rfl⟩
          rw [hasPre_take]
          go_wp2
          go_returns
          exact ⟨rfl, G3.out⟩
    · go_wp2_with fail
      refine (at_any R.out).mono ?_
      rintro e w9 ⟨rfl, rfl⟩
      go_wp2_with fail
      refine (hasPrefix_any (HB.out.ge G.out) O.out HI.out (HI.out.take p) (by rw [List.length_take]; omega)).mono ?_
      rintro e w9 ⟨rfl, rfl⟩
      rw [hasPre_take]
      go_wp2
      go_returns
      exact ⟨rfl, G.out⟩
end Go.Proofs.Ytonpoloahagddaa
