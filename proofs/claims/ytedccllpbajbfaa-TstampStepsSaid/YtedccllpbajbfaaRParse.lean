/-
  The reference's Parse.
-/
import Derived.Test.YtedccllpbajbfaaParse
namespace Go.Proofs.Ytedccllpbajbfaa
open Go.RowKit

theorem rno_of_none {s : ByteArray} {p : Nat} {q : Option (List Int × Int)} (h : rrun ((bI s).take p) ([], 0) = q) (hq : q = none) : ¬ ∃ t : Tm, IsTxt (bI s) t := by
  rintro ⟨t, hc, ht⟩
  obtain ⟨l, n, h1, _⟩ := prun_text hc
  have h2 := rrun_of_prun _ _ _ h1
  have e : bI s = (bI s).take p ++ (bI s).drop p := (List.take_append_drop _ _).symm
  rw [ht, e, rrun_app, h, hq] at h2
  cases h2

/-- the letters up to a place; behind the last one: all numbers -/
def RPAt (s : ByteArray) (pos : Nat) (xs : List Int) (m : Int) : Prop :=
  (pos ≤ s.size ∧ rrun ((bI s).take pos) ([], 0) = some (xs, m)) ∨ (pos = s.size + 1 ∧ m = 0 ∧ ∃ l n, rrun (bI s) ([], 0) = some (l, n) ∧ xs = l ++ [n])

def RPRel (s : ByteArray) (w : World) (l n i : Value) (wr : World) : Prop :=
  ∃ (pos : Nat) (xs : List Int) (m : Int), pos ≤ s.size + 1 ∧ i = .int .i64 (pos : Int) ∧ OwnI wr (w.heap.size + 1) l xs ∧ n = .int .i64 m ∧ 0 ≤ m ∧ m ≤ 10737418249 ∧ xs.length ≤ pos ∧
    RPAt s pos xs m ∧ Bx wr w.heap.size 24 #[.int .i64 0, .int .i64 0, .int .i64 0, .int .i64 0, .int .i64 0, .int .i64 0] ∧ w.heap.size + 1 ≤ wr.heap.size ∧ Ge w wr

set_option maxRecDepth 100000 in
set_option maxHeartbeats 8000000 in
theorem rparse_any (s : ByteArray) (hs : s.size ≤ 100000) (w : World) : Calls Try.prog 18 #[.string s] w fun e w' => ParseEnd s w e w' := by
  go_enter Try.func18, Try.ntmps18
  go_wp2
  go_loopw [4, 5, 6] (fun l n i wr => RPRel s w l n i wr) (fun _ _ i _ => s.size + 1 - (intOf i).toNat)
  case atStart => exact ⟨0, [], 0, by omega, rfl, OwnI.nil _ _, rfl, by omega, by omega, by simp, .inl ⟨by omega, rfl⟩, Bx.new _ _ _ rfl, by simp, (Ge.refl w).alloc _⟩
  case round =>
    obtain ⟨pos, xs, m, hpos, rfl, ho, rfl, m0, m1, hxl, hpr, hz, hsz, hge⟩ := hrel
    have O := Lib.hid ho
    have PR := Lib.hid hpr
    have G := Lib.hid hge
    have Z := Lib.hid hz
    clear ho hpr hge
    by_cases hp : pos ≤ s.size
    · have hPR : rrun ((bI s).take pos) ([], 0) = some (xs, m) := by
        rcases PR.out with h | h
        · exact h.2
        · omega
      have PS := Lib.hid hPR
      clear hPR
      have hd : decide ((pos : Int) ≤ (s.size : Int)) = true := by simp; omega
      have O2 := Lib.hid (O.out.ge ((Ge.refl wr).alloc (.cells #[.int .i64 m] 2)))
      have C1 := Lib.hid (show xs.length + 1 ≤ 1000000 by omega)
      have C2 := Lib.hid (show w.heap.size + 1 ≤ (wr.alloc (.cells #[.int .i64 m] 2)).heap.size by simp; omega)
      have C3 := Lib.hid (show (wr.alloc (.cells #[.int .i64 m] 2)).cell? ⟨wr.heap.size, 0, none⟩ = some (.int .i64 m) from (Bx.new wr 2 #[.int .i64 m] rfl).cell 0)
      by_cases he : pos = s.size
      · subst he
        have he' : ((s.size : Int) == (s.size : Int)) = true := by simp
        clear hz
        go_wp2_with (at_builtin; refine wpList_app1 rfl (.tmp 25) (.tmp 27) rfl rfl rfl O2.out C3.out C1.out C2.out ?_; intro v' w2 hown hgrow _hat; have HO := Lib.hid hown; have HG := Lib.hid hgrow; clear hown hgrow _hat)
        go_roundw
        case rel =>
          have hs2 := HG.out.size
          simp at hs2
          refine ⟨s.size + 1, xs ++ [m], 0, by omega, by go_num, HO.out, rfl, by omega, by omega, by simp; omega, .inr ⟨rfl, rfl, xs, m, ?_, rfl⟩, app1_other O2.out HG.out (Z.out.alloc _) (fun cs h => by cases h), by omega, ge_app1 (G.out.alloc _) O2.out (by omega) HG.out⟩
          have := PS.out
          rwa [List.take_of_length_le (by rw [bI_len]; omega)] at this
        case measure => simp [intOf]
      · have hp' : pos < s.size := by omega
        have he' : ((pos : Int) == (s.size : Int)) = false := by simp; omega
        have hix : ∀ w' : World, (Instr.index 9 (.string s) (.int .i64 (pos : Int))).run Try.prog w' = .ok (.int .u8 ((s[pos]'hp').toNat : Int)) w' := fun w' => by
          have h1 : (pos : Int) < (s.size : Int) := by omega
          go_simp
        have HT := Lib.hid (bI_take s pos hp')
        have hc256 := (s[pos]'hp').toNat_lt
        obtain ⟨c, hc⟩ : ∃ c : Nat, c = (s[pos]'hp').toNat := ⟨_, rfl⟩
        rw [← hc] at hix HT hc256
        have hps : ∀ q, rstep (xs, m) (c : Int) = q → rrun ((bI s).take (pos + 1)) ([], 0) = q := fun q hq => by rw [HT.out, rrun_snoc, PS.out]; exact hq
        have RS := Lib.hid hps
        clear hps hc
        by_cases c1 : c = 46
        · subst c1
          have N := Lib.hid (RS.out (some (xs ++ [m], 0)) (by simp [rstep]))
          clear hz
          go_wp2_with (at_builtin; refine wpList_app1 rfl (.tmp 25) (.tmp 27) rfl rfl rfl O2.out C3.out C1.out C2.out ?_; intro v' w2 hown hgrow _hat; have HO := Lib.hid hown; have HG := Lib.hid hgrow; clear hown hgrow _hat)
          go_roundw
          case rel =>
            have hs2 := HG.out.size
            simp at hs2
            exact ⟨pos + 1, xs ++ [m], 0, by omega, by go_num, HO.out, rfl, by omega, by omega, by simp; omega, .inl ⟨by omega, N.out⟩, app1_other O2.out HG.out (Z.out.alloc _) (fun cs h => by cases h), by omega, ge_app1 (G.out.alloc _) O2.out (by omega) HG.out⟩
          case measure => simp [intOf]; omega
        · have t1 : ((c : Int) == 46) = false := by simp; omega
          by_cases c2 : 48 ≤ c ∧ c ≤ 57 ∧ m ≤ 1073741824
          · obtain ⟨d1, d2, d3⟩ := c2
            have N := Lib.hid (RS.out (some (xs, 10 * m + ((c : Int) - 48))) (by unfold rstep; rw [if_neg (by omega), if_pos ⟨by omega, by omega, d3⟩]))
            have t2 : decide ((c : Int) < 48) = false := by simp; omega
            have t3 : decide ((57 : Int) < (c : Int)) = false := by simp; omega
            have t4 : decide (1073741824 < m) = false := by simp; omega
            clear hz
            go_wp2
            refine ⟨⟨pos + 1, xs, 10 * m + ((c : Int) - 48), by omega, by go_num, O.out, rfl, by omega, by omega, by omega, .inl ⟨by omega, N.out⟩, Z.out, hsz, G.out⟩, ?_⟩
            simp [intOf]; omega
          · have N := Lib.hid (rno_of_none (RS.out none (by unfold rstep; rw [if_neg (by omega), if_neg (fun h => c2 ⟨by have := h.1; omega, by have := h.2.1; omega, h.2.2⟩)])) rfl)
            by_cases c4 : c < 48
            · have t2 : decide ((c : Int) < 48) = true := by simp; omega
              clear c2
              have cz := hz.cell
              have lz := hz.lt
              have fz := hz.frozen
              go_wp2_with fail
              obtain ⟨XW, GZ⟩ := wz_zero hz G.out
              obtain ⟨wz, hwz⟩ : ∃ wz, wz = ((((((wr.setCell ⟨w.heap.size, 0, none⟩ (.int .i64 0)).setCell ⟨w.heap.size, 1, none⟩ (.int .i64 0)).setCell ⟨w.heap.size, 2, none⟩ (.int .i64 0)).setCell ⟨w.heap.size, 3, none⟩ (.int .i64 0)).setCell ⟨w.heap.size, 4, none⟩ (.int .i64 0)).setCell ⟨w.heap.size, 5, none⟩ (.int .i64 0)) := ⟨_, rfl⟩
              rw [← hwz] at XW GZ ⊢
              have cW := XW.cell
              clear hwz cz lz fz
              refine bodyPost_ret (by simp [results, Try.results18, go_sem, cW]; try rfl) rfl ?_
              exact ⟨.inr ⟨N.out, rfl⟩, GZ⟩
            · have t2 : decide ((c : Int) < 48) = false := by simp; omega
              by_cases c5 : 57 < c
              · have t3 : decide ((57 : Int) < (c : Int)) = true := by simp; omega
                clear c2
                have cz := hz.cell
                have lz := hz.lt
                have fz := hz.frozen
                go_wp2_with fail
                obtain ⟨XW, GZ⟩ := wz_zero hz G.out
                obtain ⟨wz, hwz⟩ : ∃ wz, wz = ((((((wr.setCell ⟨w.heap.size, 0, none⟩ (.int .i64 0)).setCell ⟨w.heap.size, 1, none⟩ (.int .i64 0)).setCell ⟨w.heap.size, 2, none⟩ (.int .i64 0)).setCell ⟨w.heap.size, 3, none⟩ (.int .i64 0)).setCell ⟨w.heap.size, 4, none⟩ (.int .i64 0)).setCell ⟨w.heap.size, 5, none⟩ (.int .i64 0)) := ⟨_, rfl⟩
                rw [← hwz] at XW GZ ⊢
                have cW := XW.cell
                clear hwz cz lz fz
                refine bodyPost_ret (by simp [results, Try.results18, go_sem, cW]; try rfl) rfl ?_
                exact ⟨.inr ⟨N.out, rfl⟩, GZ⟩
              · have t3 : decide ((57 : Int) < (c : Int)) = false := by simp; omega
                have t4 : decide (1073741824 < m) = true := by simp; omega
                clear c2
                have cz := hz.cell
                have lz := hz.lt
                have fz := hz.frozen
                go_wp2_with fail
                obtain ⟨XW, GZ⟩ := wz_zero hz G.out
                obtain ⟨wz, hwz⟩ : ∃ wz, wz = ((((((wr.setCell ⟨w.heap.size, 0, none⟩ (.int .i64 0)).setCell ⟨w.heap.size, 1, none⟩ (.int .i64 0)).setCell ⟨w.heap.size, 2, none⟩ (.int .i64 0)).setCell ⟨w.heap.size, 3, none⟩ (.int .i64 0)).setCell ⟨w.heap.size, 4, none⟩ (.int .i64 0)).setCell ⟨w.heap.size, 5, none⟩ (.int .i64 0)) := ⟨_, rfl⟩
                rw [← hwz] at XW GZ ⊢
                have cW := XW.cell
                clear hwz cz lz fz
                refine bodyPost_ret (by simp [results, Try.results18, go_sem, cW]; try rfl) rfl ?_
                exact ⟨.inr ⟨N.out, rfl⟩, GZ⟩
    · obtain rfl : pos = s.size + 1 := by omega
      have hd : decide (((s.size + 1 : Nat) : Int) ≤ (s.size : Int)) = false := by simp; omega
      have hd2 : decide ((s.size : Int) + 1 ≤ (s.size : Int)) = false := by simp; omega
      obtain ⟨l, n, hrr, hxs⟩ : ∃ l n, rrun (bI s) ([], 0) = some (l, n) ∧ xs = l ++ [n] := by
        rcases PR.out with h | h
        · omega
        · exact h.2.2
      have HT := Lib.hid (fun (t : Tm) (ht : IsTxt (bI s) t) => (show xs = t.e :: lpL t by
        obtain ⟨l', n', h1, h2⟩ := prun_text ht.1
        have h3 := rrun_of_prun _ _ _ h1
        rw [ht.2, hrr] at h3
        cases h3
        rw [hxs]
        exact h2))
      obtain ⟨ep, rest, hall⟩ : ∃ ep rest, xs = ep :: rest := by
        rw [hxs]
        cases l with
        | nil => exact ⟨n, [], rfl⟩
        | cons x l => exact ⟨x, l ++ [n], rfl⟩
      clear hrr hxs l n
      rw [show ((s.size + 1 : Nat) : Int) = (s.size : Int) + 1 from by omega]
      by_cases c5 : 5 < xs.length
      · have N := Lib.hid (show ¬ ∃ t : Tm, IsTxt (bI s) t by
          rintro ⟨t, ht⟩
          have h1 := congrArg List.length (HT.out t ht)
          have h2 := lpL_len t
          simp at h1
          omega)
        obtain ⟨oA, ocap, hv, -, -⟩ := O.out.ints
        rw [hv]
        clear hall
        have cz := hz.cell
        have lz := hz.lt
        have fz := hz.frozen
        go_wp2_with fail
        obtain ⟨XW, GZ⟩ := wz_zero hz G.out
        obtain ⟨wz, hwz⟩ : ∃ wz, wz = ((((((wr.setCell ⟨w.heap.size, 0, none⟩ (.int .i64 0)).setCell ⟨w.heap.size, 1, none⟩ (.int .i64 0)).setCell ⟨w.heap.size, 2, none⟩ (.int .i64 0)).setCell ⟨w.heap.size, 3, none⟩ (.int .i64 0)).setCell ⟨w.heap.size, 4, none⟩ (.int .i64 0)).setCell ⟨w.heap.size, 5, none⟩ (.int .i64 0)) := ⟨_, rfl⟩
        rw [← hwz] at XW GZ ⊢
        have cW := XW.cell
        clear hwz cz lz fz
        refine bodyPost_ret (by simp [results, Try.results18, go_sem, cW]; try rfl) rfl ?_
        exact ⟨.inr ⟨N.out, rfl⟩, GZ⟩
      · obtain ⟨oA, ocap, hvv, -, -⟩ := O.out.ints
        rw [hvv] at O ⊢
        have HALLX := Lib.hid hall
        clear hvv hall
        go_wp2
        have hall := HALLX.out
        · skip
          obtain ⟨A, cap, hv, hle, hcells⟩ := O.out.ints
          obtain ⟨g, hA, hgb, hgl, hcell⟩ := hcells (by rw [hall]; simp)
          subst hA
          rw [hv]
          rw [hall] at hcell hle ⊢
          have hc0 := hcell 0 (by simp)
          simp only [List.getElem?_cons_zero, Option.getD_some] at hc0
          have hrl : rest.length ≤ 4 := by
            have := congrArg List.length hall
            simp at this
            omega
          have HI := Lib.hid (show IntsAt wr (.slice (if cap = 1 then some ⟨g, 0, none⟩ else some ⟨g, 1, none⟩) rest.length (cap - 1)) rest by
            refine ⟨_, _, rfl, fun hne => ?_⟩
            have hpos := List.length_pos_iff.2 hne
            simp only [List.length_cons] at hle
            refine ⟨g, 1, by rw [if_neg (by omega)], hgl, fun j hj => ?_⟩
            have := hcell (j + 1) (by simp; omega)
            rw [List.getElem?_cons_succ] at this
            rw [Nat.add_comm 1 j]
            exact this)
          have HALL := Lib.hid hall
          have HV := Lib.hid hv
          simp only [List.length_cons] at hle ⊢
          have hz2' := Lib.hid hz
          clear hcells hcell hall hv O hz
          obtain ⟨sv, hsv⟩ : ∃ sv, sv = Value.slice (if cap = 1 then some ⟨g, 0, none⟩ else some ⟨g, 1, none⟩) rest.length (cap - 1) := ⟨_, rfl⟩
          have hsl : ∀ w' : World, (Instr.slice 30 (.slice (some ⟨g, 0, none⟩) (rest.length + 1) cap) (some (.int .i64 1)) none none).run Try.prog w' = .ok sv w' := by
            intro w'
            rw [hsv]
            have h1 : (1 : Int) ≤ (rest.length : Int) + 1 := by omega
            have h2 : (rest.length : Int) + 1 ≤ (cap : Int) := by omega
            go_simp
          rw [← hsv] at HI
          clear hsv
          go_region_held3 (fun w' => w'.cell? ⟨g, 0, none⟩ = some (.int .i64 ep)) (first | go_keep | (go_simp) | (rw [World.cell?_alloc_lt _ _ _ (by simp; omega)]; assumption) | assumption) (first | (go_at_call 16; refine (rmake_any ep _ rest _ ?_ (by omega)).mono ?_; exact HI.out.below (by go_grown); rintro e w3 ⟨rfl, hb3⟩; have hl3 : g < w3.heap.size := Nat.lt_of_lt_of_le (by simp; omega) hb3.size; have hc3 : w3.cell? ⟨g, 0, none⟩ = some (.int .i64 ep) := (hb3.cell (p := ⟨g, 0, none⟩) (by simp; omega)).trans (by go_simp); try (have hx3 : Bx w3 wr.heap.size 24 #[.int .i64 0, .int .i64 0, .int .i64 0, .int .i64 0, .int .i64 0, .int .i64 0] := (hb3.block wr.heap.size (by simp)).trans (Bx.new wr 24 _ rfl); have cz3 := hx3.cell; have fz3 := hx3.frozen; have lz3 := hx3.lt)))
          · skip
            obtain ⟨t, ht⟩ : ∃ t, t = makeT ep rest := ⟨_, rfl⟩
            obtain ⟨me, hme⟩ : ∃ me, me = makeE ep rest := ⟨_, rfl⟩
            rw [← ht, ← hme]
            have KY := Lib.hid (fun (h : textL t = bI s) (h0 : me = 0) => show IsTxt (bI s) t by rw [ht] at h ⊢; exact parse_ok (hme ▸ h0) h)
            have KN := Lib.hid (fun (h : me ≠ 0 ∨ textL t ≠ bI s) => show ¬ ∃ t : Tm, IsTxt (bI s) t by
              rintro ⟨t', ht'⟩
              have hk := parse_key ht' (HALL.out.symm.trans (HT.out t' ht'))
              rw [← ht, ← hme] at hk
              rcases h with h | h
              · exact h hk.1
              · exact h hk.2)
            obtain ⟨w4, hw4⟩ : ∃ w4, w4 = w3.alloc (.cells #[.int .i64 t.e, .int .i64 t.d, .int .i64 t.l0, .int .i64 t.l1, .int .i64 t.l2, .int .i64 t.l3] 24) := ⟨_, rfl⟩
            rw [← hw4]
            have hg3 : Ge wr w3 := (Ge.refl wr).drew.trans hb3
            have X4 : Bx w4 w3.heap.size 24 #[.int .i64 t.e, .int .i64 t.d, .int .i64 t.l0, .int .i64 t.l1, .int .i64 t.l2, .int .i64 t.l3] := by rw [hw4]; exact Bx.new _ _ _ rfl
            have Z4 : Bx w4 w.heap.size 24 #[.int .i64 0, .int .i64 0, .int .i64 0, .int .i64 0, .int .i64 0, .int .i64 0] := by rw [hw4]; exact (hz2'.out.ge hg3).alloc _
            have G4 := Lib.hid (show Ge w w4 by rw [hw4]; exact (G.out.trans hg3).alloc _)
            clear hw4 hb3 ht hme hg3
            have cX := X4.cell
            have lX := X4.lt
            by_cases hme : me = 0
            · subst hme
              go_wp2_with fail
              refine (rtext_any t _).mono ?_
              rintro e w5 ⟨rfl, hb5⟩
              have X5 := X4.ge hb5
              have Z5 := Z4.ge hb5
              have G5 := Lib.hid (G4.out.trans hb5)
              clear hb5 cX lX
              by_cases htx : textL t = bI s
              · have OK := Lib.hid (KY.out htx (by first | exact rfl | trivial))
                rw [htx, strOf_bI]
                have hss : (s.toList != s.toList) = false := by simp
                clear htx
                have cX := X5.cell
                have lX := X5.lt
                have cz := Z5.cell
                have lz := Z5.lt
                have fz := Z5.frozen
                go_wp2_with fail
                obtain ⟨wz, hwz⟩ : ∃ wz, wz = ((((((w5.setCell ⟨w.heap.size, 0, none⟩ (.int .i64 t.e)).setCell ⟨w.heap.size, 1, none⟩ (.int .i64 t.d)).setCell ⟨w.heap.size, 2, none⟩ (.int .i64 t.l0)).setCell ⟨w.heap.size, 3, none⟩ (.int .i64 t.l1)).setCell ⟨w.heap.size, 4, none⟩ (.int .i64 t.l2)).setCell ⟨w.heap.size, 5, none⟩ (.int .i64 t.l3)) := ⟨_, rfl⟩
                have XW : Bx wz w.heap.size 24 #[.int .i64 t.e, .int .i64 t.d, .int .i64 t.l0, .int .i64 t.l1, .int .i64 t.l2, .int .i64 t.l3] := by rw [hwz]; exact ((((((Z5.set 0 (.int .i64 t.e)).set 1 (.int .i64 t.d)).set 2 (.int .i64 t.l0)).set 3 (.int .i64 t.l1)).set 4 (.int .i64 t.l2)).set 5 (.int .i64 t.l3))
                have GZ : Ge w wz := by rw [hwz]; exact (Below.setCell (Below.setCell (Below.setCell (Below.setCell (Below.setCell (Below.setCell G5.out (Nat.le_refl _) _) (Nat.le_refl _) _) (Nat.le_refl _) _) (Nat.le_refl _) _) (Nat.le_refl _) _) (Nat.le_refl _) _)
                rw [← hwz]
                have cW := XW.cell
                clear hwz
                refine bodyPost_ret (by simp [results, Try.results18, go_sem, cW]; try rfl) rfl ?_
                exact ⟨.inl ⟨t, OK.out, rfl⟩, GZ⟩
              · have N := Lib.hid (KN.out (.inr htx))
                have hss : ((strOfNums (textL t)).toList != s.toList) = true := by
                  simp only [bne_iff_ne, ne_eq]
                  exact text_ne htx
                have hss2 : ((strOfNums (textL t)).toList == s.toList) = false := by simpa using text_ne htx
                clear htx
                have cz := Z5.cell
                have lz := Z5.lt
                have fz := Z5.frozen
                go_wp2_with fail
                obtain ⟨XW, GZ⟩ := wz_zero Z5 G5.out
                obtain ⟨wz, hwz⟩ : ∃ wz, wz = ((((((w5.setCell ⟨w.heap.size, 0, none⟩ (.int .i64 0)).setCell ⟨w.heap.size, 1, none⟩ (.int .i64 0)).setCell ⟨w.heap.size, 2, none⟩ (.int .i64 0)).setCell ⟨w.heap.size, 3, none⟩ (.int .i64 0)).setCell ⟨w.heap.size, 4, none⟩ (.int .i64 0)).setCell ⟨w.heap.size, 5, none⟩ (.int .i64 0)) := ⟨_, rfl⟩
                rw [← hwz] at XW GZ ⊢
                have cW := XW.cell
                clear hwz cz lz fz
                refine bodyPost_ret (by simp [results, Try.results18, go_sem, cW]; try rfl) rfl ?_
                exact ⟨.inr ⟨N.out, rfl⟩, GZ⟩
            · have hme' : (me != 0) = true := by simpa using hme
              have N := Lib.hid (KN.out (.inl hme))
              clear hme cX lX
              have cz := Z4.cell
              have lz := Z4.lt
              have fz := Z4.frozen
              go_wp2_with fail
              obtain ⟨XW, GZ⟩ := wz_zero Z4 G4.out
              obtain ⟨wz, hwz⟩ : ∃ wz, wz = ((((((w4.setCell ⟨w.heap.size, 0, none⟩ (.int .i64 0)).setCell ⟨w.heap.size, 1, none⟩ (.int .i64 0)).setCell ⟨w.heap.size, 2, none⟩ (.int .i64 0)).setCell ⟨w.heap.size, 3, none⟩ (.int .i64 0)).setCell ⟨w.heap.size, 4, none⟩ (.int .i64 0)).setCell ⟨w.heap.size, 5, none⟩ (.int .i64 0)) := ⟨_, rfl⟩
              rw [← hwz] at XW GZ ⊢
              have cW := XW.cell
              clear hwz cz lz fz
              refine bodyPost_ret (by simp [results, Try.results18, go_sem, cW]; try rfl) rfl ?_
              exact ⟨.inr ⟨N.out, rfl⟩, GZ⟩
          · skip
            obtain ⟨t, ht⟩ : ∃ t, t = makeT ep rest := ⟨_, rfl⟩
            obtain ⟨me, hme⟩ : ∃ me, me = makeE ep rest := ⟨_, rfl⟩
            rw [← ht, ← hme]
            have KY := Lib.hid (fun (h : textL t = bI s) (h0 : me = 0) => show IsTxt (bI s) t by rw [ht] at h ⊢; exact parse_ok (hme ▸ h0) h)
            have KN := Lib.hid (fun (h : me ≠ 0 ∨ textL t ≠ bI s) => show ¬ ∃ t : Tm, IsTxt (bI s) t by
              rintro ⟨t', ht'⟩
              have hk := parse_key ht' (HALL.out.symm.trans (HT.out t' ht'))
              rw [← ht, ← hme] at hk
              rcases h with h | h
              · exact h hk.1
              · exact h hk.2)
            have hg3 : Ge wr w3 := ((Ge.refl wr).alloc _).drew.trans hb3
            obtain ⟨w4, hw4⟩ : ∃ w4, w4 = ((((((w3.setCell ⟨wr.heap.size, 0, none⟩ (.int .i64 t.e)).setCell ⟨wr.heap.size, 1, none⟩ (.int .i64 t.d)).setCell ⟨wr.heap.size, 2, none⟩ (.int .i64 t.l0)).setCell ⟨wr.heap.size, 3, none⟩ (.int .i64 t.l1)).setCell ⟨wr.heap.size, 4, none⟩ (.int .i64 t.l2)).setCell ⟨wr.heap.size, 5, none⟩ (.int .i64 t.l3)) := ⟨_, rfl⟩
            rw [← hw4]
            have X4 : Bx w4 wr.heap.size 24 #[.int .i64 t.e, .int .i64 t.d, .int .i64 t.l0, .int .i64 t.l1, .int .i64 t.l2, .int .i64 t.l3] := by rw [hw4]; exact ((((((hx3.set 0 (.int .i64 t.e)).set 1 (.int .i64 t.d)).set 2 (.int .i64 t.l0)).set 3 (.int .i64 t.l1)).set 4 (.int .i64 t.l2)).set 5 (.int .i64 t.l3))
            have hzz := hz2'.out.lt
            have Z4 : Bx w4 w.heap.size 24 #[.int .i64 0, .int .i64 0, .int .i64 0, .int .i64 0, .int .i64 0, .int .i64 0] := by rw [hw4]; exact ((((((hz2'.out.ge hg3).set_ne 0 _ (by omega)).set_ne 1 _ (by omega)).set_ne 2 _ (by omega)).set_ne 3 _ (by omega)).set_ne 4 _ (by omega)).set_ne 5 _ (by omega)
            have G4 := Lib.hid (show Ge w w4 by rw [hw4]; exact (Below.setCell (Below.setCell (Below.setCell (Below.setCell (Below.setCell (Below.setCell (G.out.trans hg3) (by show w.heap.size ≤ wr.heap.size; omega) _) (by show w.heap.size ≤ wr.heap.size; omega) _) (by show w.heap.size ≤ wr.heap.size; omega) _) (by show w.heap.size ≤ wr.heap.size; omega) _) (by show w.heap.size ≤ wr.heap.size; omega) _) (by show w.heap.size ≤ wr.heap.size; omega) _))
            clear hw4 hb3 ht hme hg3 hx3 cz3 fz3 lz3 hzz
            have cX := X4.cell
            have lX := X4.lt
            by_cases hme : me = 0
            · subst hme
              go_wp2_with fail
              refine (rtext_any t _).mono ?_
              rintro e w5 ⟨rfl, hb5⟩
              have X5 := X4.ge hb5
              have Z5 := Z4.ge hb5
              have G5 := Lib.hid (G4.out.trans hb5)
              clear hb5 cX lX
              by_cases htx : textL t = bI s
              · have OK := Lib.hid (KY.out htx (by first | exact rfl | trivial))
                rw [htx, strOf_bI]
                have hss : (s.toList != s.toList) = false := by simp
                clear htx
                have cX := X5.cell
                have lX := X5.lt
                have cz := Z5.cell
                have lz := Z5.lt
                have fz := Z5.frozen
                go_wp2_with fail
                obtain ⟨wz, hwz⟩ : ∃ wz, wz = ((((((w5.setCell ⟨w.heap.size, 0, none⟩ (.int .i64 t.e)).setCell ⟨w.heap.size, 1, none⟩ (.int .i64 t.d)).setCell ⟨w.heap.size, 2, none⟩ (.int .i64 t.l0)).setCell ⟨w.heap.size, 3, none⟩ (.int .i64 t.l1)).setCell ⟨w.heap.size, 4, none⟩ (.int .i64 t.l2)).setCell ⟨w.heap.size, 5, none⟩ (.int .i64 t.l3)) := ⟨_, rfl⟩
                have XW : Bx wz w.heap.size 24 #[.int .i64 t.e, .int .i64 t.d, .int .i64 t.l0, .int .i64 t.l1, .int .i64 t.l2, .int .i64 t.l3] := by rw [hwz]; exact ((((((Z5.set 0 (.int .i64 t.e)).set 1 (.int .i64 t.d)).set 2 (.int .i64 t.l0)).set 3 (.int .i64 t.l1)).set 4 (.int .i64 t.l2)).set 5 (.int .i64 t.l3))
                have GZ : Ge w wz := by rw [hwz]; exact (Below.setCell (Below.setCell (Below.setCell (Below.setCell (Below.setCell (Below.setCell G5.out (Nat.le_refl _) _) (Nat.le_refl _) _) (Nat.le_refl _) _) (Nat.le_refl _) _) (Nat.le_refl _) _) (Nat.le_refl _) _)
                rw [← hwz]
                have cW := XW.cell
                clear hwz
                refine bodyPost_ret (by simp [results, Try.results18, go_sem, cW]; try rfl) rfl ?_
                exact ⟨.inl ⟨t, OK.out, rfl⟩, GZ⟩
              · have N := Lib.hid (KN.out (.inr htx))
                have hss : ((strOfNums (textL t)).toList != s.toList) = true := by
                  simp only [bne_iff_ne, ne_eq]
                  exact text_ne htx
                have hss2 : ((strOfNums (textL t)).toList == s.toList) = false := by simpa using text_ne htx
                clear htx
                have cz := Z5.cell
                have lz := Z5.lt
                have fz := Z5.frozen
                go_wp2_with fail
                obtain ⟨XW, GZ⟩ := wz_zero Z5 G5.out
                obtain ⟨wz, hwz⟩ : ∃ wz, wz = ((((((w5.setCell ⟨w.heap.size, 0, none⟩ (.int .i64 0)).setCell ⟨w.heap.size, 1, none⟩ (.int .i64 0)).setCell ⟨w.heap.size, 2, none⟩ (.int .i64 0)).setCell ⟨w.heap.size, 3, none⟩ (.int .i64 0)).setCell ⟨w.heap.size, 4, none⟩ (.int .i64 0)).setCell ⟨w.heap.size, 5, none⟩ (.int .i64 0)) := ⟨_, rfl⟩
                rw [← hwz] at XW GZ ⊢
                have cW := XW.cell
                clear hwz cz lz fz
                refine bodyPost_ret (by simp [results, Try.results18, go_sem, cW]; try rfl) rfl ?_
                exact ⟨.inr ⟨N.out, rfl⟩, GZ⟩
            · have hme' : (me != 0) = true := by simpa using hme
              have N := Lib.hid (KN.out (.inl hme))
              clear hme cX lX
              have cz := Z4.cell
              have lz := Z4.lt
              have fz := Z4.frozen
              go_wp2_with fail
              obtain ⟨XW, GZ⟩ := wz_zero Z4 G4.out
              obtain ⟨wz, hwz⟩ : ∃ wz, wz = ((((((w4.setCell ⟨w.heap.size, 0, none⟩ (.int .i64 0)).setCell ⟨w.heap.size, 1, none⟩ (.int .i64 0)).setCell ⟨w.heap.size, 2, none⟩ (.int .i64 0)).setCell ⟨w.heap.size, 3, none⟩ (.int .i64 0)).setCell ⟨w.heap.size, 4, none⟩ (.int .i64 0)).setCell ⟨w.heap.size, 5, none⟩ (.int .i64 0)) := ⟨_, rfl⟩
              rw [← hwz] at XW GZ ⊢
              have cW := XW.cell
              clear hwz cz lz fz
              refine bodyPost_ret (by simp [results, Try.results18, go_sem, cW]; try rfl) rfl ?_
              exact ⟨.inr ⟨N.out, rfl⟩, GZ⟩
end Go.Proofs.Ytedccllpbajbfaa
