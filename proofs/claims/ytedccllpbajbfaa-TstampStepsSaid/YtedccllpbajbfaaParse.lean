/-
  Parse: the time of a text.
-/
import Derived.Test.YtedccllpbajbfaaPlainP
import Derived.Test.YtedccllpbajbfaaRMake
import Derived.Test.YtedccllpbajbfaaDraw
import Derived.Lib.OthersKept
import Derived.Laws.RangeAny
import Derived.Deep.RegionHeld3
namespace Go.Proofs.Ytedccllpbajbfaa
open Go.RowKit

/-- a string's bytes -/
def bI (s : ByteArray) : List Int := s.data.toList.map fun c => (c.toNat : Int)
theorem bI_len (s : ByteArray) : (bI s).length = s.size := by
  unfold bI
  rw [List.length_map, Array.length_toList]
  rfl
theorem bI_at (s : ByteArray) (k : Nat) (h : k < s.size) : (bI s)[k]? = some ((s[k]'h).toNat : Int) := by
  unfold bI
  rw [List.getElem?_map, Array.getElem?_toList]
  have : s.data[k]? = some (s[k]'h) := Array.getElem?_eq_getElem (xs := s.data) h
  rw [this]
  rfl
theorem bI_take (s : ByteArray) (k : Nat) (h : k < s.size) : (bI s).take (k + 1) = (bI s).take k ++ [((s[k]'h).toNat : Int)] := by
  have h1 := bI_at s k h
  have hk : k < (bI s).length := by rw [bI_len]; exact h
  rw [List.take_succ_eq_append_getElem hk]
  rw [List.getElem?_eq_getElem hk] at h1
  rw [Option.some.inj h1]
theorem strOf_bI (s : ByteArray) : strOfNums (bI s) = s := by
  obtain ⟨⟨l⟩⟩ := s
  have : (l.map fun c => (c.toNat : Int)).map (fun n => UInt8.ofNat n.toNat) = l := by
    rw [List.map_map]
    exact (List.map_congr_left fun c _ => by simp).trans (List.map_id l)
  simp only [strOfNums, bI]
  rw [this]

def ParseEnd (s : ByteArray) (w : World) (e : Ending) (w' : World) : Prop :=
  ((∃ t : Tm, IsTxt (bI s) t ∧ e = .returned (.tuple #[.agg #[.int .i64 t.e, .int .i64 t.d, .int .i64 t.l0, .int .i64 t.l1, .int .i64 t.l2, .int .i64 t.l3], .int .i64 0])) ∨
   ((¬ ∃ t : Tm, IsTxt (bI s) t) ∧ e = .returned (.tuple #[.agg #[.int .i64 0, .int .i64 0, .int .i64 0, .int .i64 0, .int .i64 0, .int .i64 0], .int .i64 10]))) ∧ Ge w w'

theorem no_of_none {s : ByteArray} {p : Nat} {q : Option Ps} (h : prun ((bI s).take p) ⟨[], 0, true⟩ = q) (hq : q = none) : ¬ ∃ t : Tm, IsTxt (bI s) t := by
  rintro ⟨t, hc, ht⟩
  obtain ⟨l, n, h1, _⟩ := prun_text hc
  have e : bI s = (bI s).take p ++ (bI s).drop p := (List.take_append_drop _ _).symm
  rw [ht, e, prun_app, h, hq] at h1
  cases h1

def PRel (s : ByteArray) (w : World) (l n f : Value) (wr : World) : Prop :=
  ∃ (pos : Nat) (xs : List Int) (m : Int) (b : Bool), pos ≤ s.size ∧ wr.heap[w.heap.size + 1]? = some (.stringIter s pos) ∧ OwnI wr (w.heap.size + 2) l xs ∧ n = .int .i64 m ∧ f = .bool b ∧ 0 ≤ m ∧ m ≤ 10737418249 ∧ xs.length ≤ pos ∧
    prun ((bI s).take pos) ⟨[], 0, true⟩ = some ⟨xs, m, b⟩ ∧ Bx wr w.heap.size 24 #[.int .i64 0, .int .i64 0, .int .i64 0, .int .i64 0, .int .i64 0, .int .i64 0] ∧ w.heap.size + 2 ≤ wr.heap.size ∧ Ge w wr

theorem parse_ok {s : ByteArray} {ep : Int} {rest : List Int} (hE : makeE ep rest = 0) (ht : textL (makeT ep rest) = bI s) : IsTxt (bI s) (makeT ep rest) := by
  refine ⟨?_, ht⟩
  unfold makeE at hE
  split at hE
  · cases hE
  · rename_i h4
    split at hE
    · rename_i hc
      rw [makeT_yes (by omega) hc]
      exact hc
    · cases hE
theorem parse_key {s : ByteArray} {ep : Int} {rest : List Int} {t' : Tm} (h : IsTxt (bI s) t') (he : ep :: rest = t'.e :: lpL t') : makeE ep rest = 0 ∧ textL (makeT ep rest) = bI s := by
  obtain ⟨rfl, rfl⟩ := List.cons.inj he
  have hm := mk_lp h.1
  have hc : Chk (mkT t'.e (lpL t')) := by rw [hm.1]; exact h.1
  have hl := lpL_len t'
  rw [makeE_yes hl hc, makeT_yes hl hc, hm.1]
  exact ⟨rfl, h.2⟩
theorem dec_isB : ∀ (f : Nat) (n : Int), ∀ x ∈ decF f n, 48 ≤ x ∧ x ≤ 57
  | 0, _, _, h => by cases h
  | f + 1, n, x, h => by
    unfold decF at h
    rcases List.mem_append.1 h with h | h
    · split at h
      · cases h
      · exact dec_isB f _ x h
    · simp at h
      omega
theorem text_isB (t : Tm) : ∀ x ∈ textL t, 0 ≤ x ∧ x ≤ 255 := by
  intro x hx
  by_cases hc : Chk t
  · rw [text_alt hc] at hx
    rcases List.mem_append.1 hx with hx | hx
    · have := dec_isB 10 _ x hx; omega
    · obtain ⟨y, _, hy⟩ := List.mem_flatMap.1 hx
      rcases List.mem_cons.1 hy with rfl | hy
      · omega
      · have := dec_isB 10 _ x hy; omega
  · have e : textL t = [] := dif_neg hc
    rw [e] at hx
    cases hx
theorem text_ne {s : ByteArray} {t : Tm} (h : textL t ≠ bI s) : ¬ (strOfNums (textL t)).toList = s.toList := by
  intro e
  apply h
  have e2 : (strOfNums (textL t)).data.toList = s.data.toList := by simpa [ByteArray.toList_eq] using e
  unfold bI
  rw [← e2, strOfNums_data, List.map_map]
  symm
  refine (List.map_congr_left (g := id) fun x hx => ?_).trans (List.map_id _)
  have := text_isB t x hx
  simp
  omega

theorem wz_zero {w w1 : World} (Z1 : Bx w1 w.heap.size 24 #[.int .i64 0, .int .i64 0, .int .i64 0, .int .i64 0, .int .i64 0, .int .i64 0]) (G1 : Ge w w1) :
    Bx ((((((w1.setCell ⟨w.heap.size, 0, none⟩ (.int .i64 0)).setCell ⟨w.heap.size, 1, none⟩ (.int .i64 0)).setCell ⟨w.heap.size, 2, none⟩ (.int .i64 0)).setCell ⟨w.heap.size, 3, none⟩ (.int .i64 0)).setCell ⟨w.heap.size, 4, none⟩ (.int .i64 0)).setCell ⟨w.heap.size, 5, none⟩ (.int .i64 0)) w.heap.size 24 #[.int .i64 0, .int .i64 0, .int .i64 0, .int .i64 0, .int .i64 0, .int .i64 0] ∧
    Ge w ((((((w1.setCell ⟨w.heap.size, 0, none⟩ (.int .i64 0)).setCell ⟨w.heap.size, 1, none⟩ (.int .i64 0)).setCell ⟨w.heap.size, 2, none⟩ (.int .i64 0)).setCell ⟨w.heap.size, 3, none⟩ (.int .i64 0)).setCell ⟨w.heap.size, 4, none⟩ (.int .i64 0)).setCell ⟨w.heap.size, 5, none⟩ (.int .i64 0)) :=
  ⟨((((((Z1.set 0 (.int .i64 0)).set 1 (.int .i64 0)).set 2 (.int .i64 0)).set 3 (.int .i64 0)).set 4 (.int .i64 0)).set 5 (.int .i64 0)),
   (Below.setCell (Below.setCell (Below.setCell (Below.setCell (Below.setCell (Below.setCell G1 (Nat.le_refl _) _) (Nat.le_refl _) _) (Nat.le_refl _) _) (Nat.le_refl _) _) (Nat.le_refl _) _) (Nat.le_refl _) _)⟩

set_option maxRecDepth 100000 in
set_option maxHeartbeats 8000000 in
theorem parse_any (s : ByteArray) (hs : s.size ≤ 100000) (w : World) : Calls Try.prog 17 #[.string s] w fun e w' => ParseEnd s w e w' := by
  go_enter Try.func17, Try.ntmps17
  go_wp2
  go_loopw [4, 5, 6] (fun l n f wr => PRel s w l n f wr) (fun _ _ _ wr => s.size - wr.iterPos (w.heap.size + 1))
  case atStart =>
    refine ⟨0, [], 0, true, Nat.zero_le _, ?_, OwnI.nil _ _, rfl, rfl, by omega, by omega, by simp, rfl, (Bx.new _ _ _ rfl).alloc _, by simp [World.iter], ?_⟩
    · have := World.iter_heap (w.alloc (.cells #[.int .i64 0, .int .i64 0, .int .i64 0, .int .i64 0, .int .i64 0, .int .i64 0] 24)) s 0
      simpa using this
    · exact ((Ge.refl w).alloc _).alloc _
  case round =>
    obtain ⟨pos, xs, m, b, hpos, hit, ho, rfl, rfl, m0, m1, hxl, hpr, hz, hsz, hge⟩ := hrel
    have O := Lib.hid ho
    have PR := Lib.hid hpr
    have G := Lib.hid hge
    have IT := Lib.hid hit
    clear ho hpr hge
    by_cases hp : pos < s.size
    · by_cases ha : (s[pos]'hp).toNat < 128
      · have hnx := fun ty => Lib.run_next_ascii_at (P := Try.prog) wr (w.heap.size + 1) s pos ty hit hp ha
        have HT := Lib.hid (bI_take s pos hp)
        obtain ⟨c, hc⟩ : ∃ c : Nat, c = (s[pos]'hp).toNat := ⟨_, rfl⟩
        rw [← hc] at hnx ha HT
        obtain ⟨w1, hw1⟩ : ∃ w1, w1 = wr.iterAt (w.heap.size + 1) s (pos + 1) := ⟨_, rfl⟩
        rw [← hw1] at hnx
        have hit1 : w1.heap[w.heap.size + 1]? = some (.stringIter s (pos + 1)) := by rw [hw1]; exact Lib.iterAt_heap wr _ s pos _ hit
        have hoth : ∀ k, k ≠ w.heap.size + 1 → w1.heap[k]? = wr.heap[k]? := fun k hk => by rw [hw1]; exact Lib.iterAt_other wr _ k s _ hk
        have hs1 : w1.heap.size = wr.heap.size := by rw [hw1]; exact Lib.iterAt_size wr _ s _
        have O1 := Lib.hid (O.out.keep (w' := w1) fun k _ _ _ hx => hoth k (by rintro rfl; obtain ⟨cs, hcs⟩ := hx; rw [IT.out] at hcs; cases hcs))
        have hz1 : Bx w1 w.heap.size 24 #[.int .i64 0, .int .i64 0, .int .i64 0, .int .i64 0, .int .i64 0, .int .i64 0] := (hoth w.heap.size (by omega)).trans hz
        have G1 := Lib.hid (show Ge w w1 by rw [hw1]; exact Lib.below_iterAt G.out (by omega) s _)
        have hsz1 : w.heap.size + 2 ≤ w1.heap.size := by omega
        have IT1 := Lib.hid hit1
        clear hit hit1 hoth hs1 hw1 hc hz
        have hps : ∀ q, pstep ⟨xs, m, b⟩ (c : Int) = q → prun ((bI s).take (pos + 1)) ⟨[], 0, true⟩ = q := fun q hq => by rw [HT.out, prun_snoc, PR.out]; exact hq
        have PS := Lib.hid hps
        clear hps
        by_cases c1 : c = 46 ∧ b = false
        · obtain ⟨rfl, rfl⟩ := c1
          have N := Lib.hid (PS.out (some ⟨xs ++ [m], 0, true⟩) (by simp [pstep]))
          have O2 := Lib.hid (O1.out.ge ((Ge.refl w1).alloc (.cells #[.int .i64 m] 2)))
          have C1 := Lib.hid (show xs.length + 1 ≤ 1000000 by omega)
          have C2 := Lib.hid (show w.heap.size + 2 ≤ (w1.alloc (.cells #[.int .i64 m] 2)).heap.size by simp; omega)
          have C3 := Lib.hid (show (w1.alloc (.cells #[.int .i64 m] 2)).cell? ⟨w1.heap.size, 0, none⟩ = some (.int .i64 m) from (Bx.new w1 2 #[.int .i64 m] rfl).cell 0)
          go_wp2_with (at_builtin; refine wpList_app1 rfl (.tmp 24) (.tmp 26) rfl rfl rfl O2.out C3.out C1.out C2.out ?_; intro v' w2 hown hgrow _hat; have HO := Lib.hid hown; have HG := Lib.hid hgrow; clear hown hgrow _hat)
          go_roundw
          case rel =>
            have hs2 := HG.out.size
            simp at hs2
            exact ⟨pos + 1, xs ++ [m], 0, true, by omega, app1_other O2.out HG.out ((Below.heap_alloc w1 _ _ (by omega)).trans IT1.out) (fun cs h => by cases h), HO.out, rfl, rfl, by omega, by omega, by simp; omega, N.out, app1_other O2.out HG.out (hz1.alloc _) (fun cs h => by cases h), by omega, ge_app1 (G1.out.alloc _) O2.out (by omega) HG.out⟩
          case measure =>
            have h1 : w2.heap[w.heap.size + 1]? = some (.stringIter s (pos + 1)) := app1_other O2.out HG.out ((Below.heap_alloc w1 _ _ (by omega)).trans IT1.out) (fun cs h => by cases h)
            simp only [World.iterPos, h1, IT.out]
            omega
        · by_cases c2 : 48 ≤ c ∧ c ≤ 57 ∧ m ≤ 1073741824
          · obtain ⟨d1, d2, d3⟩ := c2
            have N := Lib.hid (PS.out (some ⟨xs, 10 * m + ((c : Int) - 48), false⟩) (by unfold pstep; rw [if_neg (by omega), if_pos ⟨by omega, by omega, d3⟩]))
            have t1 : ((c : Int) == 46) = false := by simp; omega
            have t2 : decide ((48 : Int) ≤ (c : Int)) = true := by simp; omega
            have t3 : decide ((c : Int) ≤ 57) = true := by simp; omega
            have t4 : decide (m ≤ 1073741824) = true := by simpa using d3
            go_wp2
            refine ⟨⟨pos + 1, xs, 10 * m + ((c : Int) - 48), false, by omega, IT1.out, O1.out, rfl, rfl, by omega, by omega, by omega, N.out, hz1, hsz1, G1.out⟩, ?_⟩
            simp only [World.iterPos, IT1.out, IT.out]
            omega
          · have N := Lib.hid (no_of_none (PS.out none (by unfold pstep; rw [if_neg (fun h => c1 ⟨by have := h.1; omega, h.2⟩), if_neg (fun h => c2 ⟨by have := h.1; omega, by have := h.2.1; omega, h.2.2⟩)])) rfl)
            by_cases c3 : c = 46
            · subst c3
              obtain rfl : b = true := by
                cases b
                · exact absurd ⟨rfl, rfl⟩ c1
                · rfl
              clear c1 c2
              have cz := hz1.cell
              have lz := hz1.lt
              have fz := hz1.frozen
              go_wp2_with fail
              obtain ⟨XW, GZ⟩ := wz_zero hz1 G1.out
              obtain ⟨wz, hwz⟩ : ∃ wz, wz = ((((((w1.setCell ⟨w.heap.size, 0, none⟩ (.int .i64 0)).setCell ⟨w.heap.size, 1, none⟩ (.int .i64 0)).setCell ⟨w.heap.size, 2, none⟩ (.int .i64 0)).setCell ⟨w.heap.size, 3, none⟩ (.int .i64 0)).setCell ⟨w.heap.size, 4, none⟩ (.int .i64 0)).setCell ⟨w.heap.size, 5, none⟩ (.int .i64 0)) := ⟨_, rfl⟩
              rw [← hwz] at XW GZ ⊢
              have cW := XW.cell
              clear hwz cz lz fz
              refine bodyPost_ret (by simp [results, Try.results17, go_sem, cW]; try rfl) rfl ?_
              exact ⟨.inr ⟨N.out, rfl⟩, GZ⟩
            · have t1 : ((c : Int) == 46) = false := by simp; omega
              by_cases c4 : 48 ≤ c
              · have t2 : decide ((48 : Int) ≤ (c : Int)) = true := by simp; omega
                by_cases c5 : c ≤ 57
                · have t3 : decide ((c : Int) ≤ 57) = true := by simp; omega
                  have t4 : decide (m ≤ 1073741824) = false := by simp; omega
                  clear c1 c2
                  have cz := hz1.cell
                  have lz := hz1.lt
                  have fz := hz1.frozen
                  go_wp2_with fail
                  obtain ⟨XW, GZ⟩ := wz_zero hz1 G1.out
                  obtain ⟨wz, hwz⟩ : ∃ wz, wz = ((((((w1.setCell ⟨w.heap.size, 0, none⟩ (.int .i64 0)).setCell ⟨w.heap.size, 1, none⟩ (.int .i64 0)).setCell ⟨w.heap.size, 2, none⟩ (.int .i64 0)).setCell ⟨w.heap.size, 3, none⟩ (.int .i64 0)).setCell ⟨w.heap.size, 4, none⟩ (.int .i64 0)).setCell ⟨w.heap.size, 5, none⟩ (.int .i64 0)) := ⟨_, rfl⟩
                  rw [← hwz] at XW GZ ⊢
                  have cW := XW.cell
                  clear hwz cz lz fz
                  refine bodyPost_ret (by simp [results, Try.results17, go_sem, cW]; try rfl) rfl ?_
                  exact ⟨.inr ⟨N.out, rfl⟩, GZ⟩
                · have t3 : decide ((c : Int) ≤ 57) = false := by simp; omega
                  clear c1 c2
                  have cz := hz1.cell
                  have lz := hz1.lt
                  have fz := hz1.frozen
                  go_wp2_with fail
                  obtain ⟨XW, GZ⟩ := wz_zero hz1 G1.out
                  obtain ⟨wz, hwz⟩ : ∃ wz, wz = ((((((w1.setCell ⟨w.heap.size, 0, none⟩ (.int .i64 0)).setCell ⟨w.heap.size, 1, none⟩ (.int .i64 0)).setCell ⟨w.heap.size, 2, none⟩ (.int .i64 0)).setCell ⟨w.heap.size, 3, none⟩ (.int .i64 0)).setCell ⟨w.heap.size, 4, none⟩ (.int .i64 0)).setCell ⟨w.heap.size, 5, none⟩ (.int .i64 0)) := ⟨_, rfl⟩
                  rw [← hwz] at XW GZ ⊢
                  have cW := XW.cell
                  clear hwz cz lz fz
                  refine bodyPost_ret (by simp [results, Try.results17, go_sem, cW]; try rfl) rfl ?_
                  exact ⟨.inr ⟨N.out, rfl⟩, GZ⟩
              · have t2 : decide ((48 : Int) ≤ (c : Int)) = false := by simp; omega
                clear c1 c2
                have cz := hz1.cell
                have lz := hz1.lt
                have fz := hz1.frozen
                go_wp2_with fail
                obtain ⟨XW, GZ⟩ := wz_zero hz1 G1.out
                obtain ⟨wz, hwz⟩ : ∃ wz, wz = ((((((w1.setCell ⟨w.heap.size, 0, none⟩ (.int .i64 0)).setCell ⟨w.heap.size, 1, none⟩ (.int .i64 0)).setCell ⟨w.heap.size, 2, none⟩ (.int .i64 0)).setCell ⟨w.heap.size, 3, none⟩ (.int .i64 0)).setCell ⟨w.heap.size, 4, none⟩ (.int .i64 0)).setCell ⟨w.heap.size, 5, none⟩ (.int .i64 0)) := ⟨_, rfl⟩
                rw [← hwz] at XW GZ ⊢
                have cW := XW.cell
                clear hwz cz lz fz
                refine bodyPost_ret (by simp [results, Try.results17, go_sem, cW]; try rfl) rfl ?_
                exact ⟨.inr ⟨N.out, rfl⟩, GZ⟩
      · have hnx := fun ty => Lib.run_next_any_at (P := Try.prog) wr (w.heap.size + 1) s pos ty hit hp
        obtain ⟨h1, h2⟩ := decode_high s pos hp (by omega)
        have h3 := decode_le s pos
        obtain ⟨c, hc⟩ : ∃ c, c = (Utf8.decode s pos).1 := ⟨_, rfl⟩
        obtain ⟨w1, hw1⟩ : ∃ w1, w1 = wr.iterAt (w.heap.size + 1) s (pos + (Utf8.decode s pos).2) := ⟨_, rfl⟩
        rw [← hw1, ← hc] at hnx
        rw [← hc] at h1 h3
        have hoth : ∀ k, k ≠ w.heap.size + 1 → w1.heap[k]? = wr.heap[k]? := fun k hk => by rw [hw1]; exact Lib.iterAt_other wr _ k s _ hk
        have hz1 : Bx w1 w.heap.size 24 #[.int .i64 0, .int .i64 0, .int .i64 0, .int .i64 0, .int .i64 0, .int .i64 0] := (hoth w.heap.size (by omega)).trans hz
        have G1 := Lib.hid (show Ge w w1 by rw [hw1]; exact Lib.below_iterAt G.out (by omega) s _)
        have N := Lib.hid (no_of_none (s := s) (p := pos + 1) (q := none) (by rw [bI_take s pos hp, prun_snoc, PR.out]; simp only [Option.bind_some]; unfold pstep; rw [if_neg (by omega), if_neg (by omega)]) rfl)
        have t1 : ((c : Int) == 46) = false := by simp; omega
        have t2 : decide ((48 : Int) ≤ (c : Int)) = true := by simp; omega
        have t3 : decide ((c : Int) ≤ 57) = false := by simp; omega
        clear hoth hw1 hz hc hit h2
        have cz := hz1.cell
        have lz := hz1.lt
        have fz := hz1.frozen
        go_wp2_with fail
        obtain ⟨XW, GZ⟩ := wz_zero hz1 G1.out
        obtain ⟨wz, hwz⟩ : ∃ wz, wz = ((((((w1.setCell ⟨w.heap.size, 0, none⟩ (.int .i64 0)).setCell ⟨w.heap.size, 1, none⟩ (.int .i64 0)).setCell ⟨w.heap.size, 2, none⟩ (.int .i64 0)).setCell ⟨w.heap.size, 3, none⟩ (.int .i64 0)).setCell ⟨w.heap.size, 4, none⟩ (.int .i64 0)).setCell ⟨w.heap.size, 5, none⟩ (.int .i64 0)) := ⟨_, rfl⟩
        rw [← hwz] at XW GZ ⊢
        have cW := XW.cell
        clear hwz cz lz fz
        refine bodyPost_ret (by simp [results, Try.results17, go_sem, cW]; try rfl) rfl ?_
        exact ⟨.inr ⟨N.out, rfl⟩, GZ⟩
    · obtain rfl : pos = s.size := by omega
      have hnx := fun ty => Lib.run_next_end_at (P := Try.prog) wr (w.heap.size + 1) s s.size ty hit hp
      have hfull : (bI s).take s.size = bI s := List.take_of_length_le (by rw [bI_len]; omega)
      rw [hfull] at PR
      have HT := Lib.hid (fun (t : Tm) (ht : IsTxt (bI s) t) => (show b = false ∧ xs ++ [m] = t.e :: lpL t by
        obtain ⟨l, n, h1, h2⟩ := prun_text ht.1
        rw [ht.2, PR.out] at h1
        cases h1
        exact ⟨rfl, h2⟩))
      clear hit hfull
      cases b
      · by_cases c4 : 4 < xs.length
        · have N := Lib.hid (show ¬ ∃ t : Tm, IsTxt (bI s) t by
            rintro ⟨t, ht⟩
            have h1 := congrArg List.length (HT.out t ht).2
            have h2 := lpL_len t
            simp at h1
            omega)
          obtain ⟨oA, ocap, hv, -, -⟩ := O.out.ints
          rw [hv]
          have c4' : decide ((4 : Int) < (xs.length : Int)) = true := by simp; omega
          have cz := hz.cell
          have lz := hz.lt
          have fz := hz.frozen
          go_wp2_with fail
          obtain ⟨XW, GZ⟩ := wz_zero hz G.out
          obtain ⟨wz, hwz⟩ : ∃ wz, wz = ((((((wr.setCell ⟨w.heap.size, 0, none⟩ (.int .i64 0)).setCell ⟨w.heap.size, 1, none⟩ (.int .i64 0)).setCell ⟨w.heap.size, 2, none⟩ (.int .i64 0)).setCell ⟨w.heap.size, 3, none⟩ (.int .i64 0)).setCell ⟨w.heap.size, 4, none⟩ (.int .i64 0)).setCell ⟨w.heap.size, 5, none⟩ (.int .i64 0)) := ⟨_, rfl⟩
          rw [← hwz] at XW GZ ⊢
          have cW := XW.cell
          clear hwz cz lz fz
          refine bodyPost_ret (by simp [results, Try.results17, go_sem, cW]; try rfl) rfl ?_
          exact ⟨.inr ⟨N.out, rfl⟩, GZ⟩
        · obtain ⟨oA, ocap, hv, -, -⟩ := O.out.ints
          rw [hv]
          rw [hv] at O
          have c4' : decide ((4 : Int) < (xs.length : Int)) = false := by simp; omega
          have O2 := Lib.hid (O.out.ge ((Ge.refl wr).alloc (.cells #[.int .i64 m] 2)))
          have C1 := Lib.hid (show xs.length + 1 ≤ 1000000 by omega)
          have C2 := Lib.hid (show w.heap.size + 2 ≤ (wr.alloc (.cells #[.int .i64 m] 2)).heap.size by simp; omega)
          have C3 := Lib.hid (show (wr.alloc (.cells #[.int .i64 m] 2)).cell? ⟨wr.heap.size, 0, none⟩ = some (.int .i64 m) from (Bx.new wr 2 #[.int .i64 m] rfl).cell 0)
          clear hv
          go_wp2_with (at_builtin; refine wpList_app1 rfl (.tmp 52) (.tmp 54) rfl rfl rfl O2.out C3.out C1.out C2.out ?_; intro v' w2 hown hgrow _hat; have HO := Lib.hid hown; have HG := Lib.hid hgrow; clear hown hgrow _hat)
          have hz2 : Bx w2 w.heap.size 24 #[.int .i64 0, .int .i64 0, .int .i64 0, .int .i64 0, .int .i64 0, .int .i64 0] := app1_other O2.out HG.out (hz.alloc _) (fun cs h => by cases h)
          have G2 := Lib.hid (ge_app1 (G.out.alloc _) O2.out (by omega) HG.out)
          obtain ⟨A, cap, hv, hle, hcells⟩ := HO.out.ints
          obtain ⟨g, hA, hgb, hgl, hcell⟩ := hcells (by simp)
          subst hA
          rw [hv]
          obtain ⟨ep, rest, hall⟩ : ∃ ep rest, xs ++ [m] = ep :: rest := by
            cases xs with
            | nil => exact ⟨m, [], rfl⟩
            | cons x xs => exact ⟨x, xs ++ [m], rfl⟩
          rw [hall] at hcell hle ⊢
          have hc0 := hcell 0 (by simp)
          simp only [List.getElem?_cons_zero, Option.getD_some] at hc0
          have hrl : rest.length ≤ 4 := by
            have := congrArg List.length hall
            simp at this
            omega
          have HI := Lib.hid (show IntsAt w2 (.slice (if cap = 1 then some ⟨g, 0, none⟩ else some ⟨g, 1, none⟩) rest.length (cap - 1)) rest by
            refine ⟨_, _, rfl, fun hne => ?_⟩
            have hpos := List.length_pos_iff.2 hne
            simp only [List.length_cons] at hle
            refine ⟨g, 1, by rw [if_neg (by omega)], hgl, fun j hj => ?_⟩
            have := hcell (j + 1) (by simp; omega)
            rw [List.getElem?_cons_succ] at this
            rw [Nat.add_comm 1 j]
            exact this)
          have HALL := Lib.hid hall
          have HV := Lib.hid hv
          simp only [List.length_cons] at hle ⊢
          have hz2' := Lib.hid hz2
          clear hcells hcell hall hv hz2 HO HG O2 O C1 C2 C3 hnx hz
          obtain ⟨sv, hsv⟩ : ∃ sv, sv = Value.slice (if cap = 1 then some ⟨g, 0, none⟩ else some ⟨g, 1, none⟩) rest.length (cap - 1) := ⟨_, rfl⟩
          have hsl : ∀ w' : World, (Instr.slice 30 (.slice (some ⟨g, 0, none⟩) (rest.length + 1) cap) (some (.int .i64 1)) none none).run Try.prog w' = .ok sv w' := by
            intro w'
            rw [hsv]
            have h1 : (1 : Int) ≤ (rest.length : Int) + 1 := by omega
            have h2 : (rest.length : Int) + 1 ≤ (cap : Int) := by omega
            go_simp
          rw [← hsv] at HI
          clear hsv
          go_region_held3 (fun w' => w'.cell? ⟨g, 0, none⟩ = some (.int .i64 ep)) (first | go_keep | (go_simp) | (rw [World.cell?_alloc_lt _ _ _ (by simp; omega)]; assumption) | assumption) (first | (go_at_call 15; refine (make_any ep _ rest _ ?_ (by omega)).mono ?_; exact HI.out.below (by go_grown); rintro e w3 ⟨rfl, hb3⟩; have hl3 : g < w3.heap.size := Nat.lt_of_lt_of_le (by simp; omega) hb3.size; have hc3 : w3.cell? ⟨g, 0, none⟩ = some (.int .i64 ep) := (hb3.cell (p := ⟨g, 0, none⟩) (by simp; omega)).trans (by go_simp); try (have hx3 : Bx w3 w2.heap.size 24 #[.int .i64 0, .int .i64 0, .int .i64 0, .int .i64 0, .int .i64 0, .int .i64 0] := (hb3.block w2.heap.size (by simp)).trans (Bx.new w2 24 _ rfl); have cz3 := hx3.cell; have fz3 := hx3.frozen; have lz3 := hx3.lt)))
          · skip
            obtain ⟨t, ht⟩ : ∃ t, t = makeT ep rest := ⟨_, rfl⟩
            obtain ⟨me, hme⟩ : ∃ me, me = makeE ep rest := ⟨_, rfl⟩
            rw [← ht, ← hme]
            have KY := Lib.hid (fun (h : textL t = bI s) (h0 : me = 0) => show IsTxt (bI s) t by rw [ht] at h ⊢; exact parse_ok (hme ▸ h0) h)
            have KN := Lib.hid (fun (h : me ≠ 0 ∨ textL t ≠ bI s) => show ¬ ∃ t : Tm, IsTxt (bI s) t by
              rintro ⟨t', ht'⟩
              have hk := parse_key ht' (HALL.out.symm.trans (HT.out t' ht').2)
              rw [← ht, ← hme] at hk
              rcases h with h | h
              · exact h hk.1
              · exact h hk.2)
            obtain ⟨w4, hw4⟩ : ∃ w4, w4 = w3.alloc (.cells #[.int .i64 t.e, .int .i64 t.d, .int .i64 t.l0, .int .i64 t.l1, .int .i64 t.l2, .int .i64 t.l3] 24) := ⟨_, rfl⟩
            rw [← hw4]
            have hg3 : Ge w2 w3 := (Ge.refl w2).drew.trans hb3
            have X4 : Bx w4 w3.heap.size 24 #[.int .i64 t.e, .int .i64 t.d, .int .i64 t.l0, .int .i64 t.l1, .int .i64 t.l2, .int .i64 t.l3] := by rw [hw4]; exact Bx.new _ _ _ rfl
            have Z4 : Bx w4 w.heap.size 24 #[.int .i64 0, .int .i64 0, .int .i64 0, .int .i64 0, .int .i64 0, .int .i64 0] := by rw [hw4]; exact (hz2'.out.ge hg3).alloc _
            have G4 := Lib.hid (show Ge w w4 by rw [hw4]; exact (G2.out.trans hg3).alloc _)
            clear hw4 hb3 ht hme hg3
            have cX := X4.cell
            have lX := X4.lt
            by_cases hme : me = 0
            · subst hme
              go_wp2_with fail
              refine (text_any t _).mono ?_
              rintro e w5 ⟨rfl, hb5⟩
              have X5 := X4.ge hb5
              have Z5 := Z4.ge hb5
              have G5 := Lib.hid (G4.out.trans hb5)
              clear hb5 cX lX
              by_cases htx : textL t = bI s
              · have OK := Lib.hid (KY.out htx (by first | exact rfl | trivial))
                rw [htx, strOf_bI]
                have hss : (s.toList != s.toList) = false := by simp
                clear htx
                have cX := X5.cell
                have lX := X5.lt
                have cz := Z5.cell
                have lz := Z5.lt
                have fz := Z5.frozen
                go_wp2_with fail
                obtain ⟨wz, hwz⟩ : ∃ wz, wz = ((((((w5.setCell ⟨w.heap.size, 0, none⟩ (.int .i64 t.e)).setCell ⟨w.heap.size, 1, none⟩ (.int .i64 t.d)).setCell ⟨w.heap.size, 2, none⟩ (.int .i64 t.l0)).setCell ⟨w.heap.size, 3, none⟩ (.int .i64 t.l1)).setCell ⟨w.heap.size, 4, none⟩ (.int .i64 t.l2)).setCell ⟨w.heap.size, 5, none⟩ (.int .i64 t.l3)) := ⟨_, rfl⟩
                have XW : Bx wz w.heap.size 24 #[.int .i64 t.e, .int .i64 t.d, .int .i64 t.l0, .int .i64 t.l1, .int .i64 t.l2, .int .i64 t.l3] := by rw [hwz]; exact ((((((Z5.set 0 (.int .i64 t.e)).set 1 (.int .i64 t.d)).set 2 (.int .i64 t.l0)).set 3 (.int .i64 t.l1)).set 4 (.int .i64 t.l2)).set 5 (.int .i64 t.l3))
                have GZ : Ge w wz := by rw [hwz]; exact (Below.setCell (Below.setCell (Below.setCell (Below.setCell (Below.setCell (Below.setCell G5.out (Nat.le_refl _) _) (Nat.le_refl _) _) (Nat.le_refl _) _) (Nat.le_refl _) _) (Nat.le_refl _) _) (Nat.le_refl _) _)
                rw [← hwz]
                have cW := XW.cell
                clear hwz
                refine bodyPost_ret (by simp [results, Try.results17, go_sem, cW]; try rfl) rfl ?_
                exact ⟨.inl ⟨t, OK.out, rfl⟩, GZ⟩
              · have N := Lib.hid (KN.out (.inr htx))
                have hss : ((strOfNums (textL t)).toList != s.toList) = true := by
                  simp only [bne_iff_ne, ne_eq]
                  exact text_ne htx
                have hss2 : ((strOfNums (textL t)).toList == s.toList) = false := by simpa using text_ne htx
                clear htx
                have cz := Z5.cell
                have lz := Z5.lt
                have fz := Z5.frozen
                go_wp2_with fail
                obtain ⟨XW, GZ⟩ := wz_zero Z5 G5.out
                obtain ⟨wz, hwz⟩ : ∃ wz, wz = ((((((w5.setCell ⟨w.heap.size, 0, none⟩ (.int .i64 0)).setCell ⟨w.heap.size, 1, none⟩ (.int .i64 0)).setCell ⟨w.heap.size, 2, none⟩ (.int .i64 0)).setCell ⟨w.heap.size, 3, none⟩ (.int .i64 0)).setCell ⟨w.heap.size, 4, none⟩ (.int .i64 0)).setCell ⟨w.heap.size, 5, none⟩ (.int .i64 0)) := ⟨_, rfl⟩
                rw [← hwz] at XW GZ ⊢
                have cW := XW.cell
                clear hwz cz lz fz
                refine bodyPost_ret (by simp [results, Try.results17, go_sem, cW]; try rfl) rfl ?_
                exact ⟨.inr ⟨N.out, rfl⟩, GZ⟩
            · have hme' : (me != 0) = true := by simpa using hme
              have N := Lib.hid (KN.out (.inl hme))
              clear hme cX lX
              have cz := Z4.cell
              have lz := Z4.lt
              have fz := Z4.frozen
              go_wp2_with fail
              obtain ⟨XW, GZ⟩ := wz_zero Z4 G4.out
              obtain ⟨wz, hwz⟩ : ∃ wz, wz = ((((((w4.setCell ⟨w.heap.size, 0, none⟩ (.int .i64 0)).setCell ⟨w.heap.size, 1, none⟩ (.int .i64 0)).setCell ⟨w.heap.size, 2, none⟩ (.int .i64 0)).setCell ⟨w.heap.size, 3, none⟩ (.int .i64 0)).setCell ⟨w.heap.size, 4, none⟩ (.int .i64 0)).setCell ⟨w.heap.size, 5, none⟩ (.int .i64 0)) := ⟨_, rfl⟩
              rw [← hwz] at XW GZ ⊢
              have cW := XW.cell
              clear hwz cz lz fz
              refine bodyPost_ret (by simp [results, Try.results17, go_sem, cW]; try rfl) rfl ?_
              exact ⟨.inr ⟨N.out, rfl⟩, GZ⟩
          · skip
            obtain ⟨t, ht⟩ : ∃ t, t = makeT ep rest := ⟨_, rfl⟩
            obtain ⟨me, hme⟩ : ∃ me, me = makeE ep rest := ⟨_, rfl⟩
            rw [← ht, ← hme]
            have KY := Lib.hid (fun (h : textL t = bI s) (h0 : me = 0) => show IsTxt (bI s) t by rw [ht] at h ⊢; exact parse_ok (hme ▸ h0) h)
            have KN := Lib.hid (fun (h : me ≠ 0 ∨ textL t ≠ bI s) => show ¬ ∃ t : Tm, IsTxt (bI s) t by
              rintro ⟨t', ht'⟩
              have hk := parse_key ht' (HALL.out.symm.trans (HT.out t' ht').2)
              rw [← ht, ← hme] at hk
              rcases h with h | h
              · exact h hk.1
              · exact h hk.2)
            have hg3 : Ge w2 w3 := ((Ge.refl w2).alloc _).drew.trans hb3
            obtain ⟨w4, hw4⟩ : ∃ w4, w4 = ((((((w3.setCell ⟨w2.heap.size, 0, none⟩ (.int .i64 t.e)).setCell ⟨w2.heap.size, 1, none⟩ (.int .i64 t.d)).setCell ⟨w2.heap.size, 2, none⟩ (.int .i64 t.l0)).setCell ⟨w2.heap.size, 3, none⟩ (.int .i64 t.l1)).setCell ⟨w2.heap.size, 4, none⟩ (.int .i64 t.l2)).setCell ⟨w2.heap.size, 5, none⟩ (.int .i64 t.l3)) := ⟨_, rfl⟩
            rw [← hw4]
            have X4 : Bx w4 w2.heap.size 24 #[.int .i64 t.e, .int .i64 t.d, .int .i64 t.l0, .int .i64 t.l1, .int .i64 t.l2, .int .i64 t.l3] := by rw [hw4]; exact ((((((hx3.set 0 (.int .i64 t.e)).set 1 (.int .i64 t.d)).set 2 (.int .i64 t.l0)).set 3 (.int .i64 t.l1)).set 4 (.int .i64 t.l2)).set 5 (.int .i64 t.l3))
            have hzz := hz2'.out.lt
            have Z4 : Bx w4 w.heap.size 24 #[.int .i64 0, .int .i64 0, .int .i64 0, .int .i64 0, .int .i64 0, .int .i64 0] := by rw [hw4]; exact ((((((hz2'.out.ge hg3).set_ne 0 _ (by omega)).set_ne 1 _ (by omega)).set_ne 2 _ (by omega)).set_ne 3 _ (by omega)).set_ne 4 _ (by omega)).set_ne 5 _ (by omega)
            have G4 := Lib.hid (show Ge w w4 by rw [hw4]; exact (Below.setCell (Below.setCell (Below.setCell (Below.setCell (Below.setCell (Below.setCell (G2.out.trans hg3) (by show w.heap.size ≤ w2.heap.size; omega) _) (by show w.heap.size ≤ w2.heap.size; omega) _) (by show w.heap.size ≤ w2.heap.size; omega) _) (by show w.heap.size ≤ w2.heap.size; omega) _) (by show w.heap.size ≤ w2.heap.size; omega) _) (by show w.heap.size ≤ w2.heap.size; omega) _))
            clear hw4 hb3 ht hme hg3 hx3 cz3 fz3 lz3 hzz
            have cX := X4.cell
            have lX := X4.lt
            by_cases hme : me = 0
            · subst hme
              go_wp2_with fail
              refine (text_any t _).mono ?_
              rintro e w5 ⟨rfl, hb5⟩
              have X5 := X4.ge hb5
              have Z5 := Z4.ge hb5
              have G5 := Lib.hid (G4.out.trans hb5)
              clear hb5 cX lX
              by_cases htx : textL t = bI s
              · have OK := Lib.hid (KY.out htx (by first | exact rfl | trivial))
                rw [htx, strOf_bI]
                have hss : (s.toList != s.toList) = false := by simp
                clear htx
                have cX := X5.cell
                have lX := X5.lt
                have cz := Z5.cell
                have lz := Z5.lt
                have fz := Z5.frozen
                go_wp2_with fail
                obtain ⟨wz, hwz⟩ : ∃ wz, wz = ((((((w5.setCell ⟨w.heap.size, 0, none⟩ (.int .i64 t.e)).setCell ⟨w.heap.size, 1, none⟩ (.int .i64 t.d)).setCell ⟨w.heap.size, 2, none⟩ (.int .i64 t.l0)).setCell ⟨w.heap.size, 3, none⟩ (.int .i64 t.l1)).setCell ⟨w.heap.size, 4, none⟩ (.int .i64 t.l2)).setCell ⟨w.heap.size, 5, none⟩ (.int .i64 t.l3)) := ⟨_, rfl⟩
                have XW : Bx wz w.heap.size 24 #[.int .i64 t.e, .int .i64 t.d, .int .i64 t.l0, .int .i64 t.l1, .int .i64 t.l2, .int .i64 t.l3] := by rw [hwz]; exact ((((((Z5.set 0 (.int .i64 t.e)).set 1 (.int .i64 t.d)).set 2 (.int .i64 t.l0)).set 3 (.int .i64 t.l1)).set 4 (.int .i64 t.l2)).set 5 (.int .i64 t.l3))
                have GZ : Ge w wz := by rw [hwz]; exact (Below.setCell (Below.setCell (Below.setCell (Below.setCell (Below.setCell (Below.setCell G5.out (Nat.le_refl _) _) (Nat.le_refl _) _) (Nat.le_refl _) _) (Nat.le_refl _) _) (Nat.le_refl _) _) (Nat.le_refl _) _)
                rw [← hwz]
                have cW := XW.cell
                clear hwz
                refine bodyPost_ret (by simp [results, Try.results17, go_sem, cW]; try rfl) rfl ?_
                exact ⟨.inl ⟨t, OK.out, rfl⟩, GZ⟩
              · have N := Lib.hid (KN.out (.inr htx))
                have hss : ((strOfNums (textL t)).toList != s.toList) = true := by
                  simp only [bne_iff_ne, ne_eq]
                  exact text_ne htx
                have hss2 : ((strOfNums (textL t)).toList == s.toList) = false := by simpa using text_ne htx
                clear htx
                have cz := Z5.cell
                have lz := Z5.lt
                have fz := Z5.frozen
                go_wp2_with fail
                obtain ⟨XW, GZ⟩ := wz_zero Z5 G5.out
                obtain ⟨wz, hwz⟩ : ∃ wz, wz = ((((((w5.setCell ⟨w.heap.size, 0, none⟩ (.int .i64 0)).setCell ⟨w.heap.size, 1, none⟩ (.int .i64 0)).setCell ⟨w.heap.size, 2, none⟩ (.int .i64 0)).setCell ⟨w.heap.size, 3, none⟩ (.int .i64 0)).setCell ⟨w.heap.size, 4, none⟩ (.int .i64 0)).setCell ⟨w.heap.size, 5, none⟩ (.int .i64 0)) := ⟨_, rfl⟩
                rw [← hwz] at XW GZ ⊢
                have cW := XW.cell
                clear hwz cz lz fz
                refine bodyPost_ret (by simp [results, Try.results17, go_sem, cW]; try rfl) rfl ?_
                exact ⟨.inr ⟨N.out, rfl⟩, GZ⟩
            · have hme' : (me != 0) = true := by simpa using hme
              have N := Lib.hid (KN.out (.inl hme))
              clear hme cX lX
              have cz := Z4.cell
              have lz := Z4.lt
              have fz := Z4.frozen
              go_wp2_with fail
              obtain ⟨XW, GZ⟩ := wz_zero Z4 G4.out
              obtain ⟨wz, hwz⟩ : ∃ wz, wz = ((((((w4.setCell ⟨w.heap.size, 0, none⟩ (.int .i64 0)).setCell ⟨w.heap.size, 1, none⟩ (.int .i64 0)).setCell ⟨w.heap.size, 2, none⟩ (.int .i64 0)).setCell ⟨w.heap.size, 3, none⟩ (.int .i64 0)).setCell ⟨w.heap.size, 4, none⟩ (.int .i64 0)).setCell ⟨w.heap.size, 5, none⟩ (.int .i64 0)) := ⟨_, rfl⟩
              rw [← hwz] at XW GZ ⊢
              have cW := XW.cell
              clear hwz cz lz fz
              refine bodyPost_ret (by simp [results, Try.results17, go_sem, cW]; try rfl) rfl ?_
              exact ⟨.inr ⟨N.out, rfl⟩, GZ⟩
      · have N := Lib.hid (show ¬ ∃ t : Tm, IsTxt (bI s) t by
          rintro ⟨t, ht⟩
          have := (HT.out t ht).1
          cases this)
        have cz := hz.cell
        have lz := hz.lt
        have fz := hz.frozen
        go_wp2_with fail
        obtain ⟨XW, GZ⟩ := wz_zero hz G.out
        obtain ⟨wz, hwz⟩ : ∃ wz, wz = ((((((wr.setCell ⟨w.heap.size, 0, none⟩ (.int .i64 0)).setCell ⟨w.heap.size, 1, none⟩ (.int .i64 0)).setCell ⟨w.heap.size, 2, none⟩ (.int .i64 0)).setCell ⟨w.heap.size, 3, none⟩ (.int .i64 0)).setCell ⟨w.heap.size, 4, none⟩ (.int .i64 0)).setCell ⟨w.heap.size, 5, none⟩ (.int .i64 0)) := ⟨_, rfl⟩
        rw [← hwz] at XW GZ ⊢
        have cW := XW.cell
        clear hwz cz lz fz
        refine bodyPost_ret (by simp [results, Try.results17, go_sem, cW]; try rfl) rfl ?_
        exact ⟨.inr ⟨N.out, rfl⟩, GZ⟩
end Go.Proofs.Ytedccllpbajbfaa
