/-
  The reference's Text, Ints, Join; few.
-/
import Derived.Test.YtonpoloahagddaaRInt
import Derived.Test.YtonpoloahagddaaJoin
namespace Go.Proofs.Ytonpoloahagddaa
open Go.RowKit

set_option maxHeartbeats 1000000 in
theorem rText_any (s : ByteArray) (hs : s.size ≤ 65536) (w : World) :
    Calls Try.prog 16 #[.string s] w fun e w' => ∃ v, e = .returned (.tuple #[v, .int .i64 0]) ∧ OwnB w' w.heap.size v (textL (bytesI s)) ∧ Ge w w' := by
  obtain ⟨i0, hi, hz0, hz1, hz2⟩ := info_parts info5
  have hh := intL_len (s.size : Int)
  go_enter Try.func16, Try.ntmps16
  go_wp2_with fail
  refine (refInt_any _ (by omega) (by omega) _).mono ?_
  rintro e w1 ⟨v, rfl, hown, hge⟩
  have HO := Lib.hid hown
  have HG := Lib.hid hge
  have C1 := Lib.hid (show (intL (s.size : Int)).length + s.size ≤ maxLen by simp only [maxLen]; omega)
  have C2 := Lib.hid (show (intL (s.size : Int)).length + s.size ≤ 140737488355328 by omega)
  have C3 := Lib.hid hge.size
  clear hown hge
  go_wp2_with (at_builtin; refine Lib.wpList_append_own_string _ rfl (.tmp 9) (.tmp 10) 23 9 rfl w.heap.size 5 i0 Try.underlying23 Try.underlying9 hi hz0 hz1 hz2 v _ _ rfl HO.out s rfl C1.out C2.out C3.out ?_; intro v' w2 hown2 hgrow _hn; have HO2 := Lib.hid hown2; have HG2 := Lib.hid hgrow; clear hown2 hgrow _hn)
  go_returns
  refine ⟨_, rfl, ?_, ge_app HG.out HO.out (Nat.le_refl _) HG2.out⟩
  have := HO2.out
  unfold OwnB textL
  rw [List.length_append, bytesI_len, List.map_append, ← strCells_eq]
  exact this

set_option maxHeartbeats 1000000 in
theorem rText_long (s : ByteArray) (hs : 65536 < s.size) (w : World) :
    Calls Try.prog 16 #[.string s] w fun e w' => e = .returned (.tuple #[.slice none 0 0, .int .i64 3]) ∧ w' = w := by
  go_enter Try.func16, Try.ntmps16
  go_wp2
  go_returns
  exact ⟨rfl, rfl⟩

set_option maxHeartbeats 2000000 in
theorem rInts_any {w : World} {v : Value} {ns : List Int} (h : LongsAt w v ns) (hl : ns.length ≤ 10000000000) :
    Calls Try.prog 19 #[v] w fun e w' => ∃ v', e = .returned v' ∧ OwnB w' w.heap.size v' (intsL ns) ∧ Ge w w' := by
  have HL := Lib.hid h
  obtain ⟨A, cap, rfl, hle, hr, hc⟩ := h
  have HR := Lib.hid hr
  have HC := Lib.hid hc
  clear hr hc
  go_enter Try.func19, Try.ntmps19
  go_wp2
  go_loopw [3, 4] (fun b i wr => IntsRel ns w.heap.size w b i wr) (fun _ i _ => ns.length - (intOf i).toNat)
  case atStart => exact ⟨0, by omega, rfl, by simpa [intsL] using OwnB.nil _ _, Ge.refl _⟩
  case round =>
    obtain ⟨k, hk, rfl, hb, hge⟩ := hrel
    by_cases hlt : k < ns.length
    · obtain ⟨bb, off, hA, hbb, hcell⟩ := HC.out (by intro e; rw [e] at hlt; simp at hlt)
      subst hA
      have hck := hge.cell (p := ⟨bb, off + k, none⟩) hbb
      rw [hcell k hlt] at hck
      have hx := HR.out (ns[k]?.getD 0) (by simp [hlt])
      have HX := Lib.hid hx
      have HS := Lib.hid (intsL_snoc ns k hlt)
      have HB := Lib.hid hb
      have HGE := Lib.hid hge
      have HT := Lib.hid (intsL_len (ns.take k))
      have HI := Lib.hid (intL_len (ns[k]?.getD 0))
      clear hcell hx hb hge
      obtain ⟨x, hxe⟩ : ∃ x, x = ns[k]?.getD 0 := ⟨_, rfl⟩
      rw [← hxe] at hck HX HS HI
      have HXE := Lib.hid hxe
      clear hxe
      go_wp2_with fail
      refine (refInt_any _ HX.out.1 HX.out.2 _).mono ?_
      rintro e w1 ⟨v1, rfl, hown, hg1⟩
      have H1 := Lib.hid hown.bytes
      have HB1 := Lib.hid (HB.out.ge hg1)
      have HG1 := Lib.hid (HGE.out.trans hg1)
      have C1 := Lib.hid (show (intsL (ns.take k)).length + (intL x).length ≤ 140737488355328 by have := HT.out; have := HI.out; simp only [List.length_take] at *; omega)
      have C2 := Lib.hid HG1.out.size
      clear hown hg1 hck
      go_wp2_with (at_builtin; refine wpList_app rfl (.tmp 11) (.tmp 16) rfl rfl rfl HB1.out H1.out C1.out C2.out ?_; intro v' w2 hown2 hgrow _hat; have HO := Lib.hid hown2; have HG := Lib.hid hgrow; clear hown2 hgrow _hat)
      go_roundw
      case rel => exact ⟨k + 1, by omega, by go_num, by rw [HS.out]; exact HO.out, ge_app HG1.out HB1.out (Nat.le_refl _) HG.out⟩
      case measure => simp [intOf]; omega
    · have HB := Lib.hid hb
      have HGE := Lib.hid hge
      clear hb hge
      go_wp2
      go_returns
      refine ⟨_, rfl, ?_, HGE.out⟩
      have := HB.out
      rw [List.take_of_length_le (by omega)] at this
      exact this

def JoinRel (ls : List (List Int)) (base : Nat) (w : World) (b i : Value) (wr : World) : Prop :=
  ∃ k : Nat, k ≤ ls.length ∧ i = .int .i64 (k : Int) ∧ OwnB wr base b (ls.take k).flatten ∧ Ge w wr
theorem flatten_snoc (ls : List (List Int)) (k : Nat) (l : List Int) (h : ls[k]? = some l) : (ls.take (k + 1)).flatten = (ls.take k).flatten ++ l := by
  have hk := (List.getElem?_eq_some_iff.1 h).1
  rw [List.take_succ_eq_append_getElem hk, List.flatten_append, (List.getElem?_eq_some_iff.1 h).2]
  simp
theorem flatten_take_le (ls : List (List Int)) (k : Nat) : (ls.take k).flatten.length ≤ ls.flatten.length := by
  have : ls.flatten = (ls.take k).flatten ++ (ls.drop k).flatten := by rw [← List.flatten_append, List.take_append_drop]
  rw [this, List.length_append]
  omega

set_option maxHeartbeats 2000000 in
theorem rJoin_any {w : World} {v : Value} {ls : List (List Int)} (h : PartsW w v ls) (h1 : ls.length ≤ 1000000) (h2 : ls.flatten.length ≤ 140737488355328) :
    Calls Try.prog 21 #[v] w fun e w' => ∃ v', e = .returned v' ∧ BytesAt w' v' ls.flatten ∧ Ge w w' := by
  obtain ⟨A, cap, vs, rfl, hle, hvl, hi, hc, hb⟩ := h
  have HC := Lib.hid hc
  have HB := Lib.hid hb
  clear hi hc hb
  go_enter Try.func21, Try.ntmps21
  go_wp2
  go_loopw [3, 4] (fun b i wr => JoinRel ls w.heap.size w b i wr) (fun _ i _ => ls.length - (intOf i).toNat)
  case atStart => exact ⟨0, by omega, rfl, by simpa using OwnB.nil _ _, Ge.refl _⟩
  case round =>
    obtain ⟨k, hk, rfl, ho, hge⟩ := hrel
    by_cases hlt : k < ls.length
    · obtain ⟨bb, off, hA, hbb, hcell⟩ := HC.out (by intro e; rw [e] at hlt; simp at hlt)
      subst hA
      have hu := List.getElem?_eq_getElem (l := vs) (i := k) (by omega)
      have hl := List.getElem?_eq_getElem (l := ls) (i := k) hlt
      obtain ⟨u, hue⟩ : ∃ u, u = vs[k] := ⟨_, rfl⟩
      obtain ⟨l, hle⟩ : ∃ l, l = ls[k] := ⟨_, rfl⟩
      rw [← hue] at hu
      rw [← hle] at hl
      have hck := (hge.cell (p := ⟨bb, off + k, none⟩) hbb).trans (hcell k u hu)
      have hbu := (HB.out k u l hu hl).ge hge
      have HBU := Lib.hid hbu
      have HS := Lib.hid (flatten_snoc ls k l hl)
      have HO := Lib.hid ho
      have HGE := Lib.hid hge
      have C1 := Lib.hid (show (ls.take k).flatten.length + l.length ≤ 140737488355328 by
        have h3 := flatten_take_le ls (k + 1)
        rw [HS.out, List.length_append] at h3
        omega)
      have C2 := Lib.hid hge.size
      obtain ⟨uA, ucap, rfl, -, -⟩ := hbu
      clear hcell hu hl ho hge hue hle
      go_wp2_with (at_builtin; refine wpList_app rfl (.tmp 11) (.tmp 15) rfl rfl rfl HO.out HBU.out C1.out C2.out ?_; intro v' w2 hown2 hgrow _hat; have HO2 := Lib.hid hown2; have HG := Lib.hid hgrow; clear hown2 hgrow _hat)
      go_roundw
      case rel => exact ⟨k + 1, by omega, by go_num, by rw [HS.out]; exact HO2.out, ge_app HGE.out HO.out (Nat.le_refl _) HG.out⟩
      case measure => simp [intOf]; omega
    · have HO := Lib.hid ho
      have HGE := Lib.hid hge
      clear ho hge
      go_wp2
      go_returns
      refine ⟨_, rfl, ?_, HGE.out⟩
      have := HO.out
      rw [List.take_of_length_le (by omega)] at this
      exact this.bytes
end Go.Proofs.Ytonpoloahagddaa
