/-
  Text, Ints: a text's form, numbers' forms.
-/
import Derived.Test.YtonpoloahagddaaInt
import Derived.Test.YtonpoloahagddaaBytes
namespace Go.Proofs.Ytonpoloahagddaa
open Go.RowKit

/-- a string's bytes -/
def bytesI (s : ByteArray) : List Int := s.data.toList.map fun c => (c.toNat : Int)
theorem bytesI_len (s : ByteArray) : (bytesI s).length = s.size := by
  unfold bytesI
  rw [List.length_map, Array.length_toList]
  rfl
theorem bytesI_isB (s : ByteArray) : IsB (bytesI s) := by
  intro x hx
  simp only [bytesI, List.mem_map] at hx
  obtain ⟨c, _, rfl⟩ := hx
  have := c.toNat_lt
  omega
theorem strCells_eq (s : ByteArray) : Lib.strCells s = (bytesI s).map (Value.int .u8) := by
  simp [Lib.strCells, bytesI]
theorem strOf_bytesI (s : ByteArray) : strOfNums (bytesI s) = s := by
  obtain ⟨⟨l⟩⟩ := s
  have : (l.map fun c => (c.toNat : Int)).map (fun n => UInt8.ofNat n.toNat) = l := by
    rw [List.map_map]
    exact (List.map_congr_left fun c _ => by simp).trans (List.map_id l)
  simp only [strOfNums, bytesI]
  rw [this]

/-- a text's form -/
def textL (xs : List Int) : List Int := intL xs.length ++ xs

set_option maxHeartbeats 1000000 in
theorem text_any (s : ByteArray) (hs : s.size ≤ 65536) (w : World) :
    Calls Try.prog 15 #[.string s] w fun e w' => ∃ v, e = .returned (.tuple #[v, .int .i64 0]) ∧ OwnB w' w.heap.size v (textL (bytesI s)) ∧ Ge w w' := by
  obtain ⟨i0, hi, hz0, hz1, hz2⟩ := info_parts info5
  have hh := intL_len (s.size : Int)
  go_enter Try.func15, Try.ntmps15
  go_wp2_with fail
  refine (int_any _ (by omega) (by omega) _).mono ?_
  rintro e w1 ⟨v, rfl, hown, hge⟩
  have HO := Lib.hid hown
  have HG := Lib.hid hge
  have C1 := Lib.hid (show (intL (s.size : Int)).length + s.size ≤ maxLen by simp only [maxLen]; omega)
  have C2 := Lib.hid (show (intL (s.size : Int)).length + s.size ≤ 140737488355328 by omega)
  have C3 := Lib.hid hge.size
  clear hown hge
  go_wp2_with (at_builtin; refine Lib.wpList_append_own_string _ rfl (.tmp 9) (.tmp 10) 23 9 rfl w.heap.size 5 i0 Try.underlying23 Try.underlying9 hi hz0 hz1 hz2 v _ _ rfl HO.out s rfl C1.out C2.out C3.out ?_; intro v' w2 hown2 hgrow _hn; have HO2 := Lib.hid hown2; have HG2 := Lib.hid hgrow; clear hown2 hgrow _hn)
  go_returns
  refine ⟨_, rfl, ?_, ge_app HG.out HO.out (Nat.le_refl _) HG2.out⟩
  have := HO2.out
  unfold OwnB textL
  rw [List.length_append, bytesI_len, List.map_append, ← strCells_eq]
  exact this

set_option maxHeartbeats 1000000 in
theorem text_long (s : ByteArray) (hs : 65536 < s.size) (w : World) :
    Calls Try.prog 15 #[.string s] w fun e w' => e = .returned (.tuple #[.slice none 0 0, .int .i64 3]) ∧ w' = w := by
  go_enter Try.func15, Try.ntmps15
  go_wp2
  go_returns
  exact ⟨rfl, rfl⟩

/-- the slice value holds these numbers -/
def LongsAt (w : World) (v : Value) (xs : List Int) : Prop :=
  ∃ (A : Option Addr) (cap : Nat), v = .slice A xs.length cap ∧ xs.length ≤ cap ∧ (∀ x ∈ xs, -9223372036854775808 ≤ x ∧ x ≤ 9223372036854775807) ∧ (xs ≠ [] → ∃ b off, A = some ⟨b, off, none⟩ ∧ b < w.heap.size ∧ ∀ j, j < xs.length → w.cell? ⟨b, off + j, none⟩ = some (.int .i64 (xs[j]?.getD 0)))
theorem LongsAt.ge {w w' : World} {v : Value} {xs : List Int} (h : LongsAt w v xs) (hb : Ge w w') : LongsAt w' v xs := by
  obtain ⟨A, cap, rfl, hle, hr, h⟩ := h
  refine ⟨A, cap, rfl, hle, hr, fun hne => ?_⟩
  obtain ⟨b, off, rfl, hlt, hc⟩ := h hne
  exact ⟨b, off, rfl, Nat.lt_of_lt_of_le hlt hb.size, fun j hj => (hb.cell (p := ⟨b, off + j, none⟩) hlt).trans (hc j hj)⟩

def intsL (ns : List Int) : List Int := ns.flatMap intL
theorem intsL_len (ns : List Int) : (intsL ns).length ≤ 9 * ns.length := by
  induction ns with
  | nil => simp [intsL]
  | cons n ns ih =>
    have := intL_len n
    simp only [intsL, List.flatMap_cons, List.length_append, List.length_cons] at *
    omega
theorem intsL_isB (ns : List Int) : IsB (intsL ns) := by
  induction ns with
  | nil => exact IsB.nil
  | cons n ns ih => exact (intL_isB n).append ih
theorem intsL_snoc (ns : List Int) (k : Nat) (h : k < ns.length) : intsL (ns.take (k + 1)) = intsL (ns.take k) ++ intL (ns[k]?.getD 0) := by
  rw [List.take_succ_eq_append_getElem h]
  unfold intsL
  rw [List.flatMap_append, List.flatMap_cons, List.flatMap_nil, List.append_nil, List.getElem?_eq_getElem h]
  rfl

def IntsRel (ns : List Int) (base : Nat) (w : World) (b i : Value) (wr : World) : Prop :=
  ∃ k : Nat, k ≤ ns.length ∧ i = .int .i64 (k : Int) ∧ OwnB wr base b (intsL (ns.take k)) ∧ Ge w wr

set_option maxHeartbeats 2000000 in
theorem ints_any {w : World} {v : Value} {ns : List Int} (h : LongsAt w v ns) (hl : ns.length ≤ 10000000000) :
    Calls Try.prog 18 #[v] w fun e w' => ∃ v', e = .returned v' ∧ OwnB w' w.heap.size v' (intsL ns) ∧ Ge w w' := by
  have HL := Lib.hid h
  obtain ⟨A, cap, rfl, hle, hr, hc⟩ := h
  have HR := Lib.hid hr
  have HC := Lib.hid hc
  clear hr hc
  go_enter Try.func18, Try.ntmps18
  go_wp2
  go_loopw [3, 8] (fun b i wr => IntsRel ns w.heap.size w b i wr) (fun _ i _ => ns.length - (intOf i).toNat)
  case atStart => exact ⟨0, by omega, rfl, by simpa [intsL] using OwnB.nil _ _, Ge.refl _⟩
  case round =>
    obtain ⟨k, hk, rfl, hb, hge⟩ := hrel
    by_cases hlt : k < ns.length
    · obtain ⟨bb, off, hA, hbb, hcell⟩ := HC.out (by intro e; rw [e] at hlt; simp at hlt)
      subst hA
      have hck := hge.cell (p := ⟨bb, off + k, none⟩) hbb
      rw [hcell k hlt] at hck
      have hx := HR.out (ns[k]?.getD 0) (by simp [hlt])
      have HX := Lib.hid hx
      have HS := Lib.hid (intsL_snoc ns k hlt)
      have HB := Lib.hid hb
      have HGE := Lib.hid hge
      have HT := Lib.hid (intsL_len (ns.take k))
      have HI := Lib.hid (intL_len (ns[k]?.getD 0))
      clear hcell hx hb hge
      obtain ⟨x, hxe⟩ : ∃ x, x = ns[k]?.getD 0 := ⟨_, rfl⟩
      rw [← hxe] at hck HX HS HI
      have HXE := Lib.hid hxe
      clear hxe
      go_wp2_with fail
      refine (int_any _ HX.out.1 HX.out.2 _).mono ?_
      rintro e w1 ⟨v1, rfl, hown, hg1⟩
      have H1 := Lib.hid hown.bytes
      have HB1 := Lib.hid (HB.out.ge hg1)
      have HG1 := Lib.hid (HGE.out.trans hg1)
      have C1 := Lib.hid (show (intsL (ns.take k)).length + (intL x).length ≤ 140737488355328 by have := HT.out; have := HI.out; simp only [List.length_take] at *; omega)
      have C2 := Lib.hid HG1.out.size
      clear hown hg1 hck
      go_wp2_with (at_builtin; refine wpList_app rfl (.tmp 12) (.tmp 14) rfl rfl rfl HB1.out H1.out C1.out C2.out ?_; intro v' w2 hown2 hgrow _hat; have HO := Lib.hid hown2; have HG := Lib.hid hgrow; clear hown2 hgrow _hat)
      go_roundw
      case rel => exact ⟨k + 1, by omega, by go_num, by rw [HS.out]; exact HO.out, ge_app HG1.out HB1.out (Nat.le_refl _) HG.out⟩
      case measure => simp [intOf]; omega
    · have HB := Lib.hid hb
      have HGE := Lib.hid hge
      clear hb hge
      go_wp2
      go_returns
      refine ⟨_, rfl, ?_, HGE.out⟩
      have := HB.out
      rw [List.take_of_length_le (by omega)] at this
      exact this
end Go.Proofs.Ytonpoloahagddaa
