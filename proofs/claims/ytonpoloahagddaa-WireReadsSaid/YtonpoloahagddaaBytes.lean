/-
  bytes.Equal, HasPrefix, Compare; string(b).
-/
import Derived.Test.YtonpoloahagddaaOwn
import Derived.Test.YtonpoloahagddaaBeB
import Derived.Lib.Bytealg
import Derived.Lib.BytesEntry
import Derived.Handy
import Derived.WalkSpells
import Derived.WalkLawsBesides
import Derived.BigGuardPart
import Derived.Outline
import Derived.Lib.Hide
import Derived.Laws.BytesArg
namespace Go.Proofs.Ytonpoloahagddaa
open Go.RowKit

theorem conv_bytes {w : World} {v : Value} {xs : List Int} (h : BytesAt w v xs) : (convert 23 9 v).run Try.prog w = .ok (.string (strOfNums xs)) w := by
  obtain ⟨A, cap, rfl, hle, hc⟩ := h
  rcases xs with _ | ⟨x, xs⟩
  · cases A with
    | none => exact run_convert_bytes_nil w 23 5 Try.underlying23 Try.underlying5 0 cap 9 Try.underlying9
    | some a =>
      have hl := run_loadCells_list (P := Try.prog) w a [] (by simp)
      have := run_bytesToString (P := Try.prog) w a 0 cap [] (by simpa using hl)
      rw [run_convert_bytes_string w 23 9 5 _ _ cap Try.underlying23 Try.underlying5 Try.underlying9]
      have e : strOfNums [] = ByteArray.empty := rfl
      rw [e]
      simpa using this
  · obtain ⟨b, off, rfl, hlt, hcell⟩ := hc (by simp)
    exact run_convert_bytes_arg w 23 5 Try.underlying23 Try.underlying5 b off _ cap (x :: xs) rfl (fun i hi => by
      have := hcell i hi
      simpa [List.getD] using this) 9 Try.underlying9

theorem strOfNums_inj : ∀ {xs ys : List Int}, IsB xs → IsB ys → (strOfNums xs).data.toList = (strOfNums ys).data.toList → xs = ys
  | [], [], _, _, _ => rfl
  | [], _ :: _, _, _, h => by simp [strOfNums] at h
  | _ :: _, [], _, _, h => by simp [strOfNums] at h
  | x :: xs, y :: ys, hx, hy, h => by
    simp only [strOfNums, List.map_cons, List.cons.injEq] at h
    obtain ⟨x0, x1⟩ := hx x (by simp)
    obtain ⟨y0, y1⟩ := hy y (by simp)
    have e1 : x = y := by
      have := congrArg UInt8.toNat h.1
      simp at this
      omega
    rw [e1, strOfNums_inj (xs := xs) (ys := ys) (fun z hz => hx z (by simp [hz])) (fun z hz => hy z (by simp [hz])) (by simpa [strOfNums] using h.2)]

theorem nums_eq {xs ys : List Int} (hx : IsB xs) (hy : IsB ys) : ((strOfNums xs).toList == (strOfNums ys).toList) = decide (xs = ys) := by
  rw [ByteArray.toList_eq, ByteArray.toList_eq]
  by_cases h : xs = ys
  · subst h; simp
  · rw [decide_eq_false h]
    have : ¬ (strOfNums xs).data.toList = (strOfNums ys).data.toList := fun e => h (strOfNums_inj hx hy e)
    simpa using this

def eqL (xs ys : List Int) : Bool := decide (xs = ys)

set_option maxHeartbeats 1000000 in
theorem equal_any {w : World} {a b : Value} {xs ys : List Int} (ha : BytesAt w a xs) (hb : BytesAt w b ys) (hx : IsB xs) (hy : IsB ys) :
    Calls Try.prog 11 #[a, b] w fun e w' => e = .returned (.bool (eqL xs ys)) ∧ w' = w := by
  have k1 := conv_bytes ha
  have k2 := conv_bytes hb
  have E := Lib.hid (nums_eq hx hy)
  clear ha hb hx hy
  go_enter Try.func11, Try.ntmps11
  go_wp2
  go_returns
  refine ⟨?_, rfl⟩
  rw [show eqL xs ys = ((strOfNums xs).toList == (strOfNums ys).toList) from E.out.symm]
  rfl

theorem BytesAt.take {w : World} {A : Option Addr} {n cap k : Nat} {xs : List Int} (h : BytesAt w (.slice A n cap) xs) (hk : k ≤ xs.length) : BytesAt w (.slice A k cap) (xs.take k) := by
  obtain ⟨A', cap', e, hle, hc⟩ := h
  cases e
  have hl : (xs.take k).length = k := by simp; omega
  refine ⟨A, cap, by rw [hl], by omega, fun hne => ?_⟩
  obtain ⟨b, off, rfl, hlt, hcell⟩ := hc (by intro e; subst e; simp at hne)
  refine ⟨b, off, rfl, hlt, fun j hj => ?_⟩
  rw [hl] at hj
  rw [hcell j (by omega), List.getElem?_take, if_pos hj]

def hasPre (xs ys : List Int) : Bool := decide (ys.length ≤ xs.length) && eqL (xs.take ys.length) ys

set_option maxHeartbeats 1000000 in
theorem hasPrefix_any {w : World} {a b : Value} {xs ys : List Int} (ha : BytesAt w a xs) (hb : BytesAt w b ys) (hx : IsB xs) (hy : IsB ys) (hl2 : ys.length ≤ 9223372036854775807) :
    Calls Try.prog 12 #[a, b] w fun e w' => e = .returned (.bool (hasPre xs ys)) ∧ w' = w := by
  have HA := Lib.hid ha
  have HB := Lib.hid hb
  obtain ⟨A, capA, rfl, hleA, -⟩ := ha
  obtain ⟨B, capB, rfl, hleB, -⟩ := hb
  have HX := Lib.hid hx
  have HY := Lib.hid hy
  clear hx hy
  by_cases h : ys.length ≤ xs.length
  · have E := Lib.hid (equal_any (HA.out.take h) HB.out (fun z hz => HX.out z (List.mem_of_mem_take hz)) HY.out)
    go_enter Try.func12, Try.ntmps12
    go_wp2_with fail
    refine E.out.mono ?_
    rintro e w1 ⟨rfl, rfl⟩
    go_wp2
    go_returns
    exact ⟨by simp [hasPre, h], rfl⟩
  · go_enter Try.func12, Try.ntmps12
    go_wp2
    go_returns
    exact ⟨by simp [hasPre, h], rfl⟩

theorem bytesOf_ext {w : World} {v : Value} {xs : List Int} (h : BytesAt w v xs) : (Extern.Bytes.bytesOf v).run Try.prog w = .ok (strOfNums xs) w := by
  obtain ⟨A, cap, rfl, hle, hc⟩ := h
  cases A with
  | none =>
    have hy : xs = [] := by
      rcases xs with _ | ⟨y, ys⟩
      · rfl
      · obtain ⟨b, off, h, _⟩ := hc (by simp)
        cases h
    subst hy
    rfl
  | some a =>
    have hl := Lib.run_loadBytesX (P := Try.prog) w xs a .empty (fun j x hj => by
      have hlt := (List.getElem?_eq_some_iff.1 hj).1
      obtain ⟨b, off, h, _, hcell⟩ := hc (by intro e; subst e; simp at hlt)
      cases h
      rw [addr_add, hcell j hlt, hj]
      rfl)
    rw [show Extern.Bytes.bytesOf (.slice (some a) xs.length cap) = Extern.Bytes.loadBytes a xs.length .empty from rfl, hl]
    simp [strOfNums, Lib.bytesOf, ByteArray.empty, ByteArray.emptyWithCapacity]
    rfl

theorem compareBytes_eq : ∀ {xs ys : List Int}, IsB xs → IsB ys → Lib.compareBytes (strOfNums xs).data.toList (strOfNums ys).data.toList = cmpL xs ys
  | [], [], _, _ => rfl
  | [], _ :: _, _, _ => rfl
  | _ :: _, [], _, _ => rfl
  | x :: xs, y :: ys, hx, hy => by
    have ih := compareBytes_eq (xs := xs) (ys := ys) (fun z hz => hx z (by simp [hz])) (fun z hz => hy z (by simp [hz]))
    rw [strOfNums_data, strOfNums_data] at ih
    rw [strOfNums_data, strOfNums_data]
    obtain ⟨x0, x1⟩ := hx x (by simp)
    obtain ⟨y0, y1⟩ := hy y (by simp)
    simp only [List.map_cons, Lib.compareBytes, cmpL, ih]
    have e1 : (UInt8.ofNat x.toNat < UInt8.ofNat y.toNat) ↔ x < y := by
      rw [UInt8.lt_iff_toNat_lt]; simp; omega
    have e2 : (UInt8.ofNat y.toNat < UInt8.ofNat x.toNat) ↔ y < x := by
      rw [UInt8.lt_iff_toNat_lt]; simp; omega
    simp only [e1, e2]

set_option maxHeartbeats 1000000 in
theorem compare_any {w : World} {a b : Value} {xs ys : List Int} (ha : BytesAt w a xs) (hb : BytesAt w b ys) (hx : IsB xs) (hy : IsB ys) :
    Calls Try.prog 13 #[a, b] w fun e w' => e = .returned (.int .i64 (cmpL xs ys)) ∧ w' = w := by
  have k1 := bytesOf_ext ha
  have k2 := bytesOf_ext hb
  have E := Lib.hid (compareBytes_eq hx hy)
  have hr : (Extern.BytealgCompare.compare #[a, b]).run Try.prog w = .ok (.int .i64 (Lib.compareBytes (strOfNums xs).data.toList (strOfNums ys).data.toList)) w := by
    change Sem.run Try.prog (do pure (goInt (Extern.BytealgCompare.cmp (← Extern.Bytes.bytesOf a) (← Extern.Bytes.bytesOf b)))) w = _
    simp only [k1, k2, Sem.run_bind, Sem.run_pure, Result.andThen]
    rw [Lib.cmp_eq]
    rfl
  clear ha hb hx hy k1 k2
  go_enter Try.func13, Try.ntmps13
  go_wp2
  rw [run_callFunc_extern Try.func33 (by kernel_rfl) (by kernel_rfl) (by kernel_rfl) (e := Extern.BytealgCompare.compare) (by kernel_rfl), hr]
  simp only [Result.andThen]
  rw [Oper.upon_value]
  go_wp2
  go_returns
  exact ⟨by rw [E.out]; rfl, rfl⟩
end Go.Proofs.Ytonpoloahagddaa
