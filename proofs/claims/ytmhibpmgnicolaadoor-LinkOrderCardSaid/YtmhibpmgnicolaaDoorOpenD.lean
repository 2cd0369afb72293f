/-
  What is done to links, as it came in.
-/
import Derived.Test.YtmhibpmgnicolaaDoorOpenM
import Derived.Test.YtmhibpmgnicolaaDoorOpen
namespace Go.Proofs.YtmhibpmgnicolaaDoor
open Go.ChangeShapes Go.WideShapes Go.ChangeAt Go.RowKit Go.Deep

structure Dor where
  kind : Int
  from' : Int
  to' : Int
  m : Msg
  s : Sls
def encD (d : Dor) : List Value := .int .i64 d.kind :: .int .i64 d.from' :: .int .i64 d.to' :: encG d.m d.s
def eD : Elem Dor where
  S := 22
  T := 47
  k := 22
  bytes := 272
  enc := encD
  z := .agg #[.int .i64 0, .int .i64 0, .int .i64 0, .int .i64 0, .int .i64 0, .int .i64 0, .int .i64 0, .int .i64 0, .int .i64 0, .int .i64 0, .int .i64 0, .int .i64 0, .int .i64 0, .slice none 0 0, .slice none 0 0, .slice none 0 0, .slice none 0 0, .slice none 0 0, .int .i64 0, .slice none 0 0, .bool false, .int .i64 0]
  hS := Tryd.underlying22
  info := by kernel_rfl
  hzs := rfl
  hk := by decide
  hb := by decide
  hlen := fun _ => rfl

variable {H : Type} {enc : TypeId × Value → H} {W : World}
set_option maxRecDepth 100000 in
theorem decD (cs : List Value) (n : Nat) (y : DataW H × List MemPlace) (h : DataW.trod enc Tryd.prog W 0 (fun _ => true) true n eD.T cs = some y) (hl : cs.length = eD.k) : ∃ a : Dor, cs = eD.enc a ∧ SlAt W.heap.size W a.s a.m := by
  obtain ⟨z0, g0⟩ := leaf_int (n := 6) (i := 0) (k := .i64) (by kernel_rfl) h
  obtain ⟨z1, g1⟩ := leaf_int (n := 6) (i := 1) (k := .i64) (by kernel_rfl) h
  obtain ⟨z2, g2⟩ := leaf_int (n := 6) (i := 2) (k := .i64) (by kernel_rfl) h
  obtain ⟨xs, m', _, _, hll, hxl, hfs⟩ := DataW.trod_struct Tryd.underlying47 h
  have h3 : DataW.trod enc Tryd.prog W 0 (fun _ => true) true m' 45 ((cs.drop 3).take (Tryd.prog.cellsOf 45)) = xs[3]? := hfs 3 _ rfl
  have hx : 3 < xs.length := by rw [hxl]; decide
  clear hxl hfs
  obtain ⟨m, s, e, hs⟩ := cells_msg (h3.trans (List.getElem?_eq_getElem hx)) (by
    rw [List.length_take, List.length_drop, hl]
    have : Tryd.prog.cellsOf 45 = 19 := by kernel_rfl
    show min (Tryd.prog.cellsOf 45) (22 - 3) = 19
    rw [this]
    rfl)
  refine ⟨⟨z0, z1, z2, m, s⟩, ?_, hs⟩
  have h19 : Tryd.prog.cellsOf 45 = 19 := by kernel_rfl
  match cs, hl with
  | u0 :: u1 :: u2 :: rest, hl =>
    simp at g0 g1 g2
    subst g0 g1 g2
    have hr : rest.length = 19 := by
      have : rest.length + 3 = 22 := hl
      omega
    have e' : (rest).take (Tryd.prog.cellsOf 45) = encG m s := e
    rw [h19, List.take_of_length_le (by omega)] at e'
    show _ = encD _
    rw [e']
    rfl

set_option maxRecDepth 100000 in
theorem do_open {base : Nat} {v : Value} {d : DataW H} {p : List MemPlace} (hv : Value.okWide Tryd.prog W .any base 47 v) (h : DataW.Trod enc Tryd.prog W 0 (fun _ => true) true 47 v d p) : ∃ a : Dor, v = .agg (encD a).toArray ∧ SlAt W.heap.size W a.s a.m := by
  obtain ⟨cs, rfl⟩ : ∃ cs, v = .agg cs := by
    unfold Value.okWide at hv
    rw [Tryd.underlying47] at hv
    obtain ⟨cs, e, _⟩ := hv
    exact ⟨cs, e⟩
  obtain ⟨fuel, hf⟩ := h
  obtain ⟨xs, n, _, _, hl, _⟩ := DataW.trod_struct Tryd.underlying47 hf
  rw [show Tryd.prog.cellsOf 47 = 22 by kernel_rfl] at hl
  obtain ⟨a, e, hs⟩ := decD _ _ _ hf hl
  have e' : (Value.cells (.agg cs)).toList = encD a := e
  refine ⟨a, ?_, hs⟩
  rw [← e']
  simp [Value.cells]
theorem dos_open {v : Value} {d : DataW H} {p : List MemPlace} (h : DataW.Trod enc Tryd.prog W 0 (fun _ => true) true 22 v d p) (hv : ∃ A n c, v = .slice A n c) : ∃ xs, LAt eD W.heap.size W v xs ∧ ∀ a ∈ xs, SlAt W.heap.size W a.s a.m := by
  obtain ⟨A, n, c, rfl⟩ := hv
  obtain ⟨fuel, hf⟩ := h
  exact list_open eD (by kernel_rfl) _ (show DataW.trod enc Tryd.prog W 0 (fun _ => true) true fuel 22 [Value.slice A n c] = some (d, p) by simpa [Value.cells] using hf) decD
set_option maxRecDepth 100000 in
theorem u8_open {W : World} {base : Nat} {v : Value} (h : Value.okWide Tryd.prog W .any base 5 v) : ∃ n : Nat, v = .int .u8 (n : Int) ∧ n ≤ 255 := by
  unfold Value.okWide at h
  rw [Tryd.underlying5] at h
  obtain ⟨n, rfl, hn⟩ := okCell_int Tryd.underlying5 h
  simp [IntKind.has, IntKind.min, IntKind.max, IntKind.signed, IntKind.bits] at hn
  obtain ⟨k, rfl⟩ : ∃ k : Nat, n = (k : Int) := ⟨n.toNat, by omega⟩
  exact ⟨k, rfl, by omega⟩
set_option maxRecDepth 100000 in
theorem script_open {base : Nat} {v : Value} {d : DataW H} {p : List MemPlace} (hv : Value.okWide Tryd.prog W .any base 22 v) (h : DataW.Trod enc Tryd.prog W 0 (fun _ => true) true 22 v d p) : ∃ xs, LAt eD W.heap.size W v xs ∧ ∀ a ∈ xs, SlAt W.heap.size W a.s a.m :=
  dos_open h (okWide_slice Tryd.underlying22 hv)
end Go.Proofs.YtmhibpmgnicolaaDoor
