/-
  Messages that came in.
-/
import Derived.Test.YtmhibpmgnicolaaDoorLeaf
import Derived.WideShapes
namespace Go.Proofs.YtmhibpmgnicolaaDoor
open Go.ChangeShapes Go.WideShapes Go.ChangeAt Go.RowKit Go.Deep

theorem addr_plain {w : World} {a : Addr} {v : Value} (h : w.cell? (a.add 0) = some v) : ∃ b off, a = ⟨b, off, none⟩ ∧ b < w.heap.size := by
  obtain ⟨b, off, sp⟩ := a
  cases sp with
  | none =>
    rw [addr_add] at h
    exact ⟨b, off, rfl, cell_lt h⟩
  | some s =>
    exfalso
    have : ((⟨b, off, some s⟩ : Addr).add 0).spot.isSome = true := by simp [Addr.add]
    unfold World.cell? at h
    split at h
    · rw [if_pos this] at h; cases h
    · cases h

variable {H : Type} {enc : TypeId × Value → H} {W : World}
theorem list_open {α : Type} (E : Elem α) (hk : Tryd.prog.cellsOf E.T = E.k) (Q : α → Prop) {v : Value} {fuel : Nat} {x : DataW H × List MemPlace} (h : DataW.trod enc Tryd.prog W 0 (fun _ => true) true fuel E.S [v] = some x)
    (dec : ∀ cs n y, DataW.trod enc Tryd.prog W 0 (fun _ => true) true n E.T cs = some y → cs.length = E.k → ∃ a, cs = E.enc a ∧ Q a) : ∃ xs, LAt E W.heap.size W v xs ∧ ∀ a ∈ xs, Q a := by
  classical
  rcases open_slice E.hS h with ⟨hcs, hx⟩ | ⟨a, len, cap, m, n, D, Pl, hcs, _, hl, hm, hmm, hx, hr⟩
  · cases hcs
    exact ⟨[], LAt.nil _ _ _ _ _, fun _ h => by cases h⟩
  · cases hcs
    simp only [if_true] at hmm
    have each : ∀ i, i < len → ∃ t : α, (∀ (c : Nat) (u : Value), (E.enc t)[c]? = some u → W.cell? ((a.add (i * E.k)).add c) = some u) ∧ Q t := by
      intro i hi
      obtain ⟨cs', hc1, hc2⟩ := hr i (by omega)
      rw [hk] at hc1
      obtain ⟨_, hlen, hcell⟩ := World.cells?_some hc1
      obtain ⟨t, rfl, hq⟩ := dec cs' n _ hc2 hlen
      refine ⟨t, fun c u hu => ?_, hq⟩
      have hc : c < E.k := by
        have := (List.getElem?_eq_some_iff.1 hu).1
        rwa [E.hlen] at this
      rw [hcell c hc]
      exact hu
    rcases Nat.eq_zero_or_pos len with h0 | hpos
    · subst h0
      exact ⟨[], ⟨some a, cap, rfl, Nat.zero_le _, fun h => absurd rfl h⟩, fun _ h => by cases h⟩
    · obtain ⟨t0, _⟩ := each 0 hpos
      have : Inhabited α := ⟨t0⟩
      obtain ⟨T, hT⟩ := choose_lt each
      have hlen : ((List.range len).map T).length = len := by simp
      refine ⟨(List.range len).map T, ⟨some a, cap, by rw [hlen], by omega, fun hne => ?_⟩, ?_⟩
      · obtain ⟨u0, hu0⟩ : ∃ u, (E.enc (T 0))[0]? = some u := ⟨_, List.getElem?_eq_getElem (by rw [E.hlen]; exact E.hk)⟩
        have h00 := (hT 0 hpos).1 0 u0 hu0
        rw [Nat.zero_mul] at h00
        obtain ⟨b, off, rfl, hlt⟩ := addr_plain (a := a) (by simpa [add_add] using h00)
        refine ⟨b, off, rfl, ⟨hlt, .inl hlt⟩, fun j r hj i u hu => ?_⟩
        have hjl : j < len := by
          have := (List.getElem?_eq_some_iff.1 hj).1
          rwa [hlen] at this
        have hg : T j = r := by simpa [hjl] using hj
        have := (hT j hjl).1 i u (by rw [hg]; exact hu)
        simp only [addr_add] at this
        exact this
      · intro r hr
        obtain ⟨j, hj, rfl⟩ := List.mem_map.1 hr
        exact (hT j (by simpa using hj)).2

theorem decR (cs : List Value) (n : Nat) (y : DataW H × List MemPlace) (h : DataW.trod enc Tryd.prog W 0 (fun _ => true) true n eR.T cs = some y) (hl : cs.length = eR.k) : ∃ a : Rc, cs = eR.enc a ∧ (True) := by
  obtain ⟨z0, g0⟩ := leaf_int (n := 6) (i := 0) (k := .i64) (by kernel_rfl) h
  obtain ⟨z1, g1⟩ := leaf_str (n := 6) (i := 1) (by kernel_rfl) h
  match cs, hl with
  | [u0, u1], _ =>
    simp at g0 g1
    subst g0 g1
    exact ⟨(z0, z1), rfl, trivial⟩

theorem decC (cs : List Value) (n : Nat) (y : DataW H × List MemPlace) (h : DataW.trod enc Tryd.prog W 0 (fun _ => true) true n eC.T cs = some y) (hl : cs.length = eC.k) : ∃ a : Chg, cs = eC.enc a ∧ (True) := by
  obtain ⟨z0, g0⟩ := leaf_int (n := 6) (i := 0) (k := .i64) (by kernel_rfl) h
  obtain ⟨z1, g1⟩ := leaf_int (n := 6) (i := 1) (k := .i64) (by kernel_rfl) h
  obtain ⟨z2, g2⟩ := leaf_int (n := 6) (i := 2) (k := .i64) (by kernel_rfl) h
  obtain ⟨z3, g3⟩ := leaf_int (n := 6) (i := 3) (k := .i64) (by kernel_rfl) h
  obtain ⟨z4, g4⟩ := leaf_int (n := 6) (i := 4) (k := .i64) (by kernel_rfl) h
  obtain ⟨z5, g5⟩ := leaf_int (n := 6) (i := 5) (k := .i64) (by kernel_rfl) h
  obtain ⟨z6, g6⟩ := leaf_int (n := 6) (i := 6) (k := .i64) (by kernel_rfl) h
  obtain ⟨z7, g7⟩ := leaf_int (n := 6) (i := 7) (k := .i64) (by kernel_rfl) h
  obtain ⟨z8, g8⟩ := leaf_int (n := 6) (i := 8) (k := .i64) (by kernel_rfl) h
  match cs, hl with
  | [u0, u1, u2, u3, u4, u5, u6, u7, u8], _ =>
    simp at g0 g1 g2 g3 g4 g5 g6 g7 g8
    subst g0 g1 g2 g3 g4 g5 g6 g7 g8
    exact ⟨⟨z0, z1, ⟨z2, z3, z4, z5, z6, z7⟩, z8⟩, rfl, trivial⟩

theorem decE (cs : List Value) (n : Nat) (y : DataW H × List MemPlace) (h : DataW.trod enc Tryd.prog W 0 (fun _ => true) true n eE.T cs = some y) (hl : cs.length = eE.k) : ∃ a : Ent, cs = eE.enc a ∧ (True) := by
  obtain ⟨z0, g0⟩ := leaf_int (n := 6) (i := 0) (k := .i64) (by kernel_rfl) h
  obtain ⟨z1, g1⟩ := leaf_int (n := 6) (i := 1) (k := .i64) (by kernel_rfl) h
  obtain ⟨z2, g2⟩ := leaf_str (n := 6) (i := 2) (by kernel_rfl) h
  obtain ⟨z3, g3⟩ := leaf_int (n := 6) (i := 3) (k := .i64) (by kernel_rfl) h
  match cs, hl with
  | [u0, u1, u2, u3], _ =>
    simp at g0 g1 g2 g3
    subst g0 g1 g2 g3
    exact ⟨⟨z0, z1, z2, z3⟩, rfl, trivial⟩

theorem decI (cs : List Value) (n : Nat) (y : DataW H × List MemPlace) (h : DataW.trod enc Tryd.prog W 0 (fun _ => true) true n eI.T cs = some y) (hl : cs.length = eI.k) : ∃ a : Int, cs = eI.enc a ∧ (True) := by
  obtain ⟨z0, g0⟩ := leaf_int (n := 6) (i := 0) (k := .i64) (by kernel_rfl) h
  match cs, hl with
  | [u0], _ =>
    simp at g0
    subst g0
    exact ⟨z0, rfl, trivial⟩

theorem decM (cs : List Value) (n : Nat) (y : DataW H × List MemPlace) (h : DataW.trod enc Tryd.prog W 0 (fun _ => true) true n eM.T cs = some y) (hl : cs.length = eM.k) : ∃ a : Mov, cs = eM.enc a ∧ (True) := by
  obtain ⟨z0, g0⟩ := leaf_int (n := 6) (i := 0) (k := .i64) (by kernel_rfl) h
  obtain ⟨z1, g1⟩ := leaf_int (n := 6) (i := 1) (k := .i64) (by kernel_rfl) h
  obtain ⟨z2, g2⟩ := leaf_int (n := 6) (i := 2) (k := .i64) (by kernel_rfl) h
  obtain ⟨z3, g3⟩ := leaf_int (n := 6) (i := 3) (k := .i64) (by kernel_rfl) h
  obtain ⟨z4, g4⟩ := leaf_int (n := 6) (i := 4) (k := .i64) (by kernel_rfl) h
  obtain ⟨z5, g5⟩ := leaf_int (n := 6) (i := 5) (k := .i64) (by kernel_rfl) h
  obtain ⟨z6, g6⟩ := leaf_str (n := 6) (i := 6) (by kernel_rfl) h
  match cs, hl with
  | [u0, u1, u2, u3, u4, u5, u6], _ =>
    simp at g0 g1 g2 g3 g4 g5 g6
    subst g0 g1 g2 g3 g4 g5 g6
    exact ⟨⟨z0, z1, z2, z3, ⟨z4, z5, z6⟩⟩, rfl, trivial⟩

theorem decN (cs : List Value) (n : Nat) (y : DataW H × List MemPlace) (h : DataW.trod enc Tryd.prog W 0 (fun _ => true) true n eN.T cs = some y) (hl : cs.length = eN.k) : ∃ a : Nrw, cs = eN.enc a ∧ (∃ is, LAt eI W.heap.size W a.ins is) := by
  obtain ⟨z0, g0⟩ := leaf_int (n := 6) (i := 0) (k := .i64) (by kernel_rfl) h
  obtain ⟨z1, g1⟩ := leaf_int (n := 6) (i := 1) (k := .i64) (by kernel_rfl) h
  obtain ⟨z2, f2, y2, g2, t2⟩ := leaf_trod 6 _ 2 eI.S _ _ _ (by kernel_rfl) h
  obtain ⟨is, his, _⟩ := list_open eI (by kernel_rfl) (fun _ => True) t2 decI
  obtain ⟨z3, g3⟩ := leaf_int (n := 6) (i := 3) (k := .i64) (by kernel_rfl) h
  obtain ⟨z4, g4⟩ := leaf_int (n := 6) (i := 4) (k := .i64) (by kernel_rfl) h
  obtain ⟨z5, g5⟩ := leaf_str (n := 6) (i := 5) (by kernel_rfl) h
  obtain ⟨z6, g6⟩ := leaf_str (n := 6) (i := 6) (by kernel_rfl) h
  obtain ⟨z7, g7⟩ := leaf_int (n := 6) (i := 7) (k := .i64) (by kernel_rfl) h
  obtain ⟨z8, g8⟩ := leaf_int (n := 6) (i := 8) (k := .i64) (by kernel_rfl) h
  match cs, hl with
  | [u0, u1, u2, u3, u4, u5, u6, u7, u8], _ =>
    simp at g0 g1 g2 g3 g4 g5 g6 g7 g8
    subst g0 g1 g2 g3 g4 g5 g6 g7 g8
    exact ⟨⟨z0, z1, u2, ⟨z3, z4, z5⟩, z6, z7, z8⟩, rfl, is, his⟩

theorem put_open {v : Value} {fuel : Nat} {x : DataW H × List MemPlace} (h : DataW.trod enc Tryd.prog W 0 (fun _ => true) true fuel eN.S [v] = some x) : ∃ ns, PutAt W.heap.size W v ns := by
  obtain ⟨rs, h1, h2⟩ := list_open eN (by kernel_rfl) _ h decN
  have : ∀ (l : List Nrw), (∀ a ∈ l, ∃ is, LAt eI W.heap.size W a.ins is) → ∃ ns : List Nod, l.length = ns.length ∧ ∀ (j : Nat) (r : Nrw) (n : Nod), l[j]? = some r → ns[j]? = some n → NodAt W.heap.size W r n := by
    intro l
    induction l with
    | nil => exact fun _ => ⟨[], rfl, fun j r n h => by simp at h⟩
    | cons a l ih =>
      intro hh
      obtain ⟨is, his⟩ := hh a List.mem_cons_self
      obtain ⟨ns, e1, e2⟩ := ih (fun b hb => hh b (List.mem_cons_of_mem _ hb))
      refine ⟨⟨a.id, a.kind, is, a.fn, a.name, a.cap, a.d⟩ :: ns, by simp [e1], fun j r n hj hn => ?_⟩
      cases j with
      | zero =>
        simp at hj hn
        subst hj hn
        exact ⟨rfl, rfl, rfl, rfl, rfl, rfl, his⟩
      | succ j =>
        rw [List.getElem?_cons_succ] at hj hn
        exact e2 j r n hj hn
  obtain ⟨ns, e1, e2⟩ := this rs h2
  exact ⟨ns, rs, h1, e1, e2⟩

set_option maxRecDepth 100000 in
theorem okWide_agg {base : Nat} {v : Value} (h : Value.okWide Tryd.prog W .any base 45 v) : ∃ cs, v = .agg cs := by
  unfold Value.okWide at h
  rw [Tryd.underlying45] at h
  obtain ⟨cs, e, _⟩ := h
  exact ⟨cs, e⟩
set_option maxRecDepth 100000 in
theorem cells_msg {cs : List Value} {fuel : Nat} {x : DataW H × List MemPlace} (h : DataW.trod enc Tryd.prog W 0 (fun _ => true) true fuel 45 cs = some x) (hl : cs.length = 19) : ∃ m s, cs = encG m s ∧ SlAt W.heap.size W s m := by
  obtain ⟨z0, g0⟩ := leaf_int (n := 6) (i := 0) (k := .i64) (by kernel_rfl) h
  obtain ⟨z1, g1⟩ := leaf_int (n := 6) (i := 1) (k := .i64) (by kernel_rfl) h
  obtain ⟨z2, g2⟩ := leaf_int (n := 6) (i := 2) (k := .i64) (by kernel_rfl) h
  obtain ⟨z3, g3⟩ := leaf_int (n := 6) (i := 3) (k := .i64) (by kernel_rfl) h
  obtain ⟨z4, g4⟩ := leaf_int (n := 6) (i := 4) (k := .i64) (by kernel_rfl) h
  obtain ⟨z5, g5⟩ := leaf_int (n := 6) (i := 5) (k := .i64) (by kernel_rfl) h
  obtain ⟨z6, g6⟩ := leaf_int (n := 6) (i := 6) (k := .i64) (by kernel_rfl) h
  obtain ⟨z7, g7⟩ := leaf_int (n := 6) (i := 7) (k := .i64) (by kernel_rfl) h
  obtain ⟨z8, g8⟩ := leaf_int (n := 6) (i := 8) (k := .i64) (by kernel_rfl) h
  obtain ⟨z9, g9⟩ := leaf_int (n := 6) (i := 9) (k := .i64) (by kernel_rfl) h
  obtain ⟨z10, f10, y10, g10, t10⟩ := leaf_trod 6 _ 10 eR.S _ _ _ (by kernel_rfl) h
  obtain ⟨l10, h10, _⟩ := list_open eR (by kernel_rfl) (fun _ => True) t10 decR
  obtain ⟨z11, f11, y11, g11, t11⟩ := leaf_trod 6 _ 11 eC.S _ _ _ (by kernel_rfl) h
  obtain ⟨l11, h11, _⟩ := list_open eC (by kernel_rfl) (fun _ => True) t11 decC
  obtain ⟨z12, f12, y12, g12, t12⟩ := leaf_trod 6 _ 12 eI.S _ _ _ (by kernel_rfl) h
  obtain ⟨l12, h12, _⟩ := list_open eI (by kernel_rfl) (fun _ => True) t12 decI
  obtain ⟨z13, f13, y13, g13, t13⟩ := leaf_trod 6 _ 13 eN.S _ _ _ (by kernel_rfl) h
  obtain ⟨l13, h13⟩ := put_open t13
  obtain ⟨z14, f14, y14, g14, t14⟩ := leaf_trod 6 _ 14 eM.S _ _ _ (by kernel_rfl) h
  obtain ⟨l14, h14, _⟩ := list_open eM (by kernel_rfl) (fun _ => True) t14 decM
  obtain ⟨z15, g15⟩ := leaf_int (n := 6) (i := 15) (k := .i64) (by kernel_rfl) h
  obtain ⟨z16, f16, y16, g16, t16⟩ := leaf_trod 6 _ 16 eE.S _ _ _ (by kernel_rfl) h
  obtain ⟨l16, h16, _⟩ := list_open eE (by kernel_rfl) (fun _ => True) t16 decE
  obtain ⟨z17, g17⟩ := leaf_bool (n := 6) (i := 17) (by kernel_rfl) h
  obtain ⟨z18, g18⟩ := leaf_int (n := 6) (i := 18) (k := .i64) (by kernel_rfl) h
  match cs, hl with
  | [u0, u1, u2, u3, u4, u5, u6, u7, u8, u9, u10, u11, u12, u13, u14, u15, u16, u17, u18], _ =>
    simp at g0 g1 g2 g3 g4 g5 g6 g7 g8 g9 g10 g11 g12 g13 g14 g15 g16 g17 g18
    subst g0 g1 g2 g3 g4 g5 g6 g7 g8 g9 g10 g11 g12 g13 g14 g15 g16 g17 g18
    exact ⟨⟨z0, z1, z2, z3, ⟨z4, z5, z6, z7, z8, z9⟩, l10, l11, l12, l13, l14, z15, l16, z17, z18⟩, ⟨u10, u11, u12, u13, u14, u16⟩, rfl, h10, h11, h12, h13, h14, h16⟩

set_option maxRecDepth 100000 in
theorem msg_open {base : Nat} {v : Value} {d : DataW H} {p : List MemPlace} (hv : Value.okWide Tryd.prog W .any base 45 v) (h : DataW.Trod enc Tryd.prog W 0 (fun _ => true) true 45 v d p) : ∃ m s, v = .agg (encG m s).toArray ∧ SlAt W.heap.size W s m := by
  obtain ⟨cs, rfl⟩ := okWide_agg hv
  obtain ⟨fuel, hf⟩ := h
  obtain ⟨xs, n, _, _, hl, _⟩ := DataW.trod_struct Tryd.underlying45 hf
  rw [show Tryd.prog.cellsOf 45 = 19 by kernel_rfl] at hl
  obtain ⟨m, s, e, hs⟩ := cells_msg hf hl
  refine ⟨m, s, ?_, hs⟩
  rw [← e]
  simp [Value.cells]
end Go.Proofs.YtmhibpmgnicolaaDoor
