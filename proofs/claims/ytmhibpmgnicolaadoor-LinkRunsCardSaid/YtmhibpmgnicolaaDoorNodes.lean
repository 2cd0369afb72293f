/-
  nodes: a list of nodes in memory of its own.
-/
import Derived.Test.YtmhibpmgnicolaaDoorMsg
namespace Go.Proofs.YtmhibpmgnicolaaDoor
open Go.RowKit

theorem Bx.set {w : World} {b : Nat} {t : TypeId} {cs : Array Value} (h : Bx w b t cs) (k : Nat) (v : Value) : Bx (w.setCell ⟨b, k, none⟩ v) b t (cs.setIfInBounds k v) := by
  unfold Bx at *
  simp [World.setCell, Array.getElem?_modify, h]
theorem Bx.set_ne {w : World} {b b' : Nat} {t : TypeId} {cs : Array Value} (h : Bx w b t cs) (k : Nat) (v : Value) (hne : b ≠ b') : Bx (w.setCell ⟨b', k, none⟩ v) b t cs :=
  (Below.heap_setCell _ _ _ _ hne).trans h
theorem grownBy_setAt (W : World) (b k : Nat) (v : Value) : W.grownBy (W.setCell ⟨b, k, none⟩ v) (some b) :=
  ⟨rfl, rfl, rfl, (by simp [World.setCell]), fun j _ hk => Below.heap_setCell _ _ _ j (fun e => hk (by rw [e]))⟩

theorem flat_set {α : Type} (E : Elem α) : ∀ (xs : List α) (j : Nat) (x x' : α) (i : Nat) (u : Value), xs[j]? = some x → i < E.k → E.enc x' = (E.enc x).set i u → (xs.set j x').flatMap E.enc = (xs.flatMap E.enc).set (j * E.k + i) u
  | [], j, x, x', i, u, h, _, _ => by simp at h
  | y :: t, 0, x, x', i, u, h, hi, he => by
    simp at h
    subst h
    rw [List.set_cons_zero, List.flatMap_cons, List.flatMap_cons, Nat.zero_mul, Nat.zero_add, List.set_append_left _ _ (by rw [E.hlen]; exact hi), he]
  | y :: t, j + 1, x, x', i, u, h, hi, he => by
    rw [List.getElem?_cons_succ] at h
    rw [List.set_cons_succ, List.flatMap_cons, List.flatMap_cons, flat_set E t j x x' i u h hi he, List.set_append_right _ _ (by rw [E.hlen, Nat.add_mul]; omega)]
    congr 2
    rw [E.hlen, Nat.add_mul]
    omega
/-- a store into one element of a row of the call's own -/
theorem OwnL.set {α : Type} {E : Elem α} {w : World} {base g cap : Nat} {xs : List α} (h : OwnL E w base (.slice (some ⟨g, 0, none⟩) xs.length cap) xs) {j i : Nat} {x x' : α} {u : Value} (hj : xs[j]? = some x) (hi : i < E.k) (he : E.enc x' = (E.enc x).set i u) :
    OwnL E (w.setCell ⟨g, j * E.k + i, none⟩ u) base (.slice (some ⟨g, 0, none⟩) (xs.set j x').length cap) (xs.set j x') := by
  obtain ⟨h1, h2⟩ := h
  refine ⟨flat_len E _, .inr ?_⟩
  rcases h2 with ⟨h2, _⟩ | ⟨g', cap', cur, hv, hb, hh, hle, hm, hs, ht⟩
  · cases h2
  · cases hv
    have hB : Bx w g E.T cur := hh
    have hjl : j < xs.length := (List.getElem?_eq_some_iff.1 hj).1
    refine ⟨g, cap, _, rfl, hb, hB.set _ _, by rw [List.length_set]; exact hle, hm, by rw [Array.size_setIfInBounds]; exact hs, ?_⟩
    rw [flat_set E xs j x x' i u hj hi he, ← ht, Array.toList_setIfInBounds, List.length_set, List.take_set]
theorem OwnL.apart {α β : Type} {E : Elem α} {F : Elem β} {w : World} {b1 b2 : Nat} {v1 v2 : Value} {xs : List α} {ys : List β} (h1 : OwnL E w b1 v1 xs) (h2 : OwnL F w b2 v2 ys) (hT : E.T ≠ F.T) : v1.ownBlock = none ∨ v1.ownBlock ≠ v2.ownBlock := by
  rcases h1.2 with ⟨rfl, _⟩ | ⟨g, cap, cur, rfl, _, hh, _⟩
  · exact .inl rfl
  · right
    intro e
    rcases h2.2 with ⟨rfl, _⟩ | ⟨g', cap', cur', rfl, _, hh', _⟩
    · cases e
    · simp only [Value.ownBlock, Option.some.injEq] at e
      subst e
      rw [hh] at hh'
      simp at hh'
      exact hT hh'.2

/-- a list of numbers of the call's own, somewhere -/
def OwnI1 (w : World) (v : Value) (xs : List Int) : Prop := ∃ b, OwnL eI w b v xs
theorem OwnI1.ge {w w' : World} {v : Value} {xs : List Int} (h : OwnI1 w v xs) (hg : Ge w w') : OwnI1 w' v xs := by obtain ⟨b, h⟩ := h; exact ⟨b, h.ge hg⟩
theorem OwnI1.lat {w : World} {v : Value} {xs : List Int} (h : OwnI1 w v xs) (B : Nat) : LAt eI B w v xs := by obtain ⟨b, h⟩ := h; exact h.lat (by decide) B
theorem OwnI1.grown {w w' : World} {v vr : Value} {xs : List Int} {ys : List Nrw} {base : Nat} (h : OwnI1 w v xs) (hr : OwnL eN w base vr ys) (hg : w.grownBy w' vr.ownBlock) : OwnI1 w' v xs := by
  obtain ⟨b, h⟩ := h
  exact ⟨b, World.ownsRow.kept h hg (h.apart hr (by decide))⟩
def withIns (r : Nrw) (v : Value) : Nrw := { r with ins := v }
/-- the first k nodes have inputs of their own; the others are as they were -/
structure Half (w : World) (rs rs' : List Nrw) (ns : List Nod) (k : Nat) : Prop where
  len : rs'.length = rs.length
  done : ∀ (j : Nat) (r' r : Nrw) (n : Nod), j < k → rs'[j]? = some r' → rs[j]? = some r → ns[j]? = some n → ∃ v, r' = withIns r v ∧ OwnI1 w v n.ins
  rest : ∀ j, k ≤ j → rs'[j]? = rs[j]?
theorem Half.start (w : World) (rs : List Nrw) (ns : List Nod) : Half w rs rs ns 0 := ⟨rfl, fun j _ _ _ h => by omega, fun _ _ => rfl⟩
theorem Half.ge {w w' : World} {rs rs' : List Nrw} {ns : List Nod} {k : Nat} (h : Half w rs rs' ns k) (hg : Ge w w') : Half w' rs rs' ns k :=
  ⟨h.len, fun j r' r n hj a b c => by obtain ⟨v, e, ho⟩ := h.done j r' r n hj a b c; exact ⟨v, e, ho.ge hg⟩, h.rest⟩
theorem Half.step {w w' : World} {rs rs' : List Nrw} {ns : List Nod} {k base : Nat} {vr : Value} {r : Nrw} {n : Nod} {v : Value} (h : Half w rs rs' ns k) (hr : OwnL eN w base vr rs') (hg : w.grownBy w' vr.ownBlock) (hk : rs[k]? = some r) (hn : ns[k]? = some n) (hv : OwnI1 w v n.ins) :
    Half w' rs (rs'.set k (withIns r v)) ns (k + 1) := by
  refine ⟨by rw [List.length_set]; exact h.len, fun j r' r0 n0 hj a b c => ?_, fun j hj => ?_⟩
  · by_cases hjk : j = k
    · subst hjk
      rw [List.getElem?_set_self (by rw [h.len]; exact (List.getElem?_eq_some_iff.1 hk).1)] at a
      rw [hk] at b
      rw [hn] at c
      cases a
      cases b
      cases c
      exact ⟨v, rfl, hv.grown hr hg⟩
    · rw [List.getElem?_set_ne (Ne.symm hjk)] at a
      obtain ⟨v0, e, ho⟩ := h.done j r' r0 n0 (by omega) a b c
      exact ⟨v0, e, ho.grown hr hg⟩
  · rw [List.getElem?_set_ne (by omega)]
    exact h.rest j (by omega)
theorem Half.put {B : Nat} {w w0 : World} {rs rs' : List Nrw} {ns : List Nod} {base : Nat} {vr : Value} (h : Half w rs rs' ns rs.length) (hr : OwnL eN w base vr rs') (hlen : rs.length = ns.length) (hn : ∀ (j : Nat) (r : Nrw) (n : Nod), rs[j]? = some r → ns[j]? = some n → NodAt B w0 r n) : PutAt B w vr ns := by
  refine ⟨rs', hr.lat (by decide) B, h.len.trans hlen, fun j r' n hj hn' => ?_⟩
  have hjl : j < rs.length := by rw [← h.len]; exact (List.getElem?_eq_some_iff.1 hj).1
  have hr2 : rs[j]? = some rs[j] := List.getElem?_eq_getElem hjl
  obtain ⟨v, rfl, ho⟩ := h.done j r' _ n hjl hj hr2 hn'
  obtain ⟨h1, h2, h3, h4, h5, h6, _⟩ := hn j _ n hr2 hn'
  exact ⟨h1, h2, h3, h4, h5, h6, ho.lat B⟩
theorem PutAt.ones {B : Nat} {w : World} {rs : List Nrw} {ns : List Nod} (hlen : rs.length = ns.length) (hn : ∀ (j : Nat) (r : Nrw) (n : Nod), rs[j]? = some r → ns[j]? = some n → NodAt B w r n) : ∀ r ∈ rs, ∀ u ∈ eN.enc r, u.oneCell' = true := by
  intro r hr u hu
  obtain ⟨j, hj, rfl⟩ := List.getElem_of_mem hr
  obtain ⟨A, cap, e⟩ := (hn j _ ns[j] (List.getElem?_eq_getElem hj) (List.getElem?_eq_getElem (by omega))).2.2.2.2.2.2.form
  simp only [eN, encN, List.mem_cons, List.not_mem_nil, or_false] at hu
  rcases hu with rfl | rfl | rfl | rfl | rfl | rfl | rfl | rfl | rfl
  all_goals first | rfl | (rw [e]; rfl)

set_option maxRecDepth 100000 in
set_option maxHeartbeats 8000000 in
theorem nodes_any {B : Nat} {w : World} {v : Value} {ns : List Nod} (h : PutAt B w v ns) (hl : ns.length ≤ 1000000) (hln : ∀ n ∈ ns, n.ins.length ≤ 1000000) :
    Calls Tryd.prog 49 #[v] w fun e w' => ∃ v', e = .returned v' ∧ PutAt B w' v' ns ∧ Ge w w' := by
  obtain ⟨rs, hrs, hlen, hn⟩ := h
  have HN := Lib.hid hn
  have HLN := Lib.hid hln
  have HLE := Lib.hid hlen
  have HC := Lib.hid (cloneN (hrs.src (PutAt.ones hlen hn)) (by omega))
  obtain ⟨A, cap, rfl, -⟩ := hrs
  have hrl : rs.length ≤ 1000000 := by omega
  clear hn hln hlen
  go_enter Tryd.func49, Tryd.ntmps49
  go_wp2_with fail
  refine HC.out.mono ?_
  rintro e w1 ⟨v1, rfl, hown1, hg1⟩
  obtain ⟨A1, c1, rfl⟩ := hown1.form
  have G1 := Lib.hid hg1
  have O1 := Lib.hid hown1
  clear hg1 hown1 HC
  go_wp2
  go_loopw [8] (fun i wr => ∃ (k : Nat) (rs' : List Nrw), k ≤ rs.length ∧ i = .int .i64 (k : Int) ∧ OwnL eN wr w.heap.size (.slice A1 rs.length c1) rs' ∧ Half wr rs rs' ns k ∧ Ge w wr) (fun i _ => rs.length - (intOf i).toNat)
  case atStart => exact ⟨0, rs, by omega, rfl, O1.out, Half.start _ _ _, G1.out⟩
  case round =>
    obtain ⟨k, rs', hk, rfl, hown, hhalf, hge⟩ := hrel
    have HO := Lib.hid hown
    have HH := Lib.hid hhalf
    have HG := Lib.hid hge
    have hl' := hhalf.len
    clear O1
    by_cases hlt : k < rs.length
    · obtain ⟨A2, c2, e2, _, hcells⟩ := ownCellsL hown
      rw [hl'] at e2
      cases e2
      obtain ⟨g, rfl, ⟨cs, hgc⟩, _, hcell⟩ := hcells (fun e => absurd (show rs'.length = 0 from by rw [e]; rfl) (by omega))
      obtain ⟨r, hr⟩ : ∃ r, rs[k]? = some r := ⟨_, List.getElem?_eq_getElem hlt⟩
      obtain ⟨n, hn⟩ : ∃ n, ns[k]? = some n := ⟨_, List.getElem?_eq_getElem (by have := HLE.out; omega)⟩
      have hr' : rs'[k]? = some r := (hhalf.rest k (Nat.le_refl _)).trans hr
      have hxn := HN.out k r n hr hn
      have x2 : wr.cell? ⟨g, k * 9 + 2, none⟩ = some r.ins := by
        have := hcell k r hr' 2 r.ins rfl
        simpa [eN] using this
      have hgl : g < wr.heap.size := (Array.getElem?_eq_some_iff.1 hgc).1
      have HCL := Lib.hid (fun w' (h : Ge w w') => cloneI ((hxn.2.2.2.2.2.2.ge h).src (fun x _ => one_I x)) (Nat.le_trans (HLN.out n (List.mem_of_getElem? hn)) (by decide)))
      obtain ⟨Aq, cq, hq⟩ := hxn.2.2.2.2.2.2.form
      have HQ := Lib.hid hq
      rw [hq] at x2 HCL
      have HR := Lib.hid hr
      have HR' := Lib.hid hr'
      have HNN := Lib.hid hn
      have i1 : (0 : Int) ≤ (k : Int) := by omega
      have i2 : (k : Int) < (rs.length : Int) := by omega
      have HBX := Lib.hid (show Bx wr g 84 cs from hgc)
      have HCS := Lib.hid (show (cs[k * 9 + 2]?).isSome = true by
        have := (show Bx wr g 84 cs from hgc).cell (k * 9 + 2)
        rw [← this, x2]
        rfl)
      clear hcells hcell hgc hr hn hr' hxn hown hhalf hge hq
      go_wp2_with fail
      refine (HCL.out _ HG.out).mono ?_
      rintro e w3 ⟨v3, rfl, hown3, hg3⟩
      have H3 := Lib.hid (show OwnI1 w3 v3 n.ins from ⟨_, hown3⟩)
      have G3 := Lib.hid hg3
      obtain ⟨A3, c3, hv3⟩ := hown3.form
      have X3 := HBX.out.ge hg3
      have y2 : w3.cell? ⟨g, k * 9 + 2, none⟩ = some (cs[k * 9 + 2]'(by
        have := HCS.out
        rcases Nat.lt_or_ge (k * 9 + 2) cs.size with h | h
        · exact h
        · rw [Array.getElem?_eq_none h] at this
          cases this)) := by
        rw [X3.cell]
        exact Array.getElem?_eq_getElem _
      have f2 := X3.frozen (k * 9 + 2)
      have l2 := X3.lt
      subst hv3
      have HO3 := Lib.hid (HO.out.ge hg3)
      clear hown3 hg3 x2 X3
      go_wp2
      go_roundw
      case rel =>
        have hs := OwnL.set (E := eN) (i := 2) (x' := withIns r (.slice A3 n.ins.length c3)) (u := .slice A3 n.ins.length c3) (show OwnL eN w3 w.heap.size (.slice (some ⟨g, 0, none⟩) rs'.length c1) rs' by rw [HH.out.len]; exact HO3.out) HR'.out (by decide) rfl
        have hgs := grownBy_setAt w3 g (k * 9 + 2) (.slice A3 n.ins.length c3)
        refine ⟨k + 1, rs'.set k (withIns r (.slice A3 n.ins.length c3)), by omega, by go_num, ?_, (HH.out.ge G3.out).step HO3.out hgs HR.out HNN.out H3.out, ge_own (HG.out.trans G3.out) HO3.out (Nat.le_refl _) hgs⟩
        rw [List.length_set, HH.out.len] at hs
        exact hs
      case measure => simp [intOf]; omega
    · have hkl : k = rs.length := by omega
      subst hkl
      clear hge hown hhalf
      go_wp2
      go_returns
      exact ⟨_, rfl, HH.out.put HO.out HLE.out HN.out, HG.out⟩
end Go.Proofs.YtmhibpmgnicolaaDoor
