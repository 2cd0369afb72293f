/-
  Records that are appended and cloned; Batches: records in pieces.
-/
import Derived.Test.YtidblliobkjeeaaDoorPartB
import Derived.Laws.AppendOwnNone
namespace Go.Proofs.YtidblliobkjeeaaDoor
open Go.RowKit

/-- 'append(v, s...)': v of the call's own, s whatever it reads -/
theorem run_appR {w : World} {base : Nat} {v s : Value} {xs ys : List Rc} (ty : TypeId) (hv : OwnR w base v xs) (hs : RecsAt w s ys) (hlen : xs.length + ys.length ≤ 1000000000000) (hbase : base ≤ w.heap.size) :
    ∃ v' w', (Builtin.append_ #[28, 28] ty #[v, s]).run Tryd.prog w = .ok v' w' ∧ OwnR w' base v' (xs ++ ys) ∧ w.grownBy w' v.ownBlock := by
  obtain ⟨i0, hi, hz0, hz1, hz2⟩ := info_parts info32
  obtain ⟨A, cap, rfl, hle, hc⟩ := hs
  cases A with
  | none =>
    have hy : ys = [] := by
      rcases ys with _ | ⟨y, ys⟩
      · rfl
      · obtain ⟨b, off, h, _⟩ := hc (by simp)
        cases h
    subst hy
    refine ⟨v, w, ?_, by simpa using hv, World.grownBy.refl w _⟩
    rcases hv.2 with ⟨rfl, _⟩ | ⟨g, cap', cur, rfl, _, _, hnc, _⟩
    · simp [Builtin.append_, run_underlying Tryd.underlying28, sizeOf, typeInfo, hi, Builtin.lenOf, Builtin.firstCells]
    · simp [Builtin.append_, run_underlying Tryd.underlying28, sizeOf, typeInfo, hi, Builtin.lenOf, Builtin.firstCells, hnc, storeCells]
  | some ad =>
    have hcells : ∀ j u, (recC ys)[j]? = some u → w.cell? (ad.add j) = some u := by
      intro j u hu
      have hj2 : j < ys.length * 2 := by
        have := (List.getElem?_eq_some_iff.1 hu).1
        rwa [recC_len] at this
      obtain ⟨b, off, h, _, hcell⟩ := hc (by intro e; subst e; simp at hj2)
      cases h
      have hj : j / 2 < ys.length := by omega
      obtain ⟨r, hr⟩ : ∃ r, ys[j / 2]? = some r := ⟨_, List.getElem?_eq_getElem hj⟩
      obtain ⟨e1, e2⟩ := recC_at ys _ r hr
      obtain ⟨q1, q2⟩ := hcell _ r hr
      rw [addr_add]
      rcases Nat.mod_two_eq_zero_or_one j with hm | hm
      · have e : j / 2 * 2 = j := by omega
        rw [e] at e1 q1
        rw [hu] at e1
        rw [q1, e1]
      · have e : j / 2 * 2 + 1 = j := by omega
        have e' : off + j / 2 * 2 + 1 = off + j := by omega
        rw [e] at e2
        rw [e'] at q2
        rw [hu] at e2
        rw [q2, e2]
    obtain ⟨v', w', hrun, h2, h3, _, h5⟩ := run_append_own_at (P := Tryd.prog) w base 28 ty 32 i0 _ 2 24 Tryd.underlying28 hi hz0 hz1 hz2 rfl (by decide) v xs.length (recC xs) hv ad ys.length cap (recC ys) (recC_len ys) hcells
      (fun u hu => by
        unfold recC at hu
        simp only [List.mem_flatMap, encR, List.mem_cons, List.not_mem_nil, or_false] at hu
        obtain ⟨r, _, rfl | rfl⟩ := hu <;> rfl) (by simp only [maxLen]; omega) (by omega) hbase
    refine ⟨v', w', hrun, ?_, h3⟩
    unfold OwnR
    rw [List.length_append, recC_append]
    exact h2

theorem wpList_appR {w : World} {ops : Array Oper} {rest : List Oper} {o : Oper} {a : Act} {Q : Exit → Act → World → Prop} (hgd : o.guard = none) (s x : Operand)
    (ho : o.op = .call { callee := .builtin .append, args := #[s, x], argTypes := #[28, 28] }) {base : Nat} {v sv : Value} {xs ys : List Rc} (hs : a.eval s = v) (hx : a.eval x = sv)
    (hv : OwnR w base v xs) (hy : RecsAt w sv ys) (hlen : xs.length + ys.length ≤ 1000000000000) (hbase : base ≤ w.heap.size)
    (h : ∀ v' w', OwnR w' base v' (xs ++ ys) → w.grownBy w' v.ownBlock → wpList Tryd.prog ops Q rest (a.put o.dst v') w') : wpList Tryd.prog ops Q (o :: rest) a w := by
  obtain ⟨v', w', hrun, h2, h3⟩ := run_appR o.type hv hy hlen hbase
  refine wpList_plain hgd fun K hK => ?_
  unfold Oper.wp execOp
  simp only [ho, resolve, invoke, builtin, Sem.run_bind, Sem.run_pure, Result.andThen_ok, List.map_toArray, List.map_cons, List.map_nil, hs, hx, hrun]
  exact hK _ _ (h v' w' h2 h3)

/-- an append onto a row of the call's own leaves what was there ahead of the call -/
theorem ge_own {w wr w1 : World} {base : Nat} {e : TypeId} {size n : Nat} {v : Value} {xs : List Value} (hge : Ge w wr) (hv : wr.ownsRow base e size v n xs) (hb : w.heap.size ≤ base) (hg : wr.grownBy w1 v.ownBlock) : Ge w w1 := by
  refine Below.grown hge hg hge.size (fun k hk => ?_)
  have := (hv.lt k hk).1
  omega

set_option maxHeartbeats 1000000 in
theorem clone_any {w : World} {v : Value} {rs : List Rc} (h : RecsAt w v rs) (hl : rs.length ≤ 1000000000) :
    Calls Tryd.prog 15 #[v] w fun e w' => ∃ v', e = .returned v' ∧ OwnR w' w.heap.size v' rs ∧ Ge w w' := by
  have HB := Lib.hid h
  have q28 := fun (w : World) (a : Option Addr) (n c n' c' : Nat) => Lib.run_eql_slice_nil (P := Tryd.prog) w 28 32 a n c n' c' Tryd.underlying28
  obtain ⟨A, cap, rfl, hle, hc⟩ := h
  cases A with
  | none =>
    have hy : rs = [] := by
      rcases rs with _ | ⟨y, ys⟩
      · rfl
      · obtain ⟨b, off, h, _⟩ := hc (by simp)
        cases h
    subst hy
    clear hc
    go_enter Tryd.func15, Tryd.ntmps15
    go_wp2
    go_returns
    exact ⟨_, rfl, World.ownsRow_nil _ _ _ _, Ge.refl _⟩
  | some a =>
    clear hc
    have hown1 : OwnR (w.alloc (.cells #[] 32)) w.heap.size (.slice (some ⟨w.heap.size, 0, none⟩) 0 0) [] := World.ownsRow_made w #[] 0 (Nat.le_refl _) (Nat.zero_le _) rfl
    have H1 := Lib.hid hown1
    have HB1 := Lib.hid (HB.out.ge ((Ge.refl w).alloc (.cells #[] 32)))
    have C1 := Lib.hid (show ([] : List Rc).length + rs.length ≤ 1000000000000 by simp; omega)
    have C2 := Lib.hid (show w.heap.size ≤ (w.alloc (.cells #[] 32)).heap.size by simp)
    clear hown1
    go_enter Tryd.func15, Tryd.ntmps15
    go_wp2_with (at_builtin; refine wpList_appR rfl (.tmp 5) (.tmp 6) rfl rfl rfl H1.out HB1.out C1.out C2.out ?_; intro v' w1 hown hgrow; have HO := Lib.hid hown; have HG := Lib.hid hgrow; clear hown hgrow)
    go_returns
    exact ⟨_, rfl, HO.out, ge_own ((Ge.refl w).alloc _) H1.out (Nat.le_refl _) HG.out⟩

/-- records in pieces of 64 -/
def batF : Nat → List Rc → List (List Rc)
  | 0, _ => []
  | f + 1, rs => if rs.length = 0 then [] else rs.take 64 :: batF f (rs.drop 64)
def batL (rs : List Rc) : List (List Rc) := batF rs.length rs
theorem batF_more : ∀ (f g : Nat) (rs : List Rc), rs.length ≤ f → rs.length ≤ g → batF f rs = batF g rs := by
  intro f
  induction f with
  | zero =>
    intro g rs hf hg
    have h0 : rs.length = 0 := by omega
    cases g with
    | zero => rfl
    | succ g => rw [batF, batF, if_pos h0]
  | succ f ih =>
    intro g rs hf hg
    cases g with
    | zero =>
      have h0 : rs.length = 0 := by omega
      rw [batF, batF, if_pos h0]
    | succ g =>
      rw [batF, batF]
      by_cases h : rs.length = 0
      · rw [if_pos h, if_pos h]
      · rw [if_neg h, if_neg h, ih g _ (by simp; omega) (by simp; omega)]
theorem batL_eq (rs : List Rc) : batL rs = if rs.length = 0 then [] else rs.take 64 :: batL (rs.drop 64) := by
  unfold batL
  by_cases h : rs.length = 0
  · rw [if_pos h, h]; rfl
  · rw [if_neg h]
    obtain ⟨m, hm⟩ : ∃ m, rs.length = m + 1 := ⟨rs.length - 1, by omega⟩
    rw [hm, batF, if_neg h, batF_more m _ _ (by simp; omega) (Nat.le_refl _)]
theorem batF_len : ∀ (f : Nat) (rs : List Rc), (batF f rs).length ≤ rs.length := by
  intro f
  induction f with
  | zero => intro rs; simp [batF]
  | succ f ih =>
    intro rs
    rw [batF]
    split
    · simp
    · have := ih (rs.drop 64)
      simp at this ⊢
      omega
theorem batL_len (rs : List Rc) : (batL rs).length ≤ rs.length := batF_len _ _
theorem batF_mem : ∀ (f : Nat) (rs b : List Rc), b ∈ batF f rs → b.length ≤ rs.length ∧ 0 < b.length ∧ b.length ≤ 64 := by
  intro f
  induction f with
  | zero => intro rs b h; simp [batF] at h
  | succ f ih =>
    intro rs b h
    rw [batF] at h
    split at h
    · simp at h
    · rw [List.mem_cons] at h
      rcases h with rfl | h
      · simp; omega
      · have := ih _ _ h
        simp at this
        omega

/-- records in memory of the call's own -/
def Own1 (w : World) (u : Value) (p : List Rc) : Prop := ∃ b, OwnR w b u p
theorem Own1.ge {w w' : World} {u : Value} {p : List Rc} (h : Own1 w u p) (hg : Ge w w') : Own1 w' u p := by
  obtain ⟨b, h⟩ := h
  exact ⟨b, h.ge hg⟩
theorem Own1.recsAt {w : World} {u : Value} {p : List Rc} (h : Own1 w u p) : RecsAt w u p := by
  obtain ⟨b, h⟩ := h
  exact h.recsAt
/-- a row of other things that grows leaves records as they were -/
theorem Own1.grown {w w1 : World} {base : Nat} {e : TypeId} {size n : Nat} {v u : Value} {xs : List Value} {p : List Rc} (h : Own1 w u p) (hv : w.ownsRow base e size v n xs) (hg : w.grownBy w1 v.ownBlock) (hte : e ≠ 32) : Own1 w1 u p := by
  obtain ⟨b, h⟩ := h
  refine ⟨b, World.ownsRow.kept h hg ?_⟩
  rcases h.2 with ⟨rfl, _⟩ | ⟨g, cap, cur, rfl, _, hh, _⟩
  · exact .inl rfl
  · refine .inr fun e' => ?_
    rcases hv.2 with ⟨rfl, _⟩ | ⟨g', cap', cur', rfl, _, hh', _⟩
    · simp [Value.ownBlock] at e'
    · simp [Value.ownBlock] at e'
      subst e'
      rw [hh] at hh'
      have := Option.some.inj hh'
      simp at this
      exact hte this.2.symm

theorem RecsAt.take {w : World} {A : Option Addr} {m cap k : Nat} {rs : List Rc} (h : RecsAt w (.slice A m cap) rs) (hk : k ≤ rs.length) : RecsAt w (.slice A k cap) (rs.take k) := by
  obtain ⟨A', cap', e, hle, hc⟩ := h
  cases e
  have hl : (rs.take k).length = k := by simp; omega
  refine ⟨A, cap, by rw [hl], by rw [hl]; omega, fun hne => ?_⟩
  obtain ⟨b, off, rfl, hb, hcell⟩ := hc (by intro e; subst e; simp at hne)
  refine ⟨b, off, rfl, hb, fun j r hj => hcell j r ?_⟩
  rw [List.getElem?_take] at hj
  split at hj
  · exact hj
  · cases hj
theorem RecsAt.drop_run {w : World} {A : Option Addr} {cap k : Nat} {rs : List Rc} (h : RecsAt w (.slice A rs.length cap) rs) (hk : k ≤ rs.length) :
    ∃ A' cap', (∀ w' : World, (Instr.slice 28 (.slice A rs.length cap) (some (.int .i64 (k : Int))) none none).run Tryd.prog w' = .ok (.slice A' (rs.length - k) cap') w') ∧ RecsAt w (.slice A' (rs.length - k) cap') (rs.drop k) := by
  obtain ⟨A0, cap0, e, hle, hc⟩ := h
  cases e
  have h1 : (k : Int) ≤ (rs.length : Int) := by omega
  by_cases hck : cap = k
  · subst hck
    have h2 : rs.length = cap := by omega
    refine ⟨A, cap - cap, fun w' => ?_, ?_⟩
    · go_simp
    · rw [h2, Nat.sub_self]
      have : rs.drop cap = [] := List.drop_eq_nil_of_le (by omega)
      rw [this]
      exact RecsAt.nil _ _ _
  · refine ⟨Option.map (fun x => x.add (k * 2)) A, cap - k, fun w' => ?_, ?_⟩
    · go_simp
    · have hl : (rs.drop k).length = rs.length - k := List.length_drop
      refine ⟨_, cap - k, by rw [hl], by rw [hl]; omega, fun hne => ?_⟩
      obtain ⟨b, off, rfl, hb, hcell⟩ := hc (by intro e; subst e; simp at hne)
      refine ⟨b, off + k * 2, ?_, hb, fun j r hj => ?_⟩
      · simp [addr_add]
      · rw [List.getElem?_drop] at hj
        have := hcell (k + j) r hj
        rw [show off + (k + j) * 2 = off + k * 2 + j * 2 by omega] at this
        exact this
theorem take_run {w : World} {A : Option Addr} {cap k : Nat} {rs : List Rc} (h : RecsAt w (.slice A rs.length cap) rs) (hk : k ≤ rs.length) (w' : World) :
    (Instr.slice 28 (.slice A rs.length cap) none (some (.int .i64 (k : Int))) none).run Tryd.prog w' = .ok (.slice A k cap) w' := by
  obtain ⟨A0, cap0, e, hle, hc⟩ := h
  cases e
  have h1 : (k : Int) ≤ (rs.length : Int) := by omega
  have h2 : (k : Int) ≤ (cap : Int) := by omega
  go_simp
end Go.Proofs.YtidblliobkjeeaaDoor
