/-
  A region that draws its order, where no operation turns memory that was there before: verified once, in the order of the text.
  Each operation is shown from EVERY world that has grown out of the first one; its value is either fixed ('det') or known by a property that growth keeps ('non').
-/
import Derived.Orders
import Derived.Test.YtmhibpmgnicolaaDoorGe
import Derived.Still
import Derived.Tactics
namespace Go.Proofs.YtmhibpmgnicolaaDoor.Dr
open Go.RowKit

abbrev Slot := Value ⊕ (Value → World → Prop)
def Slot.fill (s : Slot) (u : Value) : Value := match s with | .inl v => v | .inr _ => u
def Slot.ok (s : Slot) (v : Value) (w : World) : Prop := match s with | .inl v' => v = v' | .inr T => T v w
def Slot.fact (s : Slot) (v : Value) (w : World) : Prop := match s with | .inl _ => True | .inr T => T v w
def Slot.mono (s : Slot) : Prop := match s with | .inl _ => True | .inr T => ∀ v w w', Ge w w' → T v w → T v w'

theorem Slot.ok_fill {s : Slot} {v : Value} {w : World} (h : s.ok v w) : s.fill v = v := by
  cases s with
  | inl v' => exact h.symm
  | inr T => rfl
theorem Slot.ok_fact {s : Slot} {v : Value} {w : World} (h : s.ok v w) : s.fact v w := by
  cases s with
  | inl v' => trivial
  | inr T => exact h
theorem Slot.fact_mono {s : Slot} (hm : s.mono) {v : Value} {w w' : World} (hw : Ge w w') (h : s.fact v w) : s.fact v w' := by
  cases s with
  | inl v' => trivial
  | inr T => exact hm v w w' hw h

/-- what one operation must give -/
def upT (P : Program) (R : Value → World → Prop) : Result Next → Prop
  | .ok (.value v) w' => R v w'
  | .ok .skip w' => R undef w'
  | .ok (.enter f args) w' => Calls P f args w' fun e w'' => ∃ v, e = .returned v ∧ R v w''
  | _ => False

def befB (o : Oper) (k : Nat) : Bool := o.after.any fun e => Region.binds .any e && e.on == k

def okT (ops : Array Oper) : Bool :=
  Region.noSelect ops && (List.range ops.size).all fun j => match ops[j]? with
    | none => true
    | some o => o.after.all (fun e => !Region.binds .any e || decide (e.on < j)) &&
      (List.range ops.size).all fun k => match ops[k]? with
        | none => true
        | some p => match p.dst with
          | none => true
          | some d => k == j || (o.dst != some d && (!(o.looksAt ops).contains d || befB o k))

section
variable (P : Program) (ops : Array Oper) (K : Act → World → Prop) (w0 : World)

def wpT : Nat → List Oper → ((Nat → Value) → Act) → (Nat → (Nat → Value) → World → Prop) → Prop
  | j, [], fr, F => ∀ u w, Ge w0 w → (∀ k, k < j → F k u w) → K (fr u) w
  | j, o :: rest, fr, F => ∃ s : Slot, s.mono ∧
      (∀ u w, Ge w0 w → (∀ k, befB o k = true → F k u w) →
        if Region.wanted o (yielded ops (fr u).tmps) then upT P (fun v w' => Ge w w' ∧ s.ok v w') ((execOp (fr u).eval o).run P w) else s.ok undef w) ∧
      wpT (j + 1) rest (fun u => (fr u).put o.dst (s.fill (u j))) (fun k u w => if k = j then s.fact (u j) w else F k u w)
end

section
variable {P : Program} {ops : Array Oper} {Q : Exit → Act → World → Prop} {K : Act → World → Prop} {w0 : World}

theorem wpT_det {j : Nat} {o : Oper} {rest : List Oper} {fr : (Nat → Value) → Act} {F : Nat → (Nat → Value) → World → Prop} (v : Value)
    (h1 : ∀ u w, Ge w0 w → (∀ k, befB o k = true → F k u w) →
        if Region.wanted o (yielded ops (fr u).tmps) then upT P (fun v' w' => Ge w w' ∧ v' = v) ((execOp (fr u).eval o).run P w) else undef = v)
    (h2 : wpT P ops K w0 (j + 1) rest (fun u => (fr u).put o.dst v) (fun k u w => if k = j then True else F k u w)) :
    wpT P ops K w0 j (o :: rest) fr F := ⟨.inl v, trivial, h1, h2⟩

theorem wpT_non {j : Nat} {o : Oper} {rest : List Oper} {fr : (Nat → Value) → Act} {F : Nat → (Nat → Value) → World → Prop} (T : Value → World → Prop)
    (hm : ∀ v w w', Ge w w' → T v w → T v w')
    (h1 : ∀ u w, Ge w0 w → (∀ k, befB o k = true → F k u w) →
        if Region.wanted o (yielded ops (fr u).tmps) then upT P (fun v' w' => Ge w w' ∧ T v' w') ((execOp (fr u).eval o).run P w) else T undef w)
    (h2 : wpT P ops K w0 (j + 1) rest (fun u => (fr u).put o.dst (u j)) (fun k u w => if k = j then T (u j) w else F k u w)) :
    wpT P ops K w0 j (o :: rest) fr F := ⟨.inr T, hm, h1, h2⟩

/-- the frame when the first j operations have their slots filled -/
def frameT (ops : Array Oper) (ss : Nat → Slot) (u : Nat → Value) (a : Act) : Nat → Act
  | 0 => a
  | j + 1 => (frameT ops ss u a j).put ((ops[j]?).bind (·.dst)) ((ss j).fill (u j))

theorem put_defers' (a : Act) (d : Option Tmp) (v : Value) : (a.put d v).defers = a.defers := by cases d <;> rfl
theorem put_size' (a : Act) (d : Option Tmp) (v : Value) : (a.put d v).tmps.size = a.tmps.size := by cases d <;> simp [Act.put]
theorem put_at_ne (a : Act) (d : Option Tmp) (v : Value) (t : Nat) (h : d ≠ some t) : (a.put d v).tmps[t]? = a.tmps[t]? := by
  cases d with
  | none => rfl
  | some e =>
    have : e ≠ t := fun h' => h (by rw [h'])
    simp [Act.put, Array.getElem?_setIfInBounds_ne this]
theorem put_at_eq (a : Act) (v : Value) (t : Nat) (h : t < a.tmps.size) : (a.put (some t) v).tmps[t]? = some v := by
  simp [Act.put, h]

theorem okT_spec (h : okT ops = true) : (∀ (j : Nat) (o : Oper) cs b, ops[j]? = some o → o.op ≠ .select cs b) ∧
    ∀ (j : Nat) (o : Oper), ops[j]? = some o → (∀ e ∈ o.after, Region.binds .any e = true → e.on < j) ∧
      ∀ (k : Nat) (p : Oper) d, ops[k]? = some p → p.dst = some d → k ≠ j → o.dst ≠ some d ∧ (d ∈ o.looksAt ops → befB o k = true) := by
  simp only [okT, Bool.and_eq_true] at h
  refine ⟨Region.noSelect_spec h.1, fun j o ho => ?_⟩
  have hj : j < ops.size := (Array.getElem?_eq_some_iff.1 ho).1
  have h2 := List.all_eq_true.1 h.2 j (by simpa using hj)
  simp only [ho, Bool.and_eq_true] at h2
  refine ⟨fun e he hb => ?_, fun k p d hp hd hne => ?_⟩
  · have := Array.all_eq_true'.1 h2.1 e he
    simpa [hb] using this
  · have hk : k < ops.size := (Array.getElem?_eq_some_iff.1 hp).1
    have h3 := List.all_eq_true.1 h2.2 k (by simpa using hk)
    simp only [hp, hd] at h3
    have hne' : (k == j) = false := by simpa using hne
    rw [hne', Bool.false_or, Bool.and_eq_true] at h3
    refine ⟨by simpa using h3.1, fun hl => ?_⟩
    have := h3.2
    simpa [hl] using this

theorem frameT_defers (ss : Nat → Slot) (u : Nat → Value) (a : Act) (j : Nat) : (frameT ops ss u a j).defers = a.defers := by
  induction j with
  | zero => rfl
  | succ j ih => rw [frameT, put_defers', ih]
theorem frameT_size (ss : Nat → Slot) (u : Nat → Value) (a : Act) (j : Nat) : (frameT ops ss u a j).tmps.size = a.tmps.size := by
  induction j with
  | zero => rfl
  | succ j ih => rw [frameT, put_size', ih]
theorem frameT_off (ss : Nat → Slot) (u : Nat → Value) (a : Act) (t : Nat) (j : Nat) (h : ∀ (k : Nat) o, k < j → ops[k]? = some o → o.dst ≠ some t) :
    (frameT ops ss u a j).tmps[t]? = a.tmps[t]? := by
  induction j with
  | zero => rfl
  | succ j ih =>
    rw [frameT, put_at_ne, ih (fun k o hk => h k o (by omega))]
    cases ho : ops[j]? with
    | none => simp
    | some o => simpa using h j o (by omega) ho
theorem frameT_on (hB : okT ops = true) (ss : Nat → Slot) (u : Nat → Value) (a : Act) (t : Nat) (ht : t < a.tmps.size) (k : Nat) (o : Oper) (ho : ops[k]? = some o) (hd : o.dst = some t) (j : Nat) (hj : k < j) :
    (frameT ops ss u a j).tmps[t]? = some ((ss k).fill (u k)) := by
  induction j with
  | zero => omega
  | succ j ih =>
    rw [frameT]
    by_cases hkj : k = j
    · subst hkj
      rw [ho]
      show ((frameT ops ss u a k).put o.dst _).tmps[t]? = _
      rw [hd]
      exact put_at_eq _ _ _ (by rw [frameT_size]; exact ht)
    · rw [put_at_ne, ih (by omega)]
      cases hp : ops[j]? with
      | none => simp
      | some p =>
        have := ((okT_spec hB).2 j p hp).2 k o t ho hd hkj
        simpa using this.1

/-- what the walk in the text's order gives, for all operations at once -/
theorem wpT_slots (a : Act) : ∀ (rest : List Oper) (j : Nat) (ss : Nat → Slot) (fr : (Nat → Value) → Act) (F : Nat → (Nat → Value) → World → Prop),
    (∀ i, i < rest.length → rest[i]? = ops[j + i]?) → (∀ u, fr u = frameT ops ss u a j) → (∀ k u w, k < j → (F k u w ↔ (ss k).fact (u k) w)) → (∀ k, k < j → (ss k).mono) → wpT P ops K w0 j rest fr F →
    ∃ ss' : Nat → Slot, (∀ k, k < j → ss' k = ss k) ∧ (∀ k, k < j + rest.length → (ss' k).mono) ∧
      (∀ (i : Nat) (o : Oper), j ≤ i → i < j + rest.length → ops[i]? = some o → (∀ k, befB o k = true → k < i) → ∀ u w, Ge w0 w → (∀ k, befB o k = true → (ss' k).fact (u k) w) →
        if Region.wanted o (yielded ops (frameT ops ss' u a i).tmps) then upT P (fun v w' => Ge w w' ∧ (ss' i).ok v w') ((execOp (frameT ops ss' u a i).eval o).run P w) else (ss' i).ok undef w) ∧
      (∀ u w, Ge w0 w → (∀ k, k < j + rest.length → (ss' k).fact (u k) w) → K (frameT ops ss' u a (j + rest.length)) w)
  | [], j, ss, fr, F, hl, hfr, hF, hm, h => by
    refine ⟨ss, fun _ _ => rfl, fun k hk => hm k (by simpa using hk), fun i o hji hi => absurd hi (by simp; omega), fun u w hw hf => ?_⟩
    have := h u w hw (fun k hk => (hF k u w hk).2 (hf k (by simpa using hk)))
    rwa [hfr] at this
  | o :: rest, j, ss, fr, F, hl, hfr, hF, hm, h => by
    obtain ⟨s, hsm, h1, h2⟩ := h
    have ho : ops[j]? = some o := by simpa using (hl 0 (by simp)).symm
    obtain ⟨sn, hsn⟩ : ∃ sn : Nat → Slot, sn = fun k => if k = j then s else ss k := ⟨_, rfl⟩
    have hold : ∀ k, k < j → sn k = ss k := fun k hk => by rw [hsn]; simp; omega
    have hnew : sn j = s := by rw [hsn]; simp
    have hfe : ∀ u i, i ≤ j → frameT ops sn u a i = frameT ops ss u a i := by
      intro u i
      induction i with
      | zero => intro _; rfl
      | succ i ih => intro hi; rw [frameT, frameT, ih (by omega), hold i (by omega)]
    obtain ⟨ss', e1, e2, e3, e4⟩ := wpT_slots a rest (j + 1) sn _ _ (fun i hi => by have := hl (i + 1) (by simp; omega); simpa [Nat.add_assoc, Nat.add_comm 1 i] using this)
      (fun u => by rw [frameT, hfe u j (Nat.le_refl _), ← hfr, ho, hnew]; rfl)
      (fun k u w hk => by
        by_cases hkj : k = j
        · subst hkj; simp [hnew]
        · simp only [hkj, if_false]; rw [hold k (by omega)]; exact hF k u w (by omega))
      (fun k hk => by
        by_cases hkj : k = j
        · subst hkj; rw [hnew]; exact hsm
        · rw [hold k (by omega)]; exact hm k (by omega)) h2
    have hfe' : ∀ u i, i ≤ j + 1 → frameT ops ss' u a i = frameT ops sn u a i := by
      intro u i
      induction i with
      | zero => intro _; rfl
      | succ i ih => intro hi; rw [frameT, frameT, ih (by omega), e1 i (by omega)]
    have hlen : j + (o :: rest).length = j + 1 + rest.length := by simp; omega
    refine ⟨ss', fun k hk => (e1 k (by omega)).trans (hold k hk), fun k hk => e2 k (by omega), fun i p hji hi hp hb u w hw hf => ?_, fun u w hw hf => ?_⟩
    · by_cases hij : i = j
      · subst hij
        obtain rfl : p = o := by rw [ho] at hp; exact (Option.some.inj hp).symm
        have := h1 u w hw (fun k hk => by
          have hkj := hb k hk
          have h3 := hf k hk
          rw [e1 k (by omega), hold k hkj] at h3
          exact (hF k u w hkj).2 h3)
        rw [hfe' u i (by omega), hfe u i (Nat.le_refl _), ← hfr u, e1 i (by omega), hnew]
        exact this
      · exact e3 i p (by omega) (by omega) hp hb u w hw hf
    · have := e4 u w hw (fun k hk => hf k (by omega))
      rw [hlen]
      exact this

/-- between two operations: which have come up, what the frame and the world hold -/
def InvT (ops : Array Oper) (ss : Nat → Slot) (a : Act) (w0 : World) (listed : Array Bool) (a' : Act) (w' : World) : Prop :=
  ∃ u : Nat → Value, Ge w0 w' ∧ a'.defers = a.defers ∧ a'.tmps.size = a.tmps.size ∧
    (∀ (k : Nat) o d, ops[k]? = some o → listed.getD k false = true → o.dst = some d → d < a.tmps.size → a'.tmps[d]? = some ((ss k).fill (u k))) ∧
    (∀ t, (∀ (k : Nat) o, ops[k]? = some o → listed.getD k false = true → o.dst ≠ some t) → a'.tmps[t]? = a.tmps[t]?) ∧
    (∀ k, listed.getD k false = true → (ss k).fact (u k) w')

theorem at_same {a' f : Act} {t : Nat} (h : a'.tmps[t]? = f.tmps[t]?) : a'.eval (.tmp t) = f.eval (.tmp t) := by
  simp [Act.eval, Array.getD_eq_getD_getElem?, h]

theorem InvT.look (hB : okT ops = true) {ss : Nat → Slot} {a a' : Act} {listed : Array Bool} {u : Nat → Value} {j : Nat} {o : Oper} (ho : ops[j]? = some o)
    (hbl : ∀ k, befB o k = true → listed.getD k false = true ∧ k < j) (hjn : listed.getD j false = false) (hsz : a'.tmps.size = a.tmps.size)
    (h1 : ∀ (k : Nat) o d, ops[k]? = some o → listed.getD k false = true → o.dst = some d → d < a.tmps.size → a'.tmps[d]? = some ((ss k).fill (u k)))
    (h2 : ∀ t, (∀ (k : Nat) o, ops[k]? = some o → listed.getD k false = true → o.dst ≠ some t) → a'.tmps[t]? = a.tmps[t]?)
    (t : Nat) (ht : t ∈ o.looksAt ops) : a'.tmps[t]? = (frameT ops ss u a j).tmps[t]? := by
  by_cases hlt : t < a.tmps.size
  · by_cases hx : ∃ (k : Nat) (p : Oper), ops[k]? = some p ∧ p.dst = some t
    · obtain ⟨k, p, hp, hd⟩ := hx
      by_cases hkj : k = j
      · subst hkj
        rw [h2 t, frameT_off]
        · intro i q hi hq hqd
          have := ((okT_spec hB).2 k p hp).2 i q t hq hqd (by omega)
          exact this.1 hd
        · intro i q hq hql hqd
          by_cases hik : i = k
          · subst hik; rw [hjn] at hql; cases hql
          · have := ((okT_spec hB).2 k p hp).2 i q t hq hqd hik
            exact this.1 hd
      · have hb := (((okT_spec hB).2 j o ho).2 k p t hp hd hkj).2 ht
        obtain ⟨hl, hkj'⟩ := hbl k hb
        rw [h1 k p t hp hl hd hlt, frameT_on hB ss u a t hlt k p hp hd j hkj']
    · rw [h2 t (fun k p hp _ hd => hx ⟨k, p, hp, hd⟩), frameT_off ss u a t j (fun k p _ hp hd => hx ⟨k, p, hp, hd⟩)]
  · rw [Array.getElem?_eq_none (by omega), Array.getElem?_eq_none (by rw [frameT_size]; omega)]

theorem mem_looks_operand {o : Oper} {t : Nat} (h : Operand.tmp t ∈ o.op.operands) : t ∈ o.looksAt ops :=
  List.mem_append_left _ (List.mem_filterMap.2 ⟨.tmp t, by simpa using h, rfl⟩)

theorem wanted_same {o : Oper} {x y : Array Value} (h : ∀ t ∈ o.looksAt ops, x[t]? = y[t]?) : Region.wanted o (yielded ops x) = Region.wanted o (yielded ops y) := by
  unfold Region.wanted
  cases hg : o.guard with
  | none => rfl
  | some gw =>
    obtain ⟨g, want⟩ := gw
    have hy : yielded ops x g = yielded ops y g := by
      unfold yielded
      cases ht : (ops[g]?).bind (·.dst) with
      | none => rfl
      | some t =>
        have := h t (by simp [Oper.looksAt, hg, ht])
        simp [this]
    simp only [hy]

theorem InvT.step (hB : okT ops = true) {ss : Nat → Slot} {m : Nat} (hmono : ∀ k, k < m → (ss k).mono) {a a' : Act} {w' w2 : World} {listed : Array Bool} (hin : ∀ k, listed.getD k false = true → k < m) (hls : listed.size = ops.size) {j : Nat} {o : Oper} (ho : ops[j]? = some o)
    (hjn : listed.getD j false = false) {u : Nat → Value} (hw0 : Ge w0 w') (hde : a'.defers = a.defers) (hsz : a'.tmps.size = a.tmps.size)
    (h1 : ∀ (k : Nat) o d, ops[k]? = some o → listed.getD k false = true → o.dst = some d → d < a.tmps.size → a'.tmps[d]? = some ((ss k).fill (u k)))
    (h2 : ∀ t, (∀ (k : Nat) o, ops[k]? = some o → listed.getD k false = true → o.dst ≠ some t) → a'.tmps[t]? = a.tmps[t]?)
    (hf : ∀ k, listed.getD k false = true → (ss k).fact (u k) w') {v : Value} (hg : Ge w' w2) (hv : (ss j).ok v w2) :
    InvT ops ss a w0 (listed.setIfInBounds j true) (a'.put o.dst v) w2 := by
  have hj : j < ops.size := (Array.getElem?_eq_some_iff.1 ho).1
  have hget : ∀ k, (listed.setIfInBounds j true).getD k false = if k = j then true else listed.getD k false := by
    intro k
    by_cases hk : k = j
    · subst hk; simp [Array.getD_eq_getD_getElem?, hls, hj]
    · simp [Array.getD_eq_getD_getElem?, Array.getElem?_setIfInBounds_ne (Ne.symm hk), hk]
  refine ⟨fun k => if k = j then v else u k, hw0.trans hg, by rw [put_defers', hde], by rw [put_size', hsz], ?_, ?_, ?_⟩
  · intro k p d hp hl hd hdl
    by_cases hk : k = j
    · subst hk
      obtain rfl : p = o := by rw [ho] at hp; exact (Option.some.inj hp).symm
      rw [hd]
      simp only [if_true]
      rw [put_at_eq _ _ _ (hsz.symm ▸ hdl), Slot.ok_fill hv]
    · rw [hget, if_neg hk] at hl
      simp only [hk, if_false]
      rw [put_at_ne _ _ _ _ ((((okT_spec hB).2 j o ho).2 k p d hp hd hk).1)]
      exact h1 k p d hp hl hd hdl
  · intro t ht
    rw [put_at_ne _ _ _ _ (ht j o ho (by rw [hget]; simp))]
    refine h2 t (fun k p hp hl => ht k p hp ?_)
    rw [hget]; split
    · rfl
    · exact hl
  · intro k hl
    by_cases hk : k = j
    · subst hk; simp only [if_true]; exact Slot.ok_fact hv
    · rw [hget, if_neg hk] at hl
      simp only [hk, if_false]
      exact Slot.fact_mono (hmono k (hin k hl)) hg (hf k hl)

theorem wpOp_of_upT {i : Nat} {o : Oper} (hi : ops[i]? = some o) {a : Act} {w : World} {R : Value → World → Prop} {K : Act → World → Prop}
    (hK : ∀ v w', R v w' → K (a.put o.dst v) w')
    (h : if Region.wanted o (yielded ops a.tmps) then upT P R ((execOp a.eval o).run P w) else R undef w) : wpOp P ops Q i K a w := by
  unfold Go.wpOp
  simp only [hi]
  split
  · rename_i hw
    rw [if_pos hw] at h
    refine .inl ?_
    unfold Oper.wp
    generalize (execOp a.eval o).run P w = r at *
    cases r with
    | ok n w' =>
      cases n <;> simp only [upT] at h <;> simp only [Oper.upon]
      case value v => exact hK _ _ h
      case skip => exact hK _ _ h
      case enter f args =>
        exact h.mono fun e w'' ⟨v, he, hr⟩ => by subst he; exact hK _ _ hr
    | halt x w' => simp only [upT] at h
  · rename_i hw
    rw [if_neg hw] at h
    exact hK _ _ h

theorem count_set {listed : Array Bool} {i : Nat} (hi : i < listed.size) (h : listed.getD i false = false) :
    (listed.setIfInBounds i true).toList.count true = listed.toList.count true + 1 := by
  obtain ⟨l⟩ := listed
  simp only [List.setIfInBounds_toArray] at *
  simp at hi h
  induction l generalizing i with
  | nil => simp at hi
  | cons b l ih =>
    cases i with
    | zero => simp at h; subst h; simp
    | succ i =>
      simp at hi h
      have := ih hi h
      simp only [List.set_cons_succ, List.count_cons]
      omega

theorem all_listed (hB : okT ops = true) {listed : Array Bool} (hls : listed.size = ops.size) (h : Region.ready .any ops listed = []) : ∀ k, k < ops.size → listed.getD k false = true := by
  intro k
  induction k using Nat.strongRecOn with
  | _ k ih =>
    intro hk
    rcases hb : listed.getD k false with _ | _
    · exfalso
      have ho : ops[k]? = some ops[k] := Array.getElem?_eq_getElem hk
      have : k ∈ Region.ready .any ops listed := by
        refine mem_ready.2 ⟨?_, ops[k], ho, fun e he hbd => ?_⟩
        · simpa [Array.getD_eq_getD_getElem?, hls, hk] using hb
        · have hlt := ((okT_spec hB).2 k _ ho).1 e he hbd
          exact ih e.on hlt (by omega)
      rw [h] at this
      cases this
    · rfl

/-- from operation m on, each waits for all that stand ahead of it -/
def tailB (ops : Array Oper) (m : Nat) : Bool := (List.range ops.size).all fun i => decide (i < m) || match ops[i]? with
  | none => true
  | some o => (List.range i).all fun k => befB o k
theorem tailB_spec {m : Nat} (h : tailB ops m = true) {i : Nat} {o : Oper} (ho : ops[i]? = some o) (hi : m ≤ i) {k : Nat} (hk : k < i) : befB o k = true := by
  have hlt : i < ops.size := (Array.getElem?_eq_some_iff.1 ho).1
  have h1 := List.all_eq_true.1 h i (by simpa using hlt)
  have hd : decide (i < m) = false := by simp; omega
  rw [hd, Bool.false_or, ho] at h1
  exact List.all_eq_true.1 h1 k (by simpa using hk)

theorem bef_listed {o : Oper} {listed : Array Bool} (hall : ∀ e ∈ o.after, Region.binds .any e = true → listed.getD e.on false = true) {k : Nat} (h : befB o k = true) : listed.getD k false = true := by
  obtain ⟨e, he, heb⟩ := Array.any_eq_true'.1 h
  simp only [Bool.and_eq_true, beq_iff_eq] at heb
  obtain ⟨hb, rfl⟩ := heb
  exact hall e he hb

theorem wpAny_tail (hB : okT ops = true) {m : Nat} (hT : tailB ops m = true) : ∀ (rest : List Oper) (j : Nat) (listed : Array Bool) (a : Act) (w : World), m ≤ j → j + rest.length = ops.size → (∀ i, rest[i]? = ops[j + i]?) →
    listed.size = ops.size → (∀ k, k < ops.size → (listed.getD k false = true ↔ k < j)) → wpList P ops Q rest a w → wpAny P .any ops Q rest.length listed a w
  | [], j, listed, a, w, hm, hj, hl, hls, hx, h => by
    refine ⟨?_, h⟩
    cases hr : Region.ready .any ops listed with
    | nil => rfl
    | cons x xs =>
      exfalso
      have hx' : x ∈ Region.ready .any ops listed := by rw [hr]; exact List.mem_cons_self
      obtain ⟨hun, o, ho, _⟩ := mem_ready.1 hx'
      have hk : x < ops.size := (Array.getElem?_eq_some_iff.1 ho).1
      have := (hx x hk).2 (by simp at hj; omega)
      simp [Array.getD_eq_getD_getElem?, hls, hk] at this hun
      rw [this] at hun
      cases hun
  | o :: rest, j, listed, a, w, hm, hj, hl, hls, hx, h => by
    have ho : ops[j]? = some o := by simpa using (hl 0).symm
    have hjlt : j < ops.size := (Array.getElem?_eq_some_iff.1 ho).1
    have hun : ∀ k, k < ops.size → listed.getD k true = listed.getD k false := fun k hk => by simp [Array.getD_eq_getD_getElem?, hls, hk]
    refine ⟨fun h0 => ?_, fun i hi => ?_⟩
    · exfalso
      have := all_listed hB hls h0 j hjlt
      have := (hx j hjlt).1 this
      omega
    · obtain ⟨hiun, oi, hoi, hall⟩ := mem_ready.1 hi
      have hik : i < ops.size := (Array.getElem?_eq_some_iff.1 hoi).1
      have hge : j ≤ i := by
        rcases Nat.lt_or_ge i j with hlt | hge
        · have := (hx i hik).2 hlt
          rw [← hun i hik, hiun] at this
          cases this
        · exact hge
      have hij : i = j := by
        rcases Nat.lt_or_ge j i with hlt | hle
        · have := bef_listed hall (tailB_spec hT hoi (by omega) hlt)
          have := (hx j hjlt).1 this
          omega
        · omega
      subst hij
      obtain rfl : oi = o := by rw [ho] at hoi; exact (Option.some.inj hoi).symm
      have hn : ∀ k, k < ops.size → ((listed.setIfInBounds i true).getD k false = true ↔ k < i + 1) := by
        intro k hk
        by_cases hki : k = i
        · subst hki; simp [Array.getD_eq_getD_getElem?, hls, hk]
        · have := hx k hk
          simp [Array.getD_eq_getD_getElem?, Array.getElem?_setIfInBounds_ne (Ne.symm hki)] at this ⊢
          rw [this]
          omega
      have hrec := fun a' w' => wpAny_tail hB hT rest (i + 1) (listed.setIfInBounds i true) a' w' (by omega) (by simp at hj; omega) (fun k => by have := hl (k + 1); simpa [Nat.add_assoc, Nat.add_comm 1 k] using this) (by simp [hls]) hn
      unfold wpOp
      simp only [ho]
      unfold wpList at h
      split
      · rename_i hw
        rw [if_pos hw] at h
        rcases h with h | h
        · exact .inl (Oper.wp_mono (fun a' w' => hrec a' w') h)
        · exact .inr h
      · rename_i hw
        rw [if_neg hw] at h
        exact hrec _ _ h

theorem count_true_le {l : List Bool} : l.count true ≤ l.length := List.count_le_length

theorem wpAny_of_inv (hB : okT ops = true) {m : Nat} (hmle : m ≤ ops.size) (hT : tailB ops m = true) {ss : Nat → Slot} (hmono : ∀ k, k < m → (ss k).mono) {a : Act}
    (hob : ∀ (i : Nat) (o : Oper), i < m → ops[i]? = some o → ∀ u w, Ge w0 w → (∀ k, befB o k = true → (ss k).fact (u k) w) →
        if Region.wanted o (yielded ops (frameT ops ss u a i).tmps) then upT P (fun v w' => Ge w w' ∧ (ss i).ok v w') ((execOp (frameT ops ss u a i).eval o).run P w) else (ss i).ok undef w)
    (hfin : ∀ u w, Ge w0 w → (∀ k, k < m → (ss k).fact (u k) w) → wpList P ops Q (ops.toList.drop m) (frameT ops ss u a m) w) :
    ∀ (fuel : Nat) (listed : Array Bool) (a' : Act) (w' : World), listed.size = ops.size → (∀ k, listed.getD k false = true → k < m) → fuel + listed.toList.count true = ops.size → InvT ops ss a w0 listed a' w' → wpAny P .any ops Q fuel listed a' w' := by
  have hend : ∀ (fuel : Nat) (listed : Array Bool) (a' : Act) (w' : World), listed.size = ops.size → (∀ k, listed.getD k false = true → k < m) → (∀ k, k < m → listed.getD k false = true) → fuel + listed.toList.count true = ops.size → InvT ops ss a w0 listed a' w' → wpAny P .any ops Q fuel listed a' w' := by
    rintro fuel listed a' w' hls hin hall hcount ⟨u, hw, hde, hsz, h1, h2, hf⟩
    have : a' = frameT ops ss u a m := by
      have e1 : a'.tmps = (frameT ops ss u a m).tmps := by
        apply Array.ext_getElem?
        intro t
        by_cases hlt : t < a.tmps.size
        · by_cases hx : ∃ (k : Nat) (p : Oper), k < m ∧ ops[k]? = some p ∧ p.dst = some t
          · obtain ⟨k, p, hk, hp, hd⟩ := hx
            rw [h1 k p t hp (hall k hk) hd hlt, frameT_on hB ss u a t hlt k p hp hd _ hk]
          · rw [h2 t (fun k p hp hl hd => hx ⟨k, p, hin k hl, hp, hd⟩), frameT_off ss u a t _ (fun k p hk hp hd => hx ⟨k, p, hk, hp, hd⟩)]
        · rw [Array.getElem?_eq_none (by omega), Array.getElem?_eq_none (by rw [frameT_size]; omega)]
      have e2 : a'.defers = (frameT ops ss u a m).defers := by rw [hde, frameT_defers]
      cases a'
      cases hfr : frameT ops ss u a m
      rw [hfr] at e1 e2
      simp only at e1 e2
      rw [e1, e2]
    rw [this]
    have hx : ∀ k, k < ops.size → (listed.getD k false = true ↔ k < m) := fun k _ => ⟨hin k, hall k⟩
    have hcm : listed.toList.count true = m := by
      have : listed.toList = List.replicate m true ++ List.replicate (ops.size - m) false := by
        apply List.ext_getElem?
        intro k
        by_cases hk : k < ops.size
        · have := hx k hk
          rw [Array.getElem?_toList, Array.getElem?_eq_getElem (by omega)]
          simp [Array.getD_eq_getD_getElem?, hls, hk] at this
          by_cases hkm : k < m
          · rw [List.getElem?_append_left (by simpa using hkm)]
            simp [hkm, this]
          · rw [List.getElem?_append_right (by simp; omega)]
            have hlt : k - m < ops.size - m := by omega
            simp only [List.length_replicate]
            rw [List.getElem?_replicate, if_pos hlt]
            have : ¬ listed[k]'(by omega) = true := fun hh => hkm (this.1 hh)
            simpa using this
        · rw [List.getElem?_eq_none (by simp; omega), List.getElem?_eq_none (by simp; omega)]
      rw [this]
      simp [List.count_append, List.count_replicate]
    have hlen : fuel = (ops.toList.drop m).length := by simp; omega
    rw [hlen]
    exact wpAny_tail hB hT (ops.toList.drop m) m listed _ _ (Nat.le_refl _) (by simp; omega) (fun i => by rw [List.getElem?_drop, Array.getElem?_toList]) hls hx (hfin u w' hw (fun k hk => hf k (hall k hk)))
  intro fuel
  induction fuel with
  | zero =>
    intro listed a' w' hls hin hc hI
    refine hend 0 listed a' w' hls hin ?_ hc hI
    intro k hk
    rcases hb : listed.getD k false with _ | _
    · exfalso
      have := count_set (listed := listed) (i := k) (by omega) hb
      have hle := List.count_le_length (a := true) (l := (listed.setIfInBounds k true).toList)
      rw [Array.length_toList, Array.size_setIfInBounds] at hle
      omega
    · rfl
  | succ fuel ih =>
    intro listed a' w' hls hin hc hI
    by_cases hal : ∀ k, k < m → listed.getD k false = true
    · exact hend (fuel + 1) listed a' w' hls hin hal hc hI
    · refine ⟨fun h0 => ?_, fun i hi => ?_⟩
      · exact absurd (fun k hk => all_listed hB hls h0 k (by omega)) hal
      · obtain ⟨u, hw, hde, hsz, h1, h2, hf⟩ := hI
        obtain ⟨hun, o, ho, hall⟩ := mem_ready.1 hi
        have hk : i < ops.size := (Array.getElem?_eq_some_iff.1 ho).1
        have him : i < m := by
          rcases Nat.lt_or_ge i m with h | h
          · exact h
          · exact absurd (fun k hk => bef_listed hall (tailB_spec hT ho h (by omega))) hal
        have hjn : listed.getD i false = false := by
          simp [Array.getD_eq_getD_getElem?, hls, hk] at hun ⊢
          exact hun
        have hbl : ∀ k, befB o k = true → listed.getD k false = true ∧ k < i := by
          intro k hk'
          obtain ⟨e, he, heb⟩ := Array.any_eq_true'.1 hk'
          simp only [Bool.and_eq_true, beq_iff_eq] at heb
          obtain ⟨hb, rfl⟩ := heb
          exact ⟨hall e he hb, ((okT_spec hB).2 i o ho).1 e he hb⟩
        have hlook := fun t ht => InvT.look (ss := ss) hB ho hbl hjn hsz h1 h2 t ht
        have hex : execOp a'.eval o = execOp (frameT ops ss u a i).eval o := execOp_congr o (fun cs b => (okT_spec hB).1 i o cs b ho) fun x hx => by
          cases x with
          | tmp t => exact at_same (hlook t (mem_looks_operand hx))
          | _ => rfl
        have hwa := wanted_same (ops := ops) (o := o) hlook
        have hO := hob i o him ho u w' hw (fun k hk' => hf k (hbl k hk').1)
        rw [← hex, ← hwa] at hO
        refine wpOp_of_upT ho (R := fun v w2 => Ge w' w2 ∧ (ss i).ok v w2) (fun v w2 hr => ?_) ?_
        · refine ih _ _ _ (by simp [hls]) ?_ ?_ (InvT.step hB hmono hin hls ho hjn hw hde hsz h1 h2 hf hr.1 hr.2)
          · intro k hk'
            by_cases hki : k = i
            · subst hki; exact him
            · refine hin k ?_
              simpa [Array.getD_eq_getD_getElem?, Array.getElem?_setIfInBounds_ne (Ne.symm hki)] using hk'
          · rw [count_set (by omega) hjn]
            omega
        · split
          · rename_i hw'; rw [if_pos hw'] at hO; exact hO
          · rename_i hw'; rw [if_neg hw'] at hO; exact ⟨Ge.refl _, hO⟩

theorem Ge.drawn (w : World) (n : Nat) : Ge w { w with drawn := n } := ⟨rfl, rfl, rfl, Nat.le_refl _, fun _ _ => rfl⟩

/-- THE RULE: the first m operations in whatever order they come; the others behind them, one by one -/
theorem wp_region_TT {id : Nat} {l : List Oper} {a : Act} (m : Nat) (hm : P.follows .mixedOrders = true) (hB : okT l.toArray = true) (hle : m ≤ l.length) (hT : tailB l.toArray m = true)
    (h : wpT P l.toArray (wpList P l.toArray Q (l.drop m)) w0 0 (l.take m) (fun _ => a) (fun _ _ _ => True)) : (Code.region id l.toArray true).wp P Q a w0 := by
  have hlen : (l.take m).length = m := by simp; omega
  obtain ⟨ss, _, hmono, hob, hfin⟩ := wpT_slots (ops := l.toArray) a (l.take m) 0 (fun _ => .inl undef) _ _ (fun i hi => by rw [List.getElem?_take, if_pos (by omega)]; simp) (fun _ => rfl) (fun _ _ _ h => absurd h (by omega)) (fun _ h => absurd h (by omega)) h
  rw [hlen, Nat.zero_add] at hmono hob hfin
  refine wp_region_any hm ?_
  refine wpAny_of_inv (ss := ss) (a := a) (w0 := w0) hB (m := m) (by simpa using hle) hT hmono (fun i o hi ho u w hw hf => hob i o (Nat.zero_le _) hi ho (fun k hk => ?_) u w hw hf) (fun u w hw hf => ?_) _ _ _ _ (by simp) ?_ ?_ ?_
  · obtain ⟨e, he, heb⟩ := Array.any_eq_true'.1 hk
    simp only [Bool.and_eq_true, beq_iff_eq] at heb
    obtain ⟨hb, rfl⟩ := heb
    exact ((okT_spec hB).2 i o ho).1 e he hb
  · exact hfin u w hw hf
  · intro k hl
    rw [Array.getD_eq_getD_getElem?, Array.getElem?_replicate] at hl
    split at hl <;> simp at hl
  · simp [List.count_replicate]
  · refine ⟨fun _ => undef, Ge.drawn _ _, rfl, rfl, ?_, fun _ _ => rfl, ?_⟩
    · intro k o d ho hl
      rw [Array.getD_eq_getD_getElem?, Array.getElem?_replicate] at hl
      split at hl <;> simp at hl
    · intro k hl
      rw [Array.getD_eq_getD_getElem?, Array.getElem?_replicate] at hl
      split at hl <;> simp at hl

/-- all of them in whatever order -/
theorem wp_region_T {id : Nat} {l : List Oper} {a : Act} (hm : P.follows .mixedOrders = true) (hB : okT l.toArray = true)
    (h : wpT P l.toArray (Q .normal) w0 0 l (fun _ => a) (fun _ _ _ => True)) : (Code.region id l.toArray true).wp P Q a w0 := by
  refine wp_region_TT l.length hm hB (Nat.le_refl _) ?_ ?_
  · unfold tailB
    refine List.all_eq_true.2 fun i hi => ?_
    have : i < l.length := by simpa using hi
    simp [this]
  · rw [List.take_length, List.drop_length]
    exact h
end
end Go.Proofs.YtmhibpmgnicolaaDoor.Dr
