/-
  A region that draws its order, where some operations ('the chain') turn memory one after the other and all others only let it grow: verified once, in the order of the text.
  R: what every operation keeps (a preorder that holds of growth). The chain's operations are shown from a state that they hand on; all others from any world that R allows.
-/
import Derived.Test.YtmhibpmgnicolaaDoorDraw
namespace Go.Proofs.YtmhibpmgnicolaaDoor.Dr
open Go.RowKit

/-- k comes up ahead of o, by n steps or fewer -/
def reach (ops : Array Oper) : Nat → Oper → Nat → Bool
  | 0, o, k => befB o k
  | n + 1, o, k => befB o k || (List.range ops.size).any fun j => befB o j && match ops[j]? with
    | none => false
    | some p => reach ops n p k
/-- the chain's operations come up one after the other -/
def chainB (ops : Array Oper) (C : List Nat) : Bool := C.all fun i => match ops[i]? with
  | none => false
  | some o => C.all fun k => !decide (k < i) || reach ops 3 o k

theorem reach_listed {ops : Array Oper} {listed : Array Bool} (hcl : ∀ (q : Nat) (p : Oper), listed.getD q false = true → ops[q]? = some p → ∀ k, befB p k = true → listed.getD k false = true) :
    ∀ (n : Nat) (o : Oper) (k : Nat), (∀ k, befB o k = true → listed.getD k false = true) → reach ops n o k = true → listed.getD k false = true
  | 0, o, k, h, hr => h k hr
  | n + 1, o, k, h, hr => by
    rcases Bool.or_eq_true_iff.1 hr with h1 | h1
    · exact h k h1
    · obtain ⟨j, _, h4⟩ := List.any_eq_true.1 h1
      rw [Bool.and_eq_true] at h4
      cases hp : ops[j]? with
      | none => rw [hp] at h4; exact absurd h4.2 (by simp)
      | some p =>
        rw [hp] at h4
        exact reach_listed hcl n p k (fun k' hk' => hcl j p (h j h4.1) hp k' hk') h4.2

structure Rel (R : World → World → Prop) : Prop where
  trans : ∀ a b c, R a b → R b c → R a c
  ge : ∀ a b, Ge a b → R a b

def Slot.monoR (R : World → World → Prop) (s : Slot) : Prop := match s with | .inl _ => True | .inr T => ∀ v w w', R w w' → T v w → T v w'
theorem Slot.fact_monoR {R : World → World → Prop} {s : Slot} (hm : s.monoR R) {v : Value} {w w' : World} (hw : R w w') (h : s.fact v w) : s.fact v w' := by
  cases s with
  | inl v' => trivial
  | inr T => exact hm v w w' hw h

section
variable (P : Program) (ops : Array Oper) (K : Act → World → Prop) (w0 : World) (R : World → World → Prop) (C : List Nat)

def wpC : Nat → List Oper → ((Nat → Value) → Act) → (Nat → (Nat → Value) → World → Prop) → ((Nat → Value) → World → Prop) → Prop
  | j, [], fr, F, S => ∀ u w, R w0 w → (∀ k, k < j → F k u w) → S u w → K (fr u) w
  | j, o :: rest, fr, F, S => if C.contains j then
      ∃ (s : Slot) (T : Value → World → Prop), s.monoR R ∧ (∀ v w w', Ge w w' → T v w → T v w') ∧
        (∀ u w, R w0 w → (∀ k, befB o k = true → F k u w) → S u w →
          if Region.wanted o (yielded ops (fr u).tmps) then upT P (fun v w' => R w w' ∧ s.ok v w' ∧ T v w') ((execOp (fr u).eval o).run P w) else s.ok undef w ∧ T undef w) ∧
        wpC (j + 1) rest (fun u => (fr u).put o.dst (s.fill (u j))) (fun k u w => if k = j then s.fact (u j) w else F k u w) (fun u w => T (u j) w)
    else
      ∃ s : Slot, s.monoR R ∧
        (∀ u w, R w0 w → (∀ k, befB o k = true → F k u w) →
          if Region.wanted o (yielded ops (fr u).tmps) then upT P (fun v w' => Ge w w' ∧ s.ok v w') ((execOp (fr u).eval o).run P w) else s.ok undef w) ∧
        wpC (j + 1) rest (fun u => (fr u).put o.dst (s.fill (u j))) (fun k u w => if k = j then s.fact (u j) w else F k u w) S

/-- the chain's state when the first j operations of the text are behind -/
def stt (S0 : World → Prop) (T : Nat → Value → World → Prop) : Nat → (Nat → Value) → World → Prop
  | 0 => fun _ => S0
  | j + 1 => fun u => if C.contains j then T j (u j) else stt S0 T j u
end

section
variable {P : Program} {ops : Array Oper} {Q : Exit → Act → World → Prop} {K : Act → World → Prop} {w0 : World} {R : World → World → Prop} {C : List Nat}

theorem wpC_det {j : Nat} {o : Oper} {rest : List Oper} {fr : (Nat → Value) → Act} {F : Nat → (Nat → Value) → World → Prop} {S : (Nat → Value) → World → Prop} (v : Value) (hc : C.contains j = false)
    (h1 : ∀ u w, R w0 w → (∀ k, befB o k = true → F k u w) →
        if Region.wanted o (yielded ops (fr u).tmps) then upT P (fun v' w' => Ge w w' ∧ v' = v) ((execOp (fr u).eval o).run P w) else undef = v)
    (h2 : wpC P ops K w0 R C (j + 1) rest (fun u => (fr u).put o.dst v) (fun k u w => if k = j then True else F k u w) S) :
    wpC P ops K w0 R C j (o :: rest) fr F S := by
  unfold wpC
  rw [hc]
  exact ⟨.inl v, trivial, h1, h2⟩
theorem wpC_non {j : Nat} {o : Oper} {rest : List Oper} {fr : (Nat → Value) → Act} {F : Nat → (Nat → Value) → World → Prop} {S : (Nat → Value) → World → Prop} (T : Value → World → Prop) (hc : C.contains j = false)
    (hm : ∀ v w w', R w w' → T v w → T v w')
    (h1 : ∀ u w, R w0 w → (∀ k, befB o k = true → F k u w) →
        if Region.wanted o (yielded ops (fr u).tmps) then upT P (fun v' w' => Ge w w' ∧ T v' w') ((execOp (fr u).eval o).run P w) else T undef w)
    (h2 : wpC P ops K w0 R C (j + 1) rest (fun u => (fr u).put o.dst (u j)) (fun k u w => if k = j then T (u j) w else F k u w) S) :
    wpC P ops K w0 R C j (o :: rest) fr F S := by
  unfold wpC
  rw [hc]
  exact ⟨.inr T, hm, h1, h2⟩
/-- an operation of the chain that yields what is known ahead -/
theorem wpC_chain {j : Nat} {o : Oper} {rest : List Oper} {fr : (Nat → Value) → Act} {F : Nat → (Nat → Value) → World → Prop} {S : (Nat → Value) → World → Prop} (v : Value) (T : World → Prop) (hc : C.contains j = true)
    (hT : ∀ w w', Ge w w' → T w → T w')
    (h1 : ∀ u w, R w0 w → (∀ k, befB o k = true → F k u w) → S u w →
        if Region.wanted o (yielded ops (fr u).tmps) then upT P (fun v' w' => R w w' ∧ v' = v ∧ T w') ((execOp (fr u).eval o).run P w) else undef = v ∧ T w)
    (h2 : wpC P ops K w0 R C (j + 1) rest (fun u => (fr u).put o.dst v) (fun k u w => if k = j then True else F k u w) (fun _ w => T w)) :
    wpC P ops K w0 R C j (o :: rest) fr F S := by
  unfold wpC
  rw [if_pos hc]
  exact ⟨.inl v, fun _ => T, trivial, fun _ => hT, h1, h2⟩
/-- an operation of the chain whose value the state knows -/
theorem wpC_chainV {j : Nat} {o : Oper} {rest : List Oper} {fr : (Nat → Value) → Act} {F : Nat → (Nat → Value) → World → Prop} {S : (Nat → Value) → World → Prop} (T : Value → World → Prop) (hc : C.contains j = true)
    (hT : ∀ v w w', Ge w w' → T v w → T v w')
    (h1 : ∀ u w, R w0 w → (∀ k, befB o k = true → F k u w) → S u w →
        if Region.wanted o (yielded ops (fr u).tmps) then upT P (fun v' w' => R w w' ∧ T v' w') ((execOp (fr u).eval o).run P w) else T undef w)
    (h2 : wpC P ops K w0 R C (j + 1) rest (fun u => (fr u).put o.dst (u j)) (fun k u w => if k = j then True else F k u w) (fun u w => T (u j) w)) :
    wpC P ops K w0 R C j (o :: rest) fr F S := by
  unfold wpC
  rw [if_pos hc]
  refine ⟨.inr fun _ _ => True, T, fun _ _ _ _ _ => trivial, hT, fun u w a b c => ?_, h2⟩
  have := h1 u w a b c
  split
  · rename_i hw
    rw [if_pos hw] at this
    revert this
    generalize (execOp (fr u).eval o).run P w = r
    intro this
    cases r with
    | ok n w' =>
      cases n <;> simp only [upT] at this ⊢
      case value v => exact ⟨this.1, trivial, this.2⟩
      case skip => exact ⟨this.1, trivial, this.2⟩
      case enter f args => exact this.mono fun e w'' ⟨v, he, hr⟩ => ⟨v, he, hr.1, trivial, hr.2⟩
    | halt x w' => exact this
  · rename_i hw
    rw [if_neg hw] at this
    exact ⟨trivial, this⟩

theorem stt_ge {S0 : World → Prop} {T : Nat → Value → World → Prop} (h0 : ∀ w w', Ge w w' → S0 w → S0 w') (m : Nat) (hT : ∀ j, j < m → ∀ v w w', Ge w w' → T j v w → T j v w') : ∀ (j : Nat), j ≤ m → ∀ u w w', Ge w w' → stt C S0 T j u w → stt C S0 T j u w'
  | 0, _, _, w, w', hg, h => h0 w w' hg h
  | j + 1, hj, u, w, w', hg, h => by
    unfold stt at h ⊢
    split
    · rename_i hc
      rw [if_pos hc] at h
      exact hT j (by omega) _ _ _ hg h
    · rename_i hc
      rw [if_neg hc] at h
      exact stt_ge h0 m hT j (by omega) u w w' hg h
theorem stt_const {S0 : World → Prop} {T : Nat → Value → World → Prop} {c : Nat} {u : Nat → Value} : ∀ (d : Nat), (∀ k, c ≤ k → k < c + d → C.contains k = false) → stt C S0 T (c + d) u = stt C S0 T c u
  | 0, _ => rfl
  | d + 1, h => by
    rw [← Nat.add_assoc]
    show (if C.contains (c + d) then _ else _) = _
    rw [h (c + d) (by omega) (by omega)]
    exact stt_const d (fun k h1 h2 => h k h1 (by omega))
theorem stt_congr {S0 : World → Prop} {T : Nat → Value → World → Prop} {u u' : Nat → Value} : ∀ (j : Nat), (∀ k, k < j → C.contains k = true → u k = u' k) → stt C S0 T j u = stt C S0 T j u'
  | 0, _ => rfl
  | j + 1, h => by
    unfold stt
    split
    · rename_i hc
      rw [h j (by omega) hc]
    · exact stt_congr j (fun k hk => h k (by omega))

theorem wpC_slots (a : Act) {S0 : World → Prop} : ∀ (rest : List Oper) (j : Nat) (ss : Nat → Slot) (T : Nat → Value → World → Prop) (fr : (Nat → Value) → Act) (F : Nat → (Nat → Value) → World → Prop) (S : (Nat → Value) → World → Prop),
    (∀ i, i < rest.length → rest[i]? = ops[j + i]?) → (∀ u, fr u = frameT ops ss u a j) → (∀ k u w, k < j → (F k u w ↔ (ss k).fact (u k) w)) → (∀ k, k < j → (ss k).monoR R) → (∀ k, k < j → ∀ v w w', Ge w w' → T k v w → T k v w') →
    (∀ u w, S u w ↔ stt C S0 T j u w) → wpC P ops K w0 R C j rest fr F S →
    ∃ (ss' : Nat → Slot) (T' : Nat → Value → World → Prop), (∀ k, k < j → ss' k = ss k) ∧ (∀ k, k < j → T' k = T k) ∧ (∀ k, k < j + rest.length → (ss' k).monoR R) ∧ (∀ k, k < j + rest.length → ∀ v w w', Ge w w' → T' k v w → T' k v w') ∧
      (∀ (i : Nat) (o : Oper), j ≤ i → i < j + rest.length → ops[i]? = some o → (∀ k, befB o k = true → k < i) → ∀ u w, R w0 w → (∀ k, befB o k = true → (ss' k).fact (u k) w) →
        if C.contains i then stt C S0 T' i u w → if Region.wanted o (yielded ops (frameT ops ss' u a i).tmps) then upT P (fun v w' => R w w' ∧ (ss' i).ok v w' ∧ T' i v w') ((execOp (frameT ops ss' u a i).eval o).run P w) else (ss' i).ok undef w ∧ T' i undef w
        else if Region.wanted o (yielded ops (frameT ops ss' u a i).tmps) then upT P (fun v w' => Ge w w' ∧ (ss' i).ok v w') ((execOp (frameT ops ss' u a i).eval o).run P w) else (ss' i).ok undef w) ∧
      (∀ u w, R w0 w → (∀ k, k < j + rest.length → (ss' k).fact (u k) w) → stt C S0 T' (j + rest.length) u w → K (frameT ops ss' u a (j + rest.length)) w)
  | [], j, ss, T, fr, F, S, hl, hfr, hF, hm, hT, hS, h => by
    refine ⟨ss, T, fun _ _ => rfl, fun _ _ => rfl, fun k hk => hm k (by simpa using hk), fun k hk => hT k (by simpa using hk), fun i o hji hi => absurd hi (by simp; omega), fun u w hw hf hs => ?_⟩
    have := h u w hw (fun k hk => (hF k u w hk).2 (hf k (by simpa using hk))) ((hS u w).2 hs)
    rwa [hfr] at this
  | o :: rest, j, ss, T, fr, F, S, hl, hfr, hF, hm, hT, hS, h => by
    have ho : ops[j]? = some o := by simpa using (hl 0 (by simp)).symm
    obtain ⟨s, Tj, S2, hsm, hTj, h1, hS2, h2⟩ : ∃ (s : Slot) (Tj : Value → World → Prop) (S2 : (Nat → Value) → World → Prop), s.monoR R ∧ (∀ v w w', Ge w w' → Tj v w → Tj v w') ∧
        (∀ u w, R w0 w → (∀ k, befB o k = true → F k u w) →
          if C.contains j then S u w → if Region.wanted o (yielded ops (fr u).tmps) then upT P (fun v w' => R w w' ∧ s.ok v w' ∧ Tj v w') ((execOp (fr u).eval o).run P w) else s.ok undef w ∧ Tj undef w
          else if Region.wanted o (yielded ops (fr u).tmps) then upT P (fun v w' => Ge w w' ∧ s.ok v w') ((execOp (fr u).eval o).run P w) else s.ok undef w) ∧
        (∀ u w, S2 u w ↔ if C.contains j then Tj (u j) w else S u w) ∧
        wpC P ops K w0 R C (j + 1) rest (fun u => (fr u).put o.dst (s.fill (u j))) (fun k u w => if k = j then s.fact (u j) w else F k u w) S2 := by
      unfold wpC at h
      by_cases hc : C.contains j = true
      · rw [if_pos hc] at h
        obtain ⟨s, Tj, a1, a2, a3, a4⟩ := h
        exact ⟨s, Tj, _, a1, a2, fun u w x y => by rw [if_pos hc]; exact a3 u w x y, fun u w => by rw [if_pos hc], a4⟩
      · rw [if_neg hc] at h
        obtain ⟨s, a1, a3, a4⟩ := h
        exact ⟨s, fun _ _ => True, _, a1, fun _ _ _ _ _ => trivial, fun u w x y => by rw [if_neg hc]; exact a3 u w x y, fun u w => by rw [if_neg hc], a4⟩
    obtain ⟨sn, hsn⟩ : ∃ sn : Nat → Slot, sn = fun k => if k = j then s else ss k := ⟨_, rfl⟩
    have hold : ∀ k, k < j → sn k = ss k := fun k hk => by rw [hsn]; simp; omega
    have hnew : sn j = s := by rw [hsn]; simp
    obtain ⟨Tn, hTn⟩ : ∃ Tn : Nat → Value → World → Prop, Tn = fun k => if k = j then Tj else T k := ⟨_, rfl⟩
    have holdT : ∀ k, k < j → Tn k = T k := fun k hk => by rw [hTn]; simp; omega
    have hnewT : Tn j = Tj := by rw [hTn]; simp
    have hfe : ∀ u i, i ≤ j → frameT ops sn u a i = frameT ops ss u a i := by
      intro u i
      induction i with
      | zero => intro _; rfl
      | succ i ih => intro hi; rw [frameT, frameT, ih (by omega), hold i (by omega)]
    have hst : ∀ (T1 T2 : Nat → Value → World → Prop) (i : Nat), (∀ k, k < i → T1 k = T2 k) → stt C S0 T1 i = stt C S0 T2 i := by
      intro T1 T2 i
      induction i with
      | zero => intro _; rfl
      | succ i ih => intro hh; unfold stt; rw [ih (fun k hk => hh k (by omega)), hh i (by omega)]
    obtain ⟨ss', T', e1, e1T, e2, e2T, e3, e4⟩ := wpC_slots a (S0 := S0) rest (j + 1) sn Tn _ _ _ (fun i hi => by have := hl (i + 1) (by simp; omega); simpa [Nat.add_assoc, Nat.add_comm 1 i] using this)
      (fun u => by rw [frameT, hfe u j (Nat.le_refl _), ← hfr, ho, hnew]; rfl)
      (fun k u w hk => by
        by_cases hkj : k = j
        · subst hkj; simp [hnew]
        · simp only [hkj, if_false]; rw [hold k (by omega)]; exact hF k u w (by omega))
      (fun k hk => by
        by_cases hkj : k = j
        · subst hkj; rw [hnew]; exact hsm
        · rw [hold k (by omega)]; exact hm k (by omega))
      (fun k hk => by
        by_cases hkj : k = j
        · subst hkj; rw [hnewT]; exact hTj
        · rw [holdT k (by omega)]; exact hT k (by omega))
      (fun u w => by
        rw [hS2]
        unfold stt
        split
        · rw [hnewT]
        · rw [hS, hst T Tn j (fun k hk => (holdT k hk).symm)]) h2
    have hfe' : ∀ u i, i ≤ j + 1 → frameT ops ss' u a i = frameT ops sn u a i := by
      intro u i
      induction i with
      | zero => intro _; rfl
      | succ i ih => intro hi; rw [frameT, frameT, ih (by omega), e1 i (by omega)]
    have hlen : j + (o :: rest).length = j + 1 + rest.length := by simp; omega
    refine ⟨ss', T', fun k hk => (e1 k (by omega)).trans (hold k hk), fun k hk => (e1T k (by omega)).trans (holdT k hk), fun k hk => e2 k (by omega), fun k hk => e2T k (by omega), fun i p hji hi hp hb u w hw hf => ?_, fun u w hw hf hs => ?_⟩
    · by_cases hij : i = j
      · subst hij
        obtain rfl : p = o := by rw [ho] at hp; exact (Option.some.inj hp).symm
        have := h1 u w hw (fun k hk => by
          have hkj := hb k hk
          have h3 := hf k hk
          rw [e1 k (by omega), hold k hkj] at h3
          exact (hF k u w hkj).2 h3)
        rw [hfe' u i (by omega), hfe u i (Nat.le_refl _), ← hfr u, e1 i (by omega), hnew, e1T i (by omega), hnewT]
        split
        · rename_i hc
          rw [if_pos hc] at this
          intro hs
          refine this ((hS u w).2 ?_)
          rwa [hst T' T i (fun k hk => (e1T k (by omega)).trans (holdT k hk))] at hs
        · rename_i hc
          rw [if_neg hc] at this
          exact this
      · exact e3 i p (by omega) (by omega) hp hb u w hw hf
    · have := e4 u w hw (fun k hk => hf k (by omega))
      rw [hlen]
      exact this (by rwa [hlen] at hs)

/-- between two operations -/
def InvC (R : World → World → Prop) (C : List Nat) (ops : Array Oper) (ss : Nat → Slot) (S0 : World → Prop) (T : Nat → Value → World → Prop) (a : Act) (w0 : World) (listed : Array Bool) (a' : Act) (w' : World) : Prop :=
  ∃ (u : Nat → Value) (c : Nat), R w0 w' ∧ a'.defers = a.defers ∧ a'.tmps.size = a.tmps.size ∧
    (∀ (k : Nat) o d, ops[k]? = some o → listed.getD k false = true → o.dst = some d → d < a.tmps.size → a'.tmps[d]? = some ((ss k).fill (u k))) ∧
    (∀ t, (∀ (k : Nat) o, ops[k]? = some o → listed.getD k false = true → o.dst ≠ some t) → a'.tmps[t]? = a.tmps[t]?) ∧
    (∀ k, listed.getD k false = true → (ss k).fact (u k) w') ∧
    c ≤ ops.size ∧ (∀ k, C.contains k = true → (listed.getD k false = true ↔ k < c)) ∧ stt C S0 T c u w'

theorem frame_step (hB : okT ops = true) {ss : Nat → Slot} {a a' : Act} {listed : Array Bool} (hls : listed.size = ops.size) {j : Nat} {o : Oper} (ho : ops[j]? = some o)
    {u : Nat → Value} (hsz : a'.tmps.size = a.tmps.size)
    (h1 : ∀ (k : Nat) o d, ops[k]? = some o → listed.getD k false = true → o.dst = some d → d < a.tmps.size → a'.tmps[d]? = some ((ss k).fill (u k)))
    (h2 : ∀ t, (∀ (k : Nat) o, ops[k]? = some o → listed.getD k false = true → o.dst ≠ some t) → a'.tmps[t]? = a.tmps[t]?) {v : Value} {w2 : World} (hv : (ss j).ok v w2) :
    (∀ (k : Nat) p d, ops[k]? = some p → (listed.setIfInBounds j true).getD k false = true → p.dst = some d → d < a.tmps.size → (a'.put o.dst v).tmps[d]? = some ((ss k).fill (if k = j then v else u k))) ∧
    (∀ t, (∀ (k : Nat) p, ops[k]? = some p → (listed.setIfInBounds j true).getD k false = true → p.dst ≠ some t) → (a'.put o.dst v).tmps[t]? = a.tmps[t]?) := by
  have hj : j < ops.size := (Array.getElem?_eq_some_iff.1 ho).1
  have hget : ∀ k, (listed.setIfInBounds j true).getD k false = if k = j then true else listed.getD k false := by
    intro k
    by_cases hk : k = j
    · subst hk; simp [Array.getD_eq_getD_getElem?, hls, hj]
    · simp [Array.getD_eq_getD_getElem?, Array.getElem?_setIfInBounds_ne (Ne.symm hk), hk]
  refine ⟨?_, ?_⟩
  · intro k p d hp hl hd hdl
    by_cases hk : k = j
    · subst hk
      obtain rfl : p = o := by rw [ho] at hp; exact (Option.some.inj hp).symm
      rw [hd]
      simp only [if_true]
      rw [put_at_eq _ _ _ (hsz.symm ▸ hdl), Slot.ok_fill hv]
    · rw [hget, if_neg hk] at hl
      simp only [hk, if_false]
      rw [put_at_ne _ _ _ _ ((((okT_spec hB).2 j o ho).2 k p d hp hd hk).1)]
      exact h1 k p d hp hl hd hdl
  · intro t ht
    rw [put_at_ne _ _ _ _ (ht j o ho (by rw [hget]; simp))]
    refine h2 t (fun k p hp hl => ht k p hp ?_)
    rw [hget]; split
    · rfl
    · exact hl

theorem wpAny_of_invC (hR : Rel R) (hB : okT ops = true) (hC : chainB ops C = true) {ss : Nat → Slot} {S0 : World → Prop} {T : Nat → Value → World → Prop} (h0 : ∀ w w', Ge w w' → S0 w → S0 w')
    (hmono : ∀ k, k < ops.size → (ss k).monoR R) (hTg : ∀ k, k < ops.size → ∀ v w w', Ge w w' → T k v w → T k v w') {a : Act}
    (hob : ∀ (i : Nat) (o : Oper), i < ops.size → ops[i]? = some o → ∀ u w, R w0 w → (∀ k, befB o k = true → (ss k).fact (u k) w) →
        if C.contains i then stt C S0 T i u w → if Region.wanted o (yielded ops (frameT ops ss u a i).tmps) then upT P (fun v w' => R w w' ∧ (ss i).ok v w' ∧ T i v w') ((execOp (frameT ops ss u a i).eval o).run P w) else (ss i).ok undef w ∧ T i undef w
        else if Region.wanted o (yielded ops (frameT ops ss u a i).tmps) then upT P (fun v w' => Ge w w' ∧ (ss i).ok v w') ((execOp (frameT ops ss u a i).eval o).run P w) else (ss i).ok undef w)
    (hfin : ∀ u w, R w0 w → (∀ k, k < ops.size → (ss k).fact (u k) w) → stt C S0 T ops.size u w → Q .normal (frameT ops ss u a ops.size) w) :
    ∀ (fuel : Nat) (listed : Array Bool) (a' : Act) (w' : World), listed.size = ops.size → (∀ (q : Nat) (p : Oper), listed.getD q false = true → ops[q]? = some p → ∀ k, befB p k = true → listed.getD k false = true) →
      fuel + listed.toList.count true = ops.size → InvC R C ops ss S0 T a w0 listed a' w' → wpAny P .any ops Q fuel listed a' w' := by
  intro fuel
  induction fuel with
  | zero =>
    intro listed a' w' hls hcl hc hI
    have hall : ∀ k, k < ops.size → listed.getD k false = true := by
      intro k hk
      rcases hb : listed.getD k false with _ | _
      · exfalso
        have := count_set (listed := listed) (i := k) (by omega) hb
        have hle := List.count_le_length (a := true) (l := (listed.setIfInBounds k true).toList)
        rw [Array.length_toList, Array.size_setIfInBounds] at hle
        omega
      · rfl
    refine ⟨?_, ?_⟩
    · cases hr : Region.ready .any ops listed with
      | nil => rfl
      | cons x xs =>
        exfalso
        have hx' : x ∈ Region.ready .any ops listed := by rw [hr]; exact List.mem_cons_self
        obtain ⟨hun, o, ho, _⟩ := mem_ready.1 hx'
        have hk : x < ops.size := (Array.getElem?_eq_some_iff.1 ho).1
        have := hall x hk
        simp [Array.getD_eq_getD_getElem?, hls, hk] at this hun
        rw [this] at hun
        cases hun
    · obtain ⟨u, c, hw, hde, hsz, h1, h2, hf, hcs, hcc, hst⟩ := hI
      have : a' = frameT ops ss u a ops.size := by
        have e1 : a'.tmps = (frameT ops ss u a ops.size).tmps := by
          apply Array.ext_getElem?
          intro t
          by_cases hlt : t < a.tmps.size
          · by_cases hx : ∃ (k : Nat) (p : Oper), k < ops.size ∧ ops[k]? = some p ∧ p.dst = some t
            · obtain ⟨k, p, hk, hp, hd⟩ := hx
              rw [h1 k p t hp (hall k hk) hd hlt, frameT_on hB ss u a t hlt k p hp hd _ hk]
            · rw [h2 t (fun k p hp hl hd => hx ⟨k, p, (Array.getElem?_eq_some_iff.1 hp).1, hp, hd⟩), frameT_off ss u a t _ (fun k p hk hp hd => hx ⟨k, p, hk, hp, hd⟩)]
          · rw [Array.getElem?_eq_none (by omega), Array.getElem?_eq_none (by rw [frameT_size]; omega)]
        have e2 : a'.defers = (frameT ops ss u a ops.size).defers := by rw [hde, frameT_defers]
        cases a'
        cases hfr : frameT ops ss u a ops.size
        rw [hfr] at e1 e2
        simp only at e1 e2
        rw [e1, e2]
      rw [this]
      refine hfin u w' hw (fun k hk => hf k (hall k hk)) ?_
      have := stt_const (C := C) (S0 := S0) (T := T) (c := c) (u := u) (ops.size - c) (fun k hk1 hk2 => by
        rcases hb : C.contains k with _ | _
        · rfl
        · have := (hcc k hb).1 (hall k (by omega))
          omega)
      rw [show c + (ops.size - c) = ops.size by omega] at this
      rw [this]
      exact hst
  | succ fuel ih =>
    intro listed a' w' hls hcl hc hI
    refine ⟨fun h0' => ?_, fun i hi => ?_⟩
    · exfalso
      have hall := all_listed hB hls h0'
      have : listed.toList.count true = listed.toList.length := by
        rw [List.count_eq_length]
        intro b hb
        obtain ⟨k, hk, e⟩ := List.getElem_of_mem hb
        have := hall k (by simp at hk; omega)
        simp at hk
        simp [Array.getD_eq_getD_getElem?, hk] at this
        simp at e
        rw [← e, this]
      rw [Array.length_toList] at this
      omega
    · obtain ⟨u, c, hw, hde, hsz, h1, h2, hf, hcs, hcc, hst⟩ := hI
      obtain ⟨hun, o, ho, hall⟩ := mem_ready.1 hi
      have hk : i < ops.size := (Array.getElem?_eq_some_iff.1 ho).1
      have hjn : listed.getD i false = false := by
        simp [Array.getD_eq_getD_getElem?, hls, hk] at hun ⊢
        exact hun
      have hbl : ∀ k, befB o k = true → listed.getD k false = true ∧ k < i := by
        intro k hk'
        obtain ⟨e, he, heb⟩ := Array.any_eq_true'.1 hk'
        simp only [Bool.and_eq_true, beq_iff_eq] at heb
        obtain ⟨hb, rfl⟩ := heb
        exact ⟨hall e he hb, ((okT_spec hB).2 i o ho).1 e he hb⟩
      have hlook := fun t ht => InvT.look (ss := ss) hB ho hbl hjn hsz h1 h2 t ht
      have hex : execOp a'.eval o = execOp (frameT ops ss u a i).eval o := execOp_congr o (fun cs b => (okT_spec hB).1 i o cs b ho) fun x hx => by
        cases x with
        | tmp t => exact at_same (hlook t (mem_looks_operand hx))
        | _ => rfl
      have hwa := wanted_same (ops := ops) (o := o) hlook
      have hO := hob i o hk ho u w' hw (fun k hk' => hf k (hbl k hk').1)
      rw [← hex, ← hwa] at hO
      have hget : ∀ k, (listed.setIfInBounds i true).getD k false = if k = i then true else listed.getD k false := by
        intro k
        by_cases hk' : k = i
        · subst hk'; simp [Array.getD_eq_getD_getElem?, hls, hk]
        · simp [Array.getD_eq_getD_getElem?, Array.getElem?_setIfInBounds_ne (Ne.symm hk'), hk']
      have hcl2 : ∀ (q : Nat) (p : Oper), (listed.setIfInBounds i true).getD q false = true → ops[q]? = some p → ∀ k, befB p k = true → (listed.setIfInBounds i true).getD k false = true := by
        intro q p hq hp k hk'
        rw [hget]
        split
        · rfl
        · by_cases hqi : q = i
          · subst hqi
            obtain rfl : p = o := by rw [ho] at hp; exact (Option.some.inj hp).symm
            exact (hbl k hk').1
          · rw [hget, if_neg hqi] at hq
            exact hcl q p hq hp k hk'
      have hcount : fuel + (listed.setIfInBounds i true).toList.count true = ops.size := by
        rw [count_set (by omega) hjn]
        omega
      have hfact : ∀ (v : Value) (w2 : World), R w' w2 → (ss i).ok v w2 → ∀ k, (listed.setIfInBounds i true).getD k false = true → (ss k).fact (if k = i then v else u k) w2 := by
        intro v w2 hg hv k hl
        by_cases hki : k = i
        · subst hki; simp only [if_true]; exact Slot.ok_fact hv
        · rw [hget, if_neg hki] at hl
          simp only [hki, if_false]
          have hkl : k < ops.size := by
            rcases Nat.lt_or_ge k ops.size with h | h
            · exact h
            · rw [Array.getD_eq_getD_getElem?, Array.getElem?_eq_none (by omega)] at hl
              cases hl
          exact Slot.fact_monoR (hmono k hkl) hg (hf k hl)
      by_cases hch : C.contains i = true
      · rw [if_pos hch] at hO
        have hlow : ∀ k, C.contains k = true → k < i → listed.getD k false = true := by
          intro k hkc hki
          have h1' := List.all_eq_true.1 hC i (by simpa using hch)
          rw [ho] at h1'
          have h2' := List.all_eq_true.1 h1' k (by simpa using hkc)
          rw [show decide (k < i) = true from decide_eq_true hki] at h2'
          simp only [Bool.not_true, Bool.false_or] at h2'
          exact reach_listed hcl 3 o k (fun k' hk' => (hbl k' hk').1) h2'
        have hci : c ≤ i := by
          rcases Nat.lt_or_ge i c with hlt | hge
          · have := (hcc i hch).2 hlt
            rw [hjn] at this
            cases this
          · exact hge
        have hsti : stt C S0 T i u w' := by
          have := stt_const (C := C) (S0 := S0) (T := T) (c := c) (u := u) (i - c) (fun k hk1 hk2 => by
            rcases hb : C.contains k with _ | _
            · rfl
            · have := (hcc k hb).1 (hlow k hb (by omega))
              omega)
          rw [show c + (i - c) = i by omega] at this
          rw [this]
          exact hst
        have hO2 := hO hsti
        refine wpOp_of_upT ho (R := fun v w2 => R w' w2 ∧ (ss i).ok v w2 ∧ T i v w2) (fun v w2 hr => ?_) ?_
        · have hfs := frame_step hB hls ho hsz h1 h2 hr.2.1
          refine ih _ _ _ (by simp [hls]) hcl2 hcount ⟨fun k => if k = i then v else u k, i + 1, hR.trans _ _ _ hw hr.1, by rw [put_defers', hde], by rw [put_size', hsz], hfs.1, hfs.2, hfact v w2 hr.1 hr.2.1, by omega, ?_, ?_⟩
          · intro k hkc
            rw [hget]
            by_cases hki : k = i
            · simp [hki]
            · rw [if_neg hki]
              constructor
              · intro hl
                have := (hcc k hkc).1 hl
                omega
              · intro hl
                exact hlow k hkc (by omega)
          · unfold stt
            rw [if_pos hch]
            simp only [if_true]
            exact hr.2.2
        · split
          · rename_i hw'; rw [if_pos hw'] at hO2; exact hO2
          · rename_i hw'; rw [if_neg hw'] at hO2; exact ⟨hR.ge _ _ (Ge.refl _), hO2⟩
      · rw [if_neg hch] at hO
        refine wpOp_of_upT ho (R := fun v w2 => Ge w' w2 ∧ (ss i).ok v w2) (fun v w2 hr => ?_) ?_
        · have hfs := frame_step hB hls ho hsz h1 h2 hr.2
          refine ih _ _ _ (by simp [hls]) hcl2 hcount ⟨fun k => if k = i then v else u k, c, hR.trans _ _ _ hw (hR.ge _ _ hr.1), by rw [put_defers', hde], by rw [put_size', hsz], hfs.1, hfs.2, hfact v w2 (hR.ge _ _ hr.1) hr.2, hcs, ?_, ?_⟩
          · intro k hkc
            rw [hget]
            by_cases hki : k = i
            · subst hki; exact absurd hkc hch
            · rw [if_neg hki]
              exact hcc k hkc
          · rw [stt_congr c (u' := u) (fun k _ hkc => by
              by_cases hki : k = i
              · subst hki; exact absurd hkc hch
              · simp [hki])]
            exact stt_ge h0 ops.size hTg c hcs u _ _ hr.1 hst
        · split
          · rename_i hw'; rw [if_pos hw'] at hO; exact hO
          · rename_i hw'; rw [if_neg hw'] at hO; exact ⟨Ge.refl _, hO⟩

/-- THE RULE -/
theorem wp_region_C {id : Nat} {l : List Oper} {a : Act} (R : World → World → Prop) (C : List Nat) (S0 : World → Prop) (hR : Rel R) (hm : P.follows .mixedOrders = true) (hB : okT l.toArray = true) (hC : chainB l.toArray C = true)
    (h0 : ∀ w w', Ge w w' → S0 w → S0 w') (hs : S0 w0)
    (h : wpC P l.toArray (Q .normal) w0 R C 0 l (fun _ => a) (fun _ _ _ => True) (fun _ w => S0 w)) : (Code.region id l.toArray true).wp P Q a w0 := by
  obtain ⟨ss, T, _, _, hmono, hTg, hob, hfin⟩ := wpC_slots (ops := l.toArray) (S0 := S0) a l 0 (fun _ => .inl undef) (fun _ _ _ => True) _ _ _ (fun i hi => by simp) (fun _ => rfl) (fun _ _ _ h => absurd h (by omega)) (fun _ h => absurd h (by omega)) (fun _ h => absurd h (by omega)) (fun _ _ => Iff.rfl) h
  rw [Nat.zero_add] at hmono hob hfin hTg
  refine wp_region_any hm ?_
  refine wpAny_of_invC (ss := ss) (T := T) (a := a) (w0 := w0) hR hB hC h0 (by simpa using hmono) (by simpa using hTg) (fun i o hi ho u w hw hf => hob i o (Nat.zero_le _) (by simpa using hi) ho (fun k hk => ?_) u w hw hf) (fun u w hw hf hst => ?_) _ _ _ _ (by simp) ?_ ?_ ?_
  · obtain ⟨e, he, heb⟩ := Array.any_eq_true'.1 hk
    simp only [Bool.and_eq_true, beq_iff_eq] at heb
    obtain ⟨hb, rfl⟩ := heb
    exact ((okT_spec hB).2 i o ho).1 e he hb
  · simpa using hfin u w hw (by simpa using hf) (by simpa using hst)
  · intro q p hq
    rw [Array.getD_eq_getD_getElem?, Array.getElem?_replicate] at hq
    split at hq <;> simp at hq
  · simp [List.count_replicate]
  · refine ⟨fun _ => undef, 0, hR.ge _ _ (Ge.drawn _ _), rfl, rfl, ?_, fun _ _ => rfl, ?_, Nat.zero_le _, ?_, h0 _ _ (Ge.drawn _ _) hs⟩
    · intro k o d ho hl
      rw [Array.getD_eq_getD_getElem?, Array.getElem?_replicate] at hl
      split at hl <;> simp at hl
    · intro k hl
      rw [Array.getD_eq_getD_getElem?, Array.getElem?_replicate] at hl
      split at hl <;> simp at hl
    · intro k _
      rw [Array.getD_eq_getD_getElem?, Array.getElem?_replicate]
      split <;> simp
end
end Go.Proofs.YtmhibpmgnicolaaDoor.Dr
