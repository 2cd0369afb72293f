/-
  A region that draws its order, where some operations ('writers') turn memory in whatever order, each its own part, and all others only let it grow.
-/
import Derived.Test.YtmhibpmgnicolaaDoorZChain
namespace Go.Proofs.YtmhibpmgnicolaaDoor.Dr
open Go.RowKit

section
variable (P : Program) (ops : Array Oper) (K : Act → World → Prop) (w0 : World) (R : World → World → Prop) (C : List Nat) (S : (Nat → Bool) → World → Prop)

/-- what operation i owes -/
def oblD (i : Nat) (o : Oper) (f : Act) (s : Slot) (w : World) : Prop :=
  if C.contains i then ∀ d : Nat → Bool, d i = false → S d w → if Region.wanted o (yielded ops f.tmps) then upT P (fun v w' => R w w' ∧ s.ok v w' ∧ S (fun k => k == i || d k) w') ((execOp f.eval o).run P w) else s.ok undef w ∧ S (fun k => k == i || d k) w
  else if Region.wanted o (yielded ops f.tmps) then upT P (fun v w' => Ge w w' ∧ s.ok v w') ((execOp f.eval o).run P w) else s.ok undef w

def wpD : Nat → List Oper → ((Nat → Value) → Act) → (Nat → (Nat → Value) → World → Prop) → Prop
  | j, [], fr, F => ∀ u w, R w0 w → (∀ k, k < j → F k u w) → S (fun k => C.contains k) w → K (fr u) w
  | j, o :: rest, fr, F => ∃ s : Slot, s.monoR R ∧ (∀ u w, R w0 w → (∀ k, befB o k = true → F k u w) → oblD P ops R C S j o (fr u) s w) ∧
      wpD (j + 1) rest (fun u => (fr u).put o.dst (s.fill (u j))) (fun k u w => if k = j then s.fact (u j) w else F k u w)
end

section
variable {P : Program} {ops : Array Oper} {Q : Exit → Act → World → Prop} {K : Act → World → Prop} {w0 : World} {R : World → World → Prop} {C : List Nat} {S : (Nat → Bool) → World → Prop}

theorem wpD_det {j : Nat} {o : Oper} {rest : List Oper} {fr : (Nat → Value) → Act} {F : Nat → (Nat → Value) → World → Prop} (v : Value) (hc : C.contains j = false)
    (h1 : ∀ u w, R w0 w → (∀ k, befB o k = true → F k u w) →
        if Region.wanted o (yielded ops (fr u).tmps) then upT P (fun v' w' => Ge w w' ∧ v' = v) ((execOp (fr u).eval o).run P w) else undef = v)
    (h2 : wpD P ops K w0 R C S (j + 1) rest (fun u => (fr u).put o.dst v) (fun k u w => if k = j then True else F k u w)) :
    wpD P ops K w0 R C S j (o :: rest) fr F :=
  ⟨.inl v, trivial, fun u w a b => by unfold oblD; rw [hc]; exact h1 u w a b, h2⟩
/-- a writer that yields what is known ahead -/
theorem wpD_writer {j : Nat} {o : Oper} {rest : List Oper} {fr : (Nat → Value) → Act} {F : Nat → (Nat → Value) → World → Prop} (v : Value) (hc : C.contains j = true)
    (h1 : ∀ u w, R w0 w → (∀ k, befB o k = true → F k u w) → ∀ d : Nat → Bool, d j = false → S d w →
        if Region.wanted o (yielded ops (fr u).tmps) then upT P (fun v' w' => R w w' ∧ v' = v ∧ S (fun k => k == j || d k) w') ((execOp (fr u).eval o).run P w) else undef = v ∧ S (fun k => k == j || d k) w)
    (h2 : wpD P ops K w0 R C S (j + 1) rest (fun u => (fr u).put o.dst v) (fun k u w => if k = j then True else F k u w)) :
    wpD P ops K w0 R C S j (o :: rest) fr F :=
  ⟨.inl v, trivial, fun u w a b => by unfold oblD; rw [if_pos hc]; exact h1 u w a b, h2⟩

theorem wpD_slots (a : Act) : ∀ (rest : List Oper) (j : Nat) (ss : Nat → Slot) (fr : (Nat → Value) → Act) (F : Nat → (Nat → Value) → World → Prop),
    (∀ i, i < rest.length → rest[i]? = ops[j + i]?) → (∀ u, fr u = frameT ops ss u a j) → (∀ k u w, k < j → (F k u w ↔ (ss k).fact (u k) w)) → (∀ k, k < j → (ss k).monoR R) → wpD P ops K w0 R C S j rest fr F →
    ∃ ss' : Nat → Slot, (∀ k, k < j → ss' k = ss k) ∧ (∀ k, k < j + rest.length → (ss' k).monoR R) ∧
      (∀ (i : Nat) (o : Oper), j ≤ i → i < j + rest.length → ops[i]? = some o → (∀ k, befB o k = true → k < i) → ∀ u w, R w0 w → (∀ k, befB o k = true → (ss' k).fact (u k) w) →
        oblD P ops R C S i o (frameT ops ss' u a i) (ss' i) w) ∧
      (∀ u w, R w0 w → (∀ k, k < j + rest.length → (ss' k).fact (u k) w) → S (fun k => C.contains k) w → K (frameT ops ss' u a (j + rest.length)) w)
  | [], j, ss, fr, F, hl, hfr, hF, hm, h => by
    refine ⟨ss, fun _ _ => rfl, fun k hk => hm k (by simpa using hk), fun i o hji hi => absurd hi (by simp; omega), fun u w hw hf hs => ?_⟩
    have := h u w hw (fun k hk => (hF k u w hk).2 (hf k (by simpa using hk))) hs
    rwa [hfr] at this
  | o :: rest, j, ss, fr, F, hl, hfr, hF, hm, h => by
    obtain ⟨s, hsm, h1, h2⟩ := h
    have ho : ops[j]? = some o := by simpa using (hl 0 (by simp)).symm
    obtain ⟨sn, hsn⟩ : ∃ sn : Nat → Slot, sn = fun k => if k = j then s else ss k := ⟨_, rfl⟩
    have hold : ∀ k, k < j → sn k = ss k := fun k hk => by rw [hsn]; simp; omega
    have hnew : sn j = s := by rw [hsn]; simp
    have hfe : ∀ u i, i ≤ j → frameT ops sn u a i = frameT ops ss u a i := by
      intro u i
      induction i with
      | zero => intro _; rfl
      | succ i ih => intro hi; rw [frameT, frameT, ih (by omega), hold i (by omega)]
    obtain ⟨ss', e1, e2, e3, e4⟩ := wpD_slots a rest (j + 1) sn _ _ (fun i hi => by have := hl (i + 1) (by simp; omega); simpa [Nat.add_assoc, Nat.add_comm 1 i] using this)
      (fun u => by rw [frameT, hfe u j (Nat.le_refl _), ← hfr, ho, hnew]; rfl)
      (fun k u w hk => by
        by_cases hkj : k = j
        · subst hkj; simp [hnew]
        · simp only [hkj, if_false]; rw [hold k (by omega)]; exact hF k u w (by omega))
      (fun k hk => by
        by_cases hkj : k = j
        · subst hkj; rw [hnew]; exact hsm
        · rw [hold k (by omega)]; exact hm k (by omega)) h2
    have hfe' : ∀ u i, i ≤ j + 1 → frameT ops ss' u a i = frameT ops sn u a i := by
      intro u i
      induction i with
      | zero => intro _; rfl
      | succ i ih => intro hi; rw [frameT, frameT, ih (by omega), e1 i (by omega)]
    have hlen : j + (o :: rest).length = j + 1 + rest.length := by simp; omega
    refine ⟨ss', fun k hk => (e1 k (by omega)).trans (hold k hk), fun k hk => e2 k (by omega), fun i p hji hi hp hb u w hw hf => ?_, fun u w hw hf hs => ?_⟩
    · by_cases hij : i = j
      · subst hij
        obtain rfl : p = o := by rw [ho] at hp; exact (Option.some.inj hp).symm
        have := h1 u w hw (fun k hk => by
          have hkj := hb k hk
          have h3 := hf k hk
          rw [e1 k (by omega), hold k hkj] at h3
          exact (hF k u w hkj).2 h3)
        rw [hfe' u i (by omega), hfe u i (Nat.le_refl _), ← hfr u, e1 i (by omega), hnew]
        exact this
      · exact e3 i p (by omega) (by omega) hp hb u w hw hf
    · have := e4 u w hw (fun k hk => hf k (by omega)) hs
      rw [hlen]
      exact this

/-- between two operations -/
def InvD (R : World → World → Prop) (C : List Nat) (S : (Nat → Bool) → World → Prop) (ops : Array Oper) (ss : Nat → Slot) (a : Act) (w0 : World) (listed : Array Bool) (a' : Act) (w' : World) : Prop :=
  ∃ (u : Nat → Value), R w0 w' ∧ a'.defers = a.defers ∧ a'.tmps.size = a.tmps.size ∧
    (∀ (k : Nat) o d, ops[k]? = some o → listed.getD k false = true → o.dst = some d → d < a.tmps.size → a'.tmps[d]? = some ((ss k).fill (u k))) ∧
    (∀ t, (∀ (k : Nat) o, ops[k]? = some o → listed.getD k false = true → o.dst ≠ some t) → a'.tmps[t]? = a.tmps[t]?) ∧
    (∀ k, listed.getD k false = true → (ss k).fact (u k) w') ∧ S (fun k => C.contains k && listed.getD k false) w'

theorem wpAny_of_invD (hR : Rel R) (hB : okT ops = true) (hin : ∀ k, C.contains k = true → k < ops.size) (h0 : ∀ d w w', Ge w w' → S d w → S d w')
    {ss : Nat → Slot} (hmono : ∀ k, k < ops.size → (ss k).monoR R) {a : Act}
    (hob : ∀ (i : Nat) (o : Oper), i < ops.size → ops[i]? = some o → ∀ u w, R w0 w → (∀ k, befB o k = true → (ss k).fact (u k) w) → oblD P ops R C S i o (frameT ops ss u a i) (ss i) w)
    (hfin : ∀ u w, R w0 w → (∀ k, k < ops.size → (ss k).fact (u k) w) → S (fun k => C.contains k) w → Q .normal (frameT ops ss u a ops.size) w) :
    ∀ (fuel : Nat) (listed : Array Bool) (a' : Act) (w' : World), listed.size = ops.size → fuel + listed.toList.count true = ops.size → InvD R C S ops ss a w0 listed a' w' → wpAny P .any ops Q fuel listed a' w' := by
  intro fuel
  induction fuel with
  | zero =>
    intro listed a' w' hls hc hI
    have hall : ∀ k, k < ops.size → listed.getD k false = true := by
      intro k hk
      rcases hb : listed.getD k false with _ | _
      · exfalso
        have := count_set (listed := listed) (i := k) (by omega) hb
        have hle := List.count_le_length (a := true) (l := (listed.setIfInBounds k true).toList)
        rw [Array.length_toList, Array.size_setIfInBounds] at hle
        omega
      · rfl
    refine ⟨?_, ?_⟩
    · cases hr : Region.ready .any ops listed with
      | nil => rfl
      | cons x xs =>
        exfalso
        have hx' : x ∈ Region.ready .any ops listed := by rw [hr]; exact List.mem_cons_self
        obtain ⟨hun, o, ho, _⟩ := mem_ready.1 hx'
        have hk : x < ops.size := (Array.getElem?_eq_some_iff.1 ho).1
        have := hall x hk
        simp [Array.getD_eq_getD_getElem?, hls, hk] at this hun
        rw [this] at hun
        cases hun
    · obtain ⟨u, hw, hde, hsz, h1, h2, hf, hst⟩ := hI
      have : a' = frameT ops ss u a ops.size := by
        have e1 : a'.tmps = (frameT ops ss u a ops.size).tmps := by
          apply Array.ext_getElem?
          intro t
          by_cases hlt : t < a.tmps.size
          · by_cases hx : ∃ (k : Nat) (p : Oper), k < ops.size ∧ ops[k]? = some p ∧ p.dst = some t
            · obtain ⟨k, p, hk, hp, hd⟩ := hx
              rw [h1 k p t hp (hall k hk) hd hlt, frameT_on hB ss u a t hlt k p hp hd _ hk]
            · rw [h2 t (fun k p hp hl hd => hx ⟨k, p, (Array.getElem?_eq_some_iff.1 hp).1, hp, hd⟩), frameT_off ss u a t _ (fun k p hk hp hd => hx ⟨k, p, hk, hp, hd⟩)]
          · rw [Array.getElem?_eq_none (by omega), Array.getElem?_eq_none (by rw [frameT_size]; omega)]
        have e2 : a'.defers = (frameT ops ss u a ops.size).defers := by rw [hde, frameT_defers]
        cases a'
        cases hfr : frameT ops ss u a ops.size
        rw [hfr] at e1 e2
        simp only at e1 e2
        rw [e1, e2]
      rw [this]
      refine hfin u w' hw (fun k hk => hf k (hall k hk)) ?_
      have e : (fun k => C.contains k && listed.getD k false) = fun k => C.contains k := by
        funext k
        rcases hb : C.contains k with _ | _
        · rfl
        · rw [hall k (hin k hb)]; rfl
      rwa [e] at hst
  | succ fuel ih =>
    intro listed a' w' hls hc hI
    refine ⟨fun h0' => ?_, fun i hi => ?_⟩
    · exfalso
      have hall := all_listed hB hls h0'
      have : listed.toList.count true = listed.toList.length := by
        rw [List.count_eq_length]
        intro b hb
        obtain ⟨k, hk, e⟩ := List.getElem_of_mem hb
        have := hall k (by simp at hk; omega)
        simp at hk
        simp [Array.getD_eq_getD_getElem?, hk] at this
        simp at e
        rw [← e, this]
      rw [Array.length_toList] at this
      omega
    · obtain ⟨u, hw, hde, hsz, h1, h2, hf, hst⟩ := hI
      obtain ⟨hun, o, ho, hall⟩ := mem_ready.1 hi
      have hk : i < ops.size := (Array.getElem?_eq_some_iff.1 ho).1
      have hjn : listed.getD i false = false := by
        simp [Array.getD_eq_getD_getElem?, hls, hk] at hun ⊢
        exact hun
      have hbl : ∀ k, befB o k = true → listed.getD k false = true ∧ k < i := by
        intro k hk'
        obtain ⟨e, he, heb⟩ := Array.any_eq_true'.1 hk'
        simp only [Bool.and_eq_true, beq_iff_eq] at heb
        obtain ⟨hb, rfl⟩ := heb
        exact ⟨hall e he hb, ((okT_spec hB).2 i o ho).1 e he hb⟩
      have hlook := fun t ht => InvT.look (ss := ss) hB ho hbl hjn hsz h1 h2 t ht
      have hex : execOp a'.eval o = execOp (frameT ops ss u a i).eval o := execOp_congr o (fun cs b => (okT_spec hB).1 i o cs b ho) fun x hx => by
        cases x with
        | tmp t => exact at_same (hlook t (mem_looks_operand hx))
        | _ => rfl
      have hwa := wanted_same (ops := ops) (o := o) hlook
      have hO := hob i o hk ho u w' hw (fun k hk' => hf k (hbl k hk').1)
      unfold oblD at hO
      rw [← hex, ← hwa] at hO
      have hget : ∀ k, (listed.setIfInBounds i true).getD k false = if k = i then true else listed.getD k false := by
        intro k
        by_cases hk' : k = i
        · subst hk'; simp [Array.getD_eq_getD_getElem?, hls, hk]
        · simp [Array.getD_eq_getD_getElem?, Array.getElem?_setIfInBounds_ne (Ne.symm hk'), hk']
      have hcount : fuel + (listed.setIfInBounds i true).toList.count true = ops.size := by
        rw [count_set (by omega) hjn]
        omega
      have hfact : ∀ (v : Value) (w2 : World), R w' w2 → (ss i).ok v w2 → ∀ k, (listed.setIfInBounds i true).getD k false = true → (ss k).fact (if k = i then v else u k) w2 := by
        intro v w2 hg hv k hl
        by_cases hki : k = i
        · subst hki; simp only [if_true]; exact Slot.ok_fact hv
        · rw [hget, if_neg hki] at hl
          simp only [hki, if_false]
          have hkl : k < ops.size := by
            rcases Nat.lt_or_ge k ops.size with h | h
            · exact h
            · rw [Array.getD_eq_getD_getElem?, Array.getElem?_eq_none (by omega)] at hl
              cases hl
          exact Slot.fact_monoR (hmono k hkl) hg (hf k hl)
      by_cases hch : C.contains i = true
      · rw [if_pos hch] at hO
        have hO2 := hO _ (by rw [hch, hjn]; rfl) hst
        have ed : (fun k => k == i || (C.contains k && listed.getD k false)) = fun k => C.contains k && (listed.setIfInBounds i true).getD k false := by
          funext k
          rw [hget]
          by_cases hki : k = i
          · subst hki; simp only [beq_self_eq_true, if_true, hch]; rfl
          · rw [if_neg hki, show (k == i) = false by simpa using hki]; rfl
        rw [ed] at hO2
        refine wpOp_of_upT ho (R := fun v w2 => R w' w2 ∧ (ss i).ok v w2 ∧ S (fun k => C.contains k && (listed.setIfInBounds i true).getD k false) w2) (fun v w2 hr => ?_) ?_
        · have hfs := frame_step hB hls ho hsz h1 h2 hr.2.1
          exact ih _ _ _ (by simp [hls]) hcount ⟨fun k => if k = i then v else u k, hR.trans _ _ _ hw hr.1, by rw [put_defers', hde], by rw [put_size', hsz], hfs.1, hfs.2, hfact v w2 hr.1 hr.2.1, hr.2.2⟩
        · split
          · rename_i hw'; rw [if_pos hw'] at hO2; exact hO2
          · rename_i hw'; rw [if_neg hw'] at hO2; exact ⟨hR.ge _ _ (Ge.refl _), hO2⟩
      · rw [if_neg hch] at hO
        have ed : (fun k => C.contains k && listed.getD k false) = fun k => C.contains k && (listed.setIfInBounds i true).getD k false := by
          funext k
          rw [hget]
          by_cases hki : k = i
          · subst hki
            rw [show C.contains k = false by simpa using hch]
            rfl
          · rw [if_neg hki]
        rw [ed] at hst
        refine wpOp_of_upT ho (R := fun v w2 => Ge w' w2 ∧ (ss i).ok v w2) (fun v w2 hr => ?_) ?_
        · have hfs := frame_step hB hls ho hsz h1 h2 hr.2
          exact ih _ _ _ (by simp [hls]) hcount ⟨fun k => if k = i then v else u k, hR.trans _ _ _ hw (hR.ge _ _ hr.1), by rw [put_defers', hde], by rw [put_size', hsz], hfs.1, hfs.2, hfact v w2 (hR.ge _ _ hr.1) hr.2, h0 _ _ _ hr.1 hst⟩
        · split
          · rename_i hw'; rw [if_pos hw'] at hO; exact hO
          · rename_i hw'; rw [if_neg hw'] at hO; exact ⟨Ge.refl _, hO⟩

/-- THE RULE -/
theorem wp_region_D {id : Nat} {l : List Oper} {a : Act} (R : World → World → Prop) (C : List Nat) (S : (Nat → Bool) → World → Prop) (hR : Rel R) (hm : P.follows .mixedOrders = true) (hB : okT l.toArray = true) (hC : C.all (fun k => decide (k < l.length)) = true)
    (h0 : ∀ d w w', Ge w w' → S d w → S d w') (hs : S (fun _ => false) w0)
    (h : wpD P l.toArray (Q .normal) w0 R C S 0 l (fun _ => a) (fun _ _ _ => True)) : (Code.region id l.toArray true).wp P Q a w0 := by
  obtain ⟨ss, _, hmono, hob, hfin⟩ := wpD_slots (ops := l.toArray) a l 0 (fun _ => .inl undef) _ _ (fun i hi => by simp) (fun _ => rfl) (fun _ _ _ h => absurd h (by omega)) (fun _ h => absurd h (by omega)) h
  rw [Nat.zero_add] at hmono hob hfin
  refine wp_region_any hm ?_
  refine wpAny_of_invD (ss := ss) (a := a) (w0 := w0) hR hB (fun k hk => ?_) h0 (by simpa using hmono) (fun i o hi ho u w hw hf => hob i o (Nat.zero_le _) (by simpa using hi) ho (fun k hk => ?_) u w hw hf) (fun u w hw hf hst => ?_) _ _ _ _ (by simp) ?_ ?_
  · have := List.all_eq_true.1 hC k (by simpa using hk)
    simpa using this
  · obtain ⟨e, he, heb⟩ := Array.any_eq_true'.1 hk
    simp only [Bool.and_eq_true, beq_iff_eq] at heb
    obtain ⟨hb, rfl⟩ := heb
    exact ((okT_spec hB).2 i o ho).1 e he hb
  · simpa using hfin u w hw (by simpa using hf) hst
  · simp [List.count_replicate]
  · refine ⟨fun _ => undef, hR.ge _ _ (Ge.drawn _ _), rfl, rfl, ?_, fun _ _ => rfl, ?_, ?_⟩
    · intro k o d ho hl
      rw [Array.getD_eq_getD_getElem?, Array.getElem?_replicate] at hl
      split at hl <;> simp at hl
    · intro k hl
      rw [Array.getD_eq_getD_getElem?, Array.getElem?_replicate] at hl
      split at hl <;> simp at hl
    · have e : (fun k => C.contains k && (Array.replicate l.toArray.size false).getD k false) = fun _ => false := by
        funext k
        rw [Array.getD_eq_getD_getElem?, Array.getElem?_replicate]
        split <;> simp
      rw [e]
      exact h0 _ _ _ (Ge.drawn _ _) hs
end
end Go.Proofs.YtmhibpmgnicolaaDoor.Dr
