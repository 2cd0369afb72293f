/-
  As Draw, with a tail whose operations wait for all earlier ones by one step or by two.
-/
import Derived.Test.YtmhibpmgnicolaaDoorDraw
namespace Go.Proofs.YtmhibpmgnicolaaDoor.Dr
open Go.RowKit

section
variable {P : Program} {ops : Array Oper} {Q : Exit → Act → World → Prop} {K : Act → World → Prop} {w0 : World}

/-- from operation m on, each waits for all that stand ahead of it, by one step or by two -/
def tailB2 (ops : Array Oper) (m : Nat) : Bool := (List.range ops.size).all fun i => decide (i < m) || match ops[i]? with
  | none => true
  | some o => (List.range i).all fun k => befB o k || (List.range i).any fun j => befB o j && match ops[j]? with
    | none => false
    | some p => befB p k
theorem tailB2_spec {m : Nat} (h : tailB2 ops m = true) {i : Nat} {o : Oper} (ho : ops[i]? = some o) (hi : m ≤ i) {k : Nat} (hk : k < i) :
    befB o k = true ∨ ∃ (j : Nat) (p : Oper), j < i ∧ befB o j = true ∧ ops[j]? = some p ∧ befB p k = true := by
  have hlt : i < ops.size := (Array.getElem?_eq_some_iff.1 ho).1
  have h1 := List.all_eq_true.1 h i (by simpa using hlt)
  have hd : decide (i < m) = false := by simp; omega
  rw [hd, Bool.false_or, ho] at h1
  have h2 := List.all_eq_true.1 h1 k (by simpa using hk)
  rcases Bool.or_eq_true_iff.1 h2 with h3 | h3
  · exact .inl h3
  · obtain ⟨j, hj, h4⟩ := List.any_eq_true.1 h3
    rw [Bool.and_eq_true] at h4
    cases hp : ops[j]? with
    | none => rw [hp] at h4; exact absurd h4.2 (by simp)
    | some p =>
      rw [hp] at h4
      exact .inr ⟨j, p, by simpa using hj, h4.1, hp, h4.2⟩

theorem wpAny_tail2 (hB : okT ops = true) {m : Nat} (hT : tailB2 ops m = true) : ∀ (rest : List Oper) (j : Nat) (listed : Array Bool) (a : Act) (w : World), m ≤ j → j + rest.length = ops.size → (∀ i, rest[i]? = ops[j + i]?) →
    listed.size = ops.size → (∀ k, k < ops.size → (listed.getD k false = true ↔ k < j)) → wpList P ops Q rest a w → wpAny P .any ops Q rest.length listed a w
  | [], j, listed, a, w, hm, hj, hl, hls, hx, h => by
    refine ⟨?_, h⟩
    cases hr : Region.ready .any ops listed with
    | nil => rfl
    | cons x xs =>
      exfalso
      have hx' : x ∈ Region.ready .any ops listed := by rw [hr]; exact List.mem_cons_self
      obtain ⟨hun, o, ho, _⟩ := mem_ready.1 hx'
      have hk : x < ops.size := (Array.getElem?_eq_some_iff.1 ho).1
      have := (hx x hk).2 (by simp at hj; omega)
      simp [Array.getD_eq_getD_getElem?, hls, hk] at this hun
      rw [this] at hun
      cases hun
  | o :: rest, j, listed, a, w, hm, hj, hl, hls, hx, h => by
    have ho : ops[j]? = some o := by simpa using (hl 0).symm
    have hjlt : j < ops.size := (Array.getElem?_eq_some_iff.1 ho).1
    have hun : ∀ k, k < ops.size → listed.getD k true = listed.getD k false := fun k hk => by simp [Array.getD_eq_getD_getElem?, hls, hk]
    refine ⟨fun h0 => ?_, fun i hi => ?_⟩
    · exfalso
      have := all_listed hB hls h0 j hjlt
      have := (hx j hjlt).1 this
      omega
    · obtain ⟨hiun, oi, hoi, hall⟩ := mem_ready.1 hi
      have hik : i < ops.size := (Array.getElem?_eq_some_iff.1 hoi).1
      have hge : j ≤ i := by
        rcases Nat.lt_or_ge i j with hlt | hge
        · have := (hx i hik).2 hlt
          rw [← hun i hik, hiun] at this
          cases this
        · exact hge
      have hij : i = j := by
        rcases Nat.lt_or_ge j i with hlt | hle
        · rcases tailB2_spec hT hoi (by omega) hlt with hb | ⟨q, p, hq, hb, hp, hb'⟩
          · have := (hx j hjlt).1 (bef_listed hall hb)
            omega
          · have hql : q < ops.size := (Array.getElem?_eq_some_iff.1 hp).1
            have h1 := (hx q hql).1 (bef_listed hall hb)
            obtain ⟨e, he, heb⟩ := Array.any_eq_true'.1 hb'
            simp only [Bool.and_eq_true, beq_iff_eq] at heb
            have := ((okT_spec hB).2 q p hp).1 e he heb.1
            omega
        · omega
      subst hij
      obtain rfl : oi = o := by rw [ho] at hoi; exact (Option.some.inj hoi).symm
      have hn : ∀ k, k < ops.size → ((listed.setIfInBounds i true).getD k false = true ↔ k < i + 1) := by
        intro k hk
        by_cases hki : k = i
        · subst hki; simp [Array.getD_eq_getD_getElem?, hls, hk]
        · have := hx k hk
          simp [Array.getD_eq_getD_getElem?, Array.getElem?_setIfInBounds_ne (Ne.symm hki)] at this ⊢
          rw [this]
          omega
      have hrec := fun a' w' => wpAny_tail2 hB hT rest (i + 1) (listed.setIfInBounds i true) a' w' (by omega) (by simp at hj; omega) (fun k => by have := hl (k + 1); simpa [Nat.add_assoc, Nat.add_comm 1 k] using this) (by simp [hls]) hn
      unfold wpOp
      simp only [ho]
      unfold wpList at h
      split
      · rename_i hw
        rw [if_pos hw] at h
        rcases h with h | h
        · exact .inl (Oper.wp_mono (fun a' w' => hrec a' w') h)
        · exact .inr h
      · rename_i hw
        rw [if_neg hw] at h
        exact hrec _ _ h

theorem wpAny_of_inv2 (hB : okT ops = true) {m : Nat} (hmle : m ≤ ops.size) (hT : tailB2 ops m = true) {ss : Nat → Slot} (hmono : ∀ k, k < m → (ss k).mono) {a : Act}
    (hob : ∀ (i : Nat) (o : Oper), i < m → ops[i]? = some o → ∀ u w, Ge w0 w → (∀ k, befB o k = true → (ss k).fact (u k) w) →
        if Region.wanted o (yielded ops (frameT ops ss u a i).tmps) then upT P (fun v w' => Ge w w' ∧ (ss i).ok v w') ((execOp (frameT ops ss u a i).eval o).run P w) else (ss i).ok undef w)
    (hfin : ∀ u w, Ge w0 w → (∀ k, k < m → (ss k).fact (u k) w) → wpList P ops Q (ops.toList.drop m) (frameT ops ss u a m) w) :
    ∀ (fuel : Nat) (listed : Array Bool) (a' : Act) (w' : World), listed.size = ops.size → (∀ k, listed.getD k false = true → k < m) → (∀ (j : Nat) (p : Oper), listed.getD j false = true → ops[j]? = some p → ∀ k, befB p k = true → listed.getD k false = true) → fuel + listed.toList.count true = ops.size → InvT ops ss a w0 listed a' w' → wpAny P .any ops Q fuel listed a' w' := by
  have hend : ∀ (fuel : Nat) (listed : Array Bool) (a' : Act) (w' : World), listed.size = ops.size → (∀ k, listed.getD k false = true → k < m) → (∀ k, k < m → listed.getD k false = true) → fuel + listed.toList.count true = ops.size → InvT ops ss a w0 listed a' w' → wpAny P .any ops Q fuel listed a' w' := by
    rintro fuel listed a' w' hls hin hall hcount ⟨u, hw, hde, hsz, h1, h2, hf⟩
    have : a' = frameT ops ss u a m := by
      have e1 : a'.tmps = (frameT ops ss u a m).tmps := by
        apply Array.ext_getElem?
        intro t
        by_cases hlt : t < a.tmps.size
        · by_cases hx : ∃ (k : Nat) (p : Oper), k < m ∧ ops[k]? = some p ∧ p.dst = some t
          · obtain ⟨k, p, hk, hp, hd⟩ := hx
            rw [h1 k p t hp (hall k hk) hd hlt, frameT_on hB ss u a t hlt k p hp hd _ hk]
          · rw [h2 t (fun k p hp hl hd => hx ⟨k, p, hin k hl, hp, hd⟩), frameT_off ss u a t _ (fun k p hk hp hd => hx ⟨k, p, hk, hp, hd⟩)]
        · rw [Array.getElem?_eq_none (by omega), Array.getElem?_eq_none (by rw [frameT_size]; omega)]
      have e2 : a'.defers = (frameT ops ss u a m).defers := by rw [hde, frameT_defers]
      cases a'
      cases hfr : frameT ops ss u a m
      rw [hfr] at e1 e2
      simp only at e1 e2
      rw [e1, e2]
    rw [this]
    have hx : ∀ k, k < ops.size → (listed.getD k false = true ↔ k < m) := fun k _ => ⟨hin k, hall k⟩
    have hcm : listed.toList.count true = m := by
      have : listed.toList = List.replicate m true ++ List.replicate (ops.size - m) false := by
        apply List.ext_getElem?
        intro k
        by_cases hk : k < ops.size
        · have := hx k hk
          rw [Array.getElem?_toList, Array.getElem?_eq_getElem (by omega)]
          simp [Array.getD_eq_getD_getElem?, hls, hk] at this
          by_cases hkm : k < m
          · rw [List.getElem?_append_left (by simpa using hkm)]
            simp [hkm, this]
          · rw [List.getElem?_append_right (by simp; omega)]
            have hlt : k - m < ops.size - m := by omega
            simp only [List.length_replicate]
            rw [List.getElem?_replicate, if_pos hlt]
            have : ¬ listed[k]'(by omega) = true := fun hh => hkm (this.1 hh)
            simpa using this
        · rw [List.getElem?_eq_none (by simp; omega), List.getElem?_eq_none (by simp; omega)]
      rw [this]
      simp [List.count_append, List.count_replicate]
    have hlen : fuel = (ops.toList.drop m).length := by simp; omega
    rw [hlen]
    exact wpAny_tail2 hB hT (ops.toList.drop m) m listed _ _ (Nat.le_refl _) (by simp; omega) (fun i => by rw [List.getElem?_drop, Array.getElem?_toList]) hls hx (hfin u w' hw (fun k hk => hf k (hall k hk)))
  intro fuel
  induction fuel with
  | zero =>
    intro listed a' w' hls hin _ hc hI
    refine hend 0 listed a' w' hls hin ?_ hc hI
    intro k hk
    rcases hb : listed.getD k false with _ | _
    · exfalso
      have := count_set (listed := listed) (i := k) (by omega) hb
      have hle := List.count_le_length (a := true) (l := (listed.setIfInBounds k true).toList)
      rw [Array.length_toList, Array.size_setIfInBounds] at hle
      omega
    · rfl
  | succ fuel ih =>
    intro listed a' w' hls hin hcl hc hI
    by_cases hal : ∀ k, k < m → listed.getD k false = true
    · exact hend (fuel + 1) listed a' w' hls hin hal hc hI
    · refine ⟨fun h0 => ?_, fun i hi => ?_⟩
      · exact absurd (fun k hk => all_listed hB hls h0 k (by omega)) hal
      · obtain ⟨u, hw, hde, hsz, h1, h2, hf⟩ := hI
        obtain ⟨hun, o, ho, hall⟩ := mem_ready.1 hi
        have hk : i < ops.size := (Array.getElem?_eq_some_iff.1 ho).1
        have him : i < m := by
          rcases Nat.lt_or_ge i m with h | h
          · exact h
          · refine absurd (fun k hk => ?_) hal
            rcases tailB2_spec hT ho h (show k < i by omega) with hb | ⟨q, p, _, hb, hp, hb'⟩
            · exact bef_listed hall hb
            · exact hcl q p (bef_listed hall hb) hp k hb'
        have hjn : listed.getD i false = false := by
          simp [Array.getD_eq_getD_getElem?, hls, hk] at hun ⊢
          exact hun
        have hbl : ∀ k, befB o k = true → listed.getD k false = true ∧ k < i := by
          intro k hk'
          obtain ⟨e, he, heb⟩ := Array.any_eq_true'.1 hk'
          simp only [Bool.and_eq_true, beq_iff_eq] at heb
          obtain ⟨hb, rfl⟩ := heb
          exact ⟨hall e he hb, ((okT_spec hB).2 i o ho).1 e he hb⟩
        have hlook := fun t ht => InvT.look (ss := ss) hB ho hbl hjn hsz h1 h2 t ht
        have hex : execOp a'.eval o = execOp (frameT ops ss u a i).eval o := execOp_congr o (fun cs b => (okT_spec hB).1 i o cs b ho) fun x hx => by
          cases x with
          | tmp t => exact at_same (hlook t (mem_looks_operand hx))
          | _ => rfl
        have hwa := wanted_same (ops := ops) (o := o) hlook
        have hO := hob i o him ho u w' hw (fun k hk' => hf k (hbl k hk').1)
        rw [← hex, ← hwa] at hO
        refine wpOp_of_upT ho (R := fun v w2 => Ge w' w2 ∧ (ss i).ok v w2) (fun v w2 hr => ?_) ?_
        · refine ih _ _ _ (by simp [hls]) ?_ ?_ ?_ (InvT.step hB hmono hin hls ho hjn hw hde hsz h1 h2 hf hr.1 hr.2)
          · intro k hk'
            by_cases hki : k = i
            · subst hki; exact him
            · refine hin k ?_
              simpa [Array.getD_eq_getD_getElem?, Array.getElem?_setIfInBounds_ne (Ne.symm hki)] using hk'
          · intro q p hq hp k hk'
            have hup : ∀ x, listed.getD x false = true → (listed.setIfInBounds i true).getD x false = true := by
              intro x hxl
              by_cases hxi : x = i
              · subst hxi; rw [hjn] at hxl; cases hxl
              · simpa [Array.getD_eq_getD_getElem?, Array.getElem?_setIfInBounds_ne (Ne.symm hxi)] using hxl
            by_cases hqi : q = i
            · subst hqi
              obtain rfl : p = o := by rw [ho] at hp; exact (Option.some.inj hp).symm
              exact hup k (hbl k hk').1
            · refine hup k (hcl q p ?_ hp k hk')
              simpa [Array.getD_eq_getD_getElem?, Array.getElem?_setIfInBounds_ne (Ne.symm hqi)] using hq
          · rw [count_set (by omega) hjn]
            omega
        · split
          · rename_i hw'; rw [if_pos hw'] at hO; exact hO
          · rename_i hw'; rw [if_neg hw'] at hO; exact ⟨Ge.refl _, hO⟩

/-- THE RULE: the first m operations in whatever order they come; the others behind them, one by one -/
theorem wp_region_TU {id : Nat} {l : List Oper} {a : Act} (m : Nat) (hm : P.follows .mixedOrders = true) (hB : okT l.toArray = true) (hle : m ≤ l.length) (hT : tailB2 l.toArray m = true)
    (h : wpT P l.toArray (wpList P l.toArray Q (l.drop m)) w0 0 (l.take m) (fun _ => a) (fun _ _ _ => True)) : (Code.region id l.toArray true).wp P Q a w0 := by
  have hlen : (l.take m).length = m := by simp; omega
  obtain ⟨ss, _, hmono, hob, hfin⟩ := wpT_slots (ops := l.toArray) a (l.take m) 0 (fun _ => .inl undef) _ _ (fun i hi => by rw [List.getElem?_take, if_pos (by omega)]; simp) (fun _ => rfl) (fun _ _ _ h => absurd h (by omega)) (fun _ h => absurd h (by omega)) h
  rw [hlen, Nat.zero_add] at hmono hob hfin
  refine wp_region_any hm ?_
  refine wpAny_of_inv2 (ss := ss) (a := a) (w0 := w0) hB (m := m) (by simpa using hle) hT hmono (fun i o hi ho u w hw hf => hob i o (Nat.zero_le _) hi ho (fun k hk => ?_) u w hw hf) (fun u w hw hf => ?_) _ _ _ _ (by simp) ?_ ?_ ?_ ?_
  · obtain ⟨e, he, heb⟩ := Array.any_eq_true'.1 hk
    simp only [Bool.and_eq_true, beq_iff_eq] at heb
    obtain ⟨hb, rfl⟩ := heb
    exact ((okT_spec hB).2 i o ho).1 e he hb
  · exact hfin u w hw hf
  · intro k hl
    rw [Array.getD_eq_getD_getElem?, Array.getElem?_replicate] at hl
    split at hl <;> simp at hl
  · intro q p hq
    rw [Array.getD_eq_getD_getElem?, Array.getElem?_replicate] at hq
    split at hq <;> simp at hq
  · simp [List.count_replicate]
  · refine ⟨fun _ => undef, Ge.drawn _ _, rfl, rfl, ?_, fun _ _ => rfl, ?_⟩
    · intro k o d ho hl
      rw [Array.getD_eq_getD_getElem?, Array.getElem?_replicate] at hl
      split at hl <;> simp at hl
    · intro k hl
      rw [Array.getD_eq_getD_getElem?, Array.getElem?_replicate] at hl
      split at hl <;> simp at hl

end
end Go.Proofs.YtmhibpmgnicolaaDoor.Dr
