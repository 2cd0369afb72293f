/-
  The rule of Draw inside a round of a range over a function (the wide fence).
-/
import Derived.OrdersIn
import Derived.TacticsIn
import Derived.RangeFuncCalls
import Derived.Test.YtmhibpmgnicolaaDoorDraw
namespace Go.Proofs.YtmhibpmgnicolaaDoor.Dr
open Go.RowKit

section
variable {P : Program} {ops : Array Oper} {Q : Exit → Act → World → Prop} {w0 : World} {l₀ n : Nat}

theorem wpOpIn_of_upT {i : Nat} {o : Oper} (hi : ops[i]? = some o) (hnd : ∀ c, o.op ≠ .defer c) {a : Act} {w : World} {R : Value → World → Prop} {K : Act → World → Prop}
    (hK : ∀ v w', R v w' → K (a.put o.dst v) w')
    (h : if Region.wanted o (yielded ops a.tmps) then upT P R ((execOp a.eval o).run P w) else R undef w) : wpOpIn (Fence.wide.inRound l₀) n P ops Q i K a w := by
  unfold Go.wpOpIn
  simp only [hi]
  split
  · rename_i hw
    rw [if_pos hw] at h
    refine ⟨fun _ _ => trivial, ?_⟩
    rw [Fence.inRound_round, Oper.semAt_some _ _ _ hnd]
    generalize (execOp a.eval o).run P w = r at *
    cases r with
    | ok n w' =>
      cases n <;> simp only [upT] at h <;> simp only [Oper.uponIn]
      case value v => exact hK _ _ h
      case skip => exact hK _ _ h
      case enter f args =>
        refine ⟨fun hh => (by cases hh), CallsIn.inRound l₀ (callsIn_wide.2 ?_)⟩
        exact h.mono fun e w'' ⟨v, he, hr⟩ => by subst he; exact hK _ _ hr
    | halt x w' => simp only [upT] at h
  · rename_i hw
    rw [if_neg hw] at h
    exact ⟨fun _ _ => trivial, hK _ _ h⟩

theorem count_all {listed : Array Bool} (h : listed.toList.count true = listed.size) : ∀ k, k < listed.size → listed.getD k false = true := by
  intro k hk
  rcases hb : listed.getD k false with _ | _
  · exfalso
    have := count_set (listed := listed) (i := k) hk hb
    have hle := List.count_le_length (a := true) (l := (listed.setIfInBounds k true).toList)
    rw [Array.length_toList, Array.size_setIfInBounds] at hle
    omega
  · rfl

theorem wpAnyIn_of_inv (hB : okT ops = true) (hnd : ∀ (i : Nat) (o : Oper) c, ops[i]? = some o → o.op ≠ .defer c) {ss : Nat → Slot} (hmono : ∀ k, k < ops.size → (ss k).mono) {a : Act}
    (hob : ∀ (i : Nat) (o : Oper), i < ops.size → ops[i]? = some o → ∀ u w, Ge w0 w → (∀ k, befB o k = true → (ss k).fact (u k) w) →
        if Region.wanted o (yielded ops (frameT ops ss u a i).tmps) then upT P (fun v w' => Ge w w' ∧ (ss i).ok v w') ((execOp (frameT ops ss u a i).eval o).run P w) else (ss i).ok undef w)
    (hfin : ∀ u w, Ge w0 w → (∀ k, k < ops.size → (ss k).fact (u k) w) → Q .normal (frameT ops ss u a ops.size) w) :
    ∀ (fuel : Nat) (listed : Array Bool) (a' : Act) (w' : World), listed.size = ops.size → fuel + listed.toList.count true = ops.size → InvT ops ss a w0 listed a' w' → wpAnyIn (Fence.wide.inRound l₀) n P .any ops Q fuel listed a' w' := by
  intro fuel
  induction fuel with
  | zero =>
    intro listed a' w' hls hc hI
    have hall : ∀ k, k < ops.size → listed.getD k false = true := fun k hk => count_all (by omega) k (by omega)
    refine ⟨?_, ?_⟩
    · cases hr : Region.ready .any ops listed with
      | nil => rfl
      | cons x xs =>
        exfalso
        have hx' : x ∈ Region.ready .any ops listed := by rw [hr]; exact List.mem_cons_self
        obtain ⟨hun, o, ho, _⟩ := mem_ready.1 hx'
        have hk : x < ops.size := (Array.getElem?_eq_some_iff.1 ho).1
        have := hall x hk
        simp [Array.getD_eq_getD_getElem?, hls, hk] at this hun
        rw [this] at hun
        cases hun
    · obtain ⟨u, hw, hde, hsz, h1, h2, hf⟩ := hI
      have : a' = frameT ops ss u a ops.size := by
        have e1 : a'.tmps = (frameT ops ss u a ops.size).tmps := by
          apply Array.ext_getElem?
          intro t
          by_cases hlt : t < a.tmps.size
          · by_cases hx : ∃ (k : Nat) (p : Oper), k < ops.size ∧ ops[k]? = some p ∧ p.dst = some t
            · obtain ⟨k, p, hk, hp, hd⟩ := hx
              rw [h1 k p t hp (hall k hk) hd hlt, frameT_on hB ss u a t hlt k p hp hd _ hk]
            · rw [h2 t (fun k p hp hl hd => hx ⟨k, p, (Array.getElem?_eq_some_iff.1 hp).1, hp, hd⟩), frameT_off ss u a t _ (fun k p hk hp hd => hx ⟨k, p, hk, hp, hd⟩)]
          · rw [Array.getElem?_eq_none (by omega), Array.getElem?_eq_none (by rw [frameT_size]; omega)]
        have e2 : a'.defers = (frameT ops ss u a ops.size).defers := by rw [hde, frameT_defers]
        cases a'
        cases hfr : frameT ops ss u a ops.size
        rw [hfr] at e1 e2
        simp only at e1 e2
        rw [e1, e2]
      rw [this]
      exact hfin u w' hw (fun k hk => hf k (hall k hk))
  | succ fuel ih =>
    intro listed a' w' hls hc hI
    refine ⟨fun h0 => ?_, fun i hi => ?_⟩
    · exfalso
      have hall := all_listed hB hls h0
      have : listed.toList.count true = listed.toList.length := by
        rw [List.count_eq_length]
        intro b hb
        obtain ⟨k, hk, e⟩ := List.getElem_of_mem hb
        have := hall k (by simp at hk; omega)
        simp at hk
        simp [Array.getD_eq_getD_getElem?, hk] at this
        simp at e
        rw [← e, this]
      rw [Array.length_toList] at this
      omega
    · obtain ⟨u, hw, hde, hsz, h1, h2, hf⟩ := hI
      obtain ⟨hun, o, ho, hall⟩ := mem_ready.1 hi
      have hk : i < ops.size := (Array.getElem?_eq_some_iff.1 ho).1
      have hjn : listed.getD i false = false := by
        simp [Array.getD_eq_getD_getElem?, hls, hk] at hun ⊢
        exact hun
      have hbl : ∀ k, befB o k = true → listed.getD k false = true ∧ k < i := by
        intro k hk'
        obtain ⟨e, he, heb⟩ := Array.any_eq_true'.1 hk'
        simp only [Bool.and_eq_true, beq_iff_eq] at heb
        obtain ⟨hb, rfl⟩ := heb
        exact ⟨hall e he hb, ((okT_spec hB).2 i o ho).1 e he hb⟩
      have hlook := fun t ht => InvT.look (ss := ss) hB ho hbl hjn hsz h1 h2 t ht
      have hex : execOp a'.eval o = execOp (frameT ops ss u a i).eval o := execOp_congr o (fun cs b => (okT_spec hB).1 i o cs b ho) fun x hx => by
        cases x with
        | tmp t => exact at_same (hlook t (mem_looks_operand hx))
        | _ => rfl
      have hwa := wanted_same (ops := ops) (o := o) hlook
      have hO := hob i o hk ho u w' hw (fun k hk' => hf k (hbl k hk').1)
      rw [← hex, ← hwa] at hO
      refine wpOpIn_of_upT ho (fun c => hnd i o c ho) (R := fun v w2 => Ge w' w2 ∧ (ss i).ok v w2) (fun v w2 hr => ?_) ?_
      · refine ih _ _ _ (by simp [hls]) ?_ (InvT.step hB hmono (fun k hl => ?_) hls ho hjn hw hde hsz h1 h2 hf hr.1 hr.2)
        · rw [count_set (by omega) hjn]
          omega
        · rcases Nat.lt_or_ge k ops.size with h | h
          · exact h
          · simp [Array.getD_eq_getD_getElem?, Array.getElem?_eq_none (show listed.size ≤ k by omega)] at hl
      · split
        · rename_i hw'; rw [if_pos hw'] at hO; exact hO
        · rename_i hw'; rw [if_neg hw'] at hO; exact ⟨Ge.refl _, hO⟩

def noDefer (ops : Array Oper) : Bool := ops.all fun o => match o.op with | .defer _ => false | _ => true

/-- all of them in whatever order, within a round -/
theorem wpIn_region_T {id : Nat} {l : List Oper} {a : Act} (hm : P.follows .mixedOrders = true) (hB : okT l.toArray = true) (hD : noDefer l.toArray = true)
    (h : wpT P l.toArray (Q .normal) w0 0 l (fun _ => a) (fun _ _ _ => True)) : (Code.region id l.toArray true).wpIn (Fence.wide.inRound l₀) n P Q a w0 := by
  obtain ⟨ss, _, hmono, hob, hfin⟩ := wpT_slots (ops := l.toArray) a l 0 (fun _ => .inl undef) _ _ (fun i hi => by simp) (fun _ => rfl) (fun _ _ _ h => absurd h (by omega)) (fun _ h => absurd h (by omega)) h
  rw [Nat.zero_add] at hmono hob hfin
  refine wpIn_region_any hm ?_
  refine wpAnyIn_of_inv (ss := ss) (a := a) (w0 := w0) hB (fun i o c ho e => ?_) (by simpa using hmono) (fun i o hi ho u w hw hf => hob i o (Nat.zero_le _) (by simpa using hi) ho (fun k hk => ?_) u w hw hf) (fun u w hw hf => ?_) _ _ _ _ (by simp) ?_ ?_
  · have := Array.all_eq_true'.1 hD o (Array.mem_of_getElem? ho)
    rw [e] at this
    cases this
  · obtain ⟨e, he, heb⟩ := Array.any_eq_true'.1 hk
    simp only [Bool.and_eq_true, beq_iff_eq] at heb
    obtain ⟨hb, rfl⟩ := heb
    exact ((okT_spec hB).2 i o ho).1 e he hb
  · simpa using hfin u w hw (by simpa using hf)
  · simp [List.count_replicate]
  · refine ⟨fun _ => undef, Ge.drawn _ _, rfl, rfl, ?_, fun _ _ => rfl, ?_⟩
    · intro k o d ho hl
      rw [Array.getD_eq_getD_getElem?, Array.getElem?_replicate] at hl
      split at hl <;> simp at hl
    · intro k hl
      rw [Array.getD_eq_getD_getElem?, Array.getElem?_replicate] at hl
      split at hl <;> simp at hl
end
end Go.Proofs.YtmhibpmgnicolaaDoor.Dr
