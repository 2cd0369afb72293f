/-
  Times, in plain Lean: in and out.
-/
import Derived.Test.YtedccllpbajbfaaPlainB
namespace Go.Proofs.Ytedccllpbajbfaa

theorem Tm.ext' {a b : Tm} (h0 : a.e = b.e) (h1 : a.d = b.d) (h2 : a.l0 = b.l0) (h3 : a.l1 = b.l1) (h4 : a.l2 = b.l2) (h5 : a.l3 = b.l3) : a = b := by
  cases a; cases b; simp_all

theorem enter_ok {a : Tm} (h : enterE a = 0) : Chk a ∧ a.d ≤ 3 ∧ enterT a = { a with d := a.d + 1 } := by
  unfold enterE at h
  by_cases hc : Chk a
  · rw [if_pos hc] at h
    by_cases hd : a.d = 4
    · rw [if_pos hd] at h; omega
    · have := hc.2.2.2.1
      exact ⟨hc, by omega, if_pos ⟨hc, hd⟩⟩
  · rw [if_neg hc] at h; omega

theorem enter_of {a : Tm} (hc : Chk a) (hd : a.d ≤ 3) : enterE a = 0 := by
  unfold enterE
  rw [if_pos hc, if_neg (by omega)]

theorem chk_enter {a : Tm} (hc : Chk a) (hd : a.d ≤ 3) : Chk { a with d := a.d + 1 } := by
  simp only [Chk, Lok] at *
  omega

theorem leave_enter {a : Tm} (h : enterE a = 0) : leaveE (enterT a) = 0 ∧ leaveT (enterT a) = a := by
  obtain ⟨hc, hd, ht⟩ := enter_ok h
  have hk := chk_enter hc hd
  have h0 := hc.2.2.1
  rw [ht]
  refine ⟨?_, ?_⟩
  · unfold leaveE
    rw [if_pos hk, if_neg (by simp only; omega)]
  · unfold leaveT
    rw [if_pos ⟨hk, by simp only; omega⟩]
    simp only [Chk, Lok] at hc
    have : a.d = 0 ∨ a.d = 1 ∨ a.d = 2 ∨ a.d = 3 := by omega
    apply Tm.ext' <;> simp only [Tm.setAt]
    all_goals first | rfl | omega | (split <;> omega)

theorem le_chk {a b : Tm} (h : leqB a b = true) : Le a b := of_decide_eq_true h
theorem le_of {a b : Tm} (h : Le a b) : leqB a b = true := decide_eq_true h
theorem nle_of {a b : Tm} (h : ¬ Le a b) : leqB a b = false := decide_eq_false h

theorem next_ok {a : Tm} (h : nextE a = 0) : Chk a ∧ ((a.d = 0 ∧ a.e < 1073741824 ∧ nextT a = { a with e := a.e + 1 }) ∨ (1 ≤ a.d ∧ a.at (a.d - 1) < 1048576 ∧ nextT a = a.setAt (a.d - 1) (a.at (a.d - 1) + 1))) := by
  have hn := nextT_yes h
  unfold nextE at h
  by_cases hc : Chk a
  · rw [if_pos hc] at h
    refine ⟨hc, ?_⟩
    by_cases hd : a.d = 0
    · rw [if_pos hd] at h hn
      left
      have := hc.2.1
      by_cases he : a.e = 1073741824
      · rw [if_pos he] at h; omega
      · exact ⟨hd, by omega, hn⟩
    · rw [if_neg hd] at h hn
      right
      have h0 := hc.2.2.1
      have h1 := hc.2.2.2.1
      by_cases he : a.at (a.d - 1) = 1048576
      · rw [if_pos he] at h; omega
      · refine ⟨by omega, ?_, hn⟩
        simp only [Chk, Lok] at hc
        have : a.d = 1 ∨ a.d = 2 ∨ a.d = 3 ∨ a.d = 4 := by omega
        unfold Tm.at at he ⊢
        rcases this with hd | hd | hd | hd <;> simp [hd] at he ⊢ <;> omega
  · rw [if_neg hc] at h; omega

/-- the parts of 'once more' -/
theorem next_parts {a : Tm} (h : nextE a = 0) : Chk a ∧ Chk (nextT a) ∧ (nextT a).d = a.d ∧
    ((a.d = 0 ∧ (nextT a).e = a.e + 1 ∧ (nextT a).l0 = a.l0 ∧ (nextT a).l1 = a.l1 ∧ (nextT a).l2 = a.l2 ∧ (nextT a).l3 = a.l3) ∨
     (a.d = 1 ∧ (nextT a).e = a.e ∧ (nextT a).l0 = a.l0 + 1 ∧ (nextT a).l1 = a.l1 ∧ (nextT a).l2 = a.l2 ∧ (nextT a).l3 = a.l3) ∨
     (a.d = 2 ∧ (nextT a).e = a.e ∧ (nextT a).l0 = a.l0 ∧ (nextT a).l1 = a.l1 + 1 ∧ (nextT a).l2 = a.l2 ∧ (nextT a).l3 = a.l3) ∨
     (a.d = 3 ∧ (nextT a).e = a.e ∧ (nextT a).l0 = a.l0 ∧ (nextT a).l1 = a.l1 ∧ (nextT a).l2 = a.l2 + 1 ∧ (nextT a).l3 = a.l3) ∨
     (a.d = 4 ∧ (nextT a).e = a.e ∧ (nextT a).l0 = a.l0 ∧ (nextT a).l1 = a.l1 ∧ (nextT a).l2 = a.l2 ∧ (nextT a).l3 = a.l3 + 1)) := by
  obtain ⟨hc, h⟩ := next_ok h
  rcases h with ⟨hd, he, ht⟩ | ⟨hd, he, ht⟩
  · rw [ht]
    refine ⟨hc, ?_, rfl, Or.inl ⟨hd, rfl, rfl, rfl, rfl, rfl⟩⟩
    simp only [Chk, Lok] at *
    omega
  · rw [ht]
    have hc' := hc
    simp only [Chk, Lok] at hc'
    have : a.d = 1 ∨ a.d = 2 ∨ a.d = 3 ∨ a.d = 4 := by omega
    rcases this with h1 | h1 | h1 | h1 <;> simp only [h1, Tm.at, Tm.setAt] at he ⊢ <;> simp at he ⊢ <;> simp only [Chk, Lok, h1] <;> omega

theorem leq_next {a : Tm} (h : nextE a = 0) : leqB a (nextT a) = true ∧ leqB (nextT a) a = false := by
  obtain ⟨h1, h2, h3, h4⟩ := next_parts h
  refine ⟨le_of ?_, nle_of ?_⟩
  · unfold Le
    exact ⟨h1, h2, by omega⟩
  · unfold Le
    intro hh
    omega

theorem next_between {a b : Tm} (h : nextE a = 0) (h1 : leqB a b = true) (h2 : leqB b (nextT a) = true) : b = a ∨ b = nextT a := by
  obtain ⟨ha, hn, hd, hp⟩ := next_parts h
  obtain ⟨_, _, q1, q2⟩ := le_chk h1
  obtain ⟨_, _, r1, r2⟩ := le_chk h2
  rcases hp with hp | hp | hp | hp | hp
  · by_cases hx : b.e = a.e
    · left; apply Tm.ext' <;> omega
    · right; apply Tm.ext' <;> omega
  · by_cases hx : b.l0 = a.l0
    · left; apply Tm.ext' <;> omega
    · right; apply Tm.ext' <;> omega
  · by_cases hx : b.l1 = a.l1
    · left; apply Tm.ext' <;> omega
    · right; apply Tm.ext' <;> omega
  · by_cases hx : b.l2 = a.l2
    · left; apply Tm.ext' <;> omega
    · right; apply Tm.ext' <;> omega
  · by_cases hx : b.l3 = a.l3
    · left; apply Tm.ext' <;> omega
    · right; apply Tm.ext' <;> omega

theorem le_enter {a b : Tm} (h : leqB a b = true) (ha : enterE a = 0) (hb : enterE b = 0) : leqB (enterT a) (enterT b) = true := by
  obtain ⟨c1, d1, t1⟩ := enter_ok ha
  obtain ⟨c2, d2, t2⟩ := enter_ok hb
  have hl := le_chk h
  rw [t1, t2]
  refine le_of ⟨chk_enter c1 d1, chk_enter c2 d2, ?_⟩
  obtain ⟨_, _, q⟩ := hl
  simp only
  omega

theorem le_next {a b : Tm} (h : leqB a b = true) (ha : nextE a = 0) (hb : nextE b = 0) : leqB (nextT a) (nextT b) = true := by
  obtain ⟨a1, a2, a3, a4⟩ := next_parts ha
  obtain ⟨b1, b2, b3, b4⟩ := next_parts hb
  obtain ⟨_, _, q⟩ := le_chk h
  exact le_of ⟨a2, b2, by omega⟩

theorem leave_ok {a : Tm} (h : leaveE a = 0) : Chk a ∧ 1 ≤ a.d ∧ leaveT a = { a.setAt (a.d - 1) 0 with d := a.d - 1 } := by
  unfold leaveE at h
  by_cases hc : Chk a
  · rw [if_pos hc] at h
    by_cases hd : a.d = 0
    · rw [if_pos hd] at h; omega
    · have := hc.2.2.1
      exact ⟨hc, by omega, if_pos ⟨hc, hd⟩⟩
  · rw [if_neg hc] at h; omega

theorem le_leave {a b : Tm} (h : leqB a b = true) (ha : leaveE a = 0) (hb : leaveE b = 0) : leqB (leaveT a) (leaveT b) = true := by
  obtain ⟨c1, d1, t1⟩ := leave_ok ha
  obtain ⟨c2, d2, t2⟩ := leave_ok hb
  obtain ⟨_, _, q⟩ := le_chk h
  rw [t1, t2]
  simp only [Chk, Lok] at c1 c2
  have h1 : a.d = 1 ∨ a.d = 2 ∨ a.d = 3 ∨ a.d = 4 := by omega
  have h2 : b.d = a.d := by omega
  refine le_of ?_
  rcases h1 with h1 | h1 | h1 | h1 <;> simp [Le, Chk, Lok, Tm.setAt, h2, h1] <;> omega
end Go.Proofs.Ytedccllpbajbfaa
