/-
  Delete of one record out of a row of the call's own.
-/
import Derived.Test.YtidblliobkjeeaaDoorBatch
import Derived.Lib.SliceRun
namespace Go.Proofs.YtidblliobkjeeaaDoor
open Go.RowKit

def setsA (cs : Array Value) : Nat → List Value → Array Value
  | _, [] => cs
  | o, v :: r => setsA (cs.setIfInBounds o v) (o + 1) r
theorem setsA_size : ∀ (vs : List Value) (o : Nat) (cs : Array Value), (setsA cs o vs).size = cs.size
  | [], _, _ => rfl
  | v :: r, o, cs => by rw [setsA, setsA_size]; simp
theorem setsA_list : ∀ (vs : List Value) (o : Nat) (cs : Array Value), o + vs.length ≤ cs.size → (setsA cs o vs).toList = cs.toList.take o ++ vs ++ cs.toList.drop (o + vs.length)
  | [], o, cs, _ => by simp [setsA]
  | v :: r, o, cs, h => by
    have ho : o < cs.size := by simp at h; omega
    rw [setsA, setsA_list r (o + 1) _ (by simp at h ⊢; omega), Array.toList_setIfInBounds]
    have h1 : (cs.toList.set o v).take (o + 1) = cs.toList.take o ++ [v] := by
      rw [List.take_set, List.take_succ_eq_append_getElem (by simpa using ho), List.set_append_right _ _ (by simp; omega)]
      simp
      rw [Nat.min_eq_left (by omega)]
      simp
    have h2 : (cs.toList.set o v).drop (o + 1 + r.length) = cs.toList.drop (o + (v :: r).length) := by
      rw [List.drop_set_of_lt (by omega), List.length_cons]
      congr 1
      omega
    rw [h1, h2]
    simp
theorem Bx.sets {b : Nat} {t : TypeId} : ∀ (vs : List Value) (o : Nat) {w : World} {cs : Array Value}, Bx w b t cs → Bx (w.setCells b o vs) b t (setsA cs o vs)
  | [], _, _, _, h => h
  | v :: r, o, _, _, h => Bx.sets r (o + 1) (h.set o v)
theorem grownBy_sets (b : Nat) : ∀ (vs : List Value) (o : Nat) (w : World), w.grownBy (w.setCells b o vs) (some b)
  | [], _, w => World.grownBy.refl w _
  | v :: r, o, w => (grownBy_setAt w b o v).trans (grownBy_sets b r (o + 1) _)

theorem recC_drop (rs : List Rc) (k : Nat) : (recC rs).drop (k * 2) = recC (rs.drop k) := by
  induction rs generalizing k with
  | nil => simp [recC]
  | cons r t ih =>
    cases k with
    | zero => simp
    | succ k =>
      have e : recC (r :: t) = Value.int .i64 r.1 :: Value.string r.2 :: recC t := rfl
      rw [e, show (k + 1) * 2 = k * 2 + 1 + 1 by omega]
      simp only [List.drop_succ_cons]
      exact ih k
theorem recC_take (rs : List Rc) (k : Nat) : (recC rs).take (k * 2) = recC (rs.take k) := by
  induction rs generalizing k with
  | nil => simp [recC]
  | cons r t ih =>
    cases k with
    | zero => simp [recC]
    | succ k =>
      have e : recC (r :: t) = Value.int .i64 r.1 :: Value.string r.2 :: recC t := rfl
      have e2 : recC ((r :: t).take (k + 1)) = Value.int .i64 r.1 :: Value.string r.2 :: recC (t.take k) := rfl
      rw [e, e2, show (k + 1) * 2 = k * 2 + 1 + 1 by omega]
      simp only [List.take_succ_cons]
      rw [ih k]

theorem run_clear1 (w : World) (ty : TypeId) (b o c : Nat) (h0 : (w.cell? ⟨b, o, none⟩).isSome = true) (h1 : (w.cell? ⟨b, o + 1, none⟩).isSome = true) (f0 : w.frozen? ⟨b, o, none⟩ = false) (f1 : w.frozen? ⟨b, o + 1, none⟩ = false) :
    (Builtin.clear_ #[28] ty #[.slice (some ⟨b, o, none⟩) 1 c]).run Tryd.prog w = .ok (.tuple #[]) (w.setCells b o [.int .i64 0, .string ⟨#[]⟩]) := by
  have hv : ∀ w, (zeroValue 32).run Tryd.prog w = .ok (.agg #[.int .i64 0, .string ⟨#[]⟩]) w := fun w => by kernel_rfl
  have hzc : (Builtin.zeroCells (Value.agg #[.int .i64 0, .string ⟨#[]⟩]).cells 1).toList = [.int .i64 0, .string ⟨#[]⟩] := by kernel_rfl
  have hst := run_storeCells_cells (P := Tryd.prog) b o [.int .i64 0, .string ⟨#[]⟩] 0 w (by intro j hj; simp at hj; rcases j with _ | _ | j <;> first | exact h0 | exact h1 | omega) (by intro j hj; simp at hj; rcases j with _ | _ | j <;> first | exact f0 | exact f1 | omega) (by intro v hv'; simp at hv'; rcases hv' with rfl | rfl <;> rfl)
  simp only [Nat.add_zero] at hst
  simp [Builtin.clear_, run_underlying Tryd.underlying28, hv, hzc, hst]

theorem grownBy_drawn (w : World) (row : Option Nat) : w.grownBy w.drew row := ⟨rfl, rfl, rfl, Nat.le_refl _, fun _ _ _ => rfl⟩

theorem cut_tail (g cap n q : Nat) (h1 : q < n) (h2 : n ≤ q + 1) (hc : n ≤ cap) (w' : World) :
    (Instr.slice 28 (.slice (some ⟨g, 0, none⟩) q cap) (some (.int .i64 (q : Int))) (some (.int .i64 (n : Int))) none).run Tryd.prog w' = .ok (.slice (some ⟨g, q * 2, none⟩) 1 (cap - q)) w' := by
  have g1 : (q : Int) ≤ (n : Int) := by omega
  have g2 : (n : Int) ≤ (cap : Int) := by omega
  have g4 : n - q = 1 := by omega
  have g5 : ¬ cap = q := by omega
  clear h1 h2 hc
  go_simp
theorem cut_mid (g cap n k j : Nat) (h1 : k < j) (h2 : j ≤ k + 1) (h3 : j ≤ n) (hc : n ≤ cap) (w' : World) :
    (Instr.slice 28 (.slice (some ⟨g, 0, none⟩) n cap) (some (.int .i64 (k : Int))) (some (.int .i64 (j : Int))) (some (.int .i64 (n : Int)))).run Tryd.prog w' = .ok (.slice (some ⟨g, k * 2, none⟩) 1 (n - k)) w' := by
  have g1 : (k : Int) ≤ (j : Int) := by omega
  have g2 : (n : Int) ≤ (cap : Int) := by omega
  have g4 : j - k = 1 := by omega
  have g6 : (j : Int) ≤ (n : Int) := by omega
  have g7 : ¬ n = k := by omega
  clear h1 h2 h3 hc
  go_simp
theorem cut_rest (g cap n j : Nat) (h1 : j ≤ n) (hc : n ≤ cap) :
    ∃ ad : Addr, (∀ w' : World, (Instr.slice 28 (.slice (some ⟨g, 0, none⟩) n cap) (some (.int .i64 (j : Int))) none none).run Tryd.prog w' = .ok (.slice (some ad) (n - j) (cap - j)) w') ∧ (j < n → ad = ⟨g, j * 2, none⟩) := by
  have g1 : (j : Int) ≤ (n : Int) := by omega
  by_cases h : cap = j
  · refine ⟨⟨g, 0, none⟩, fun w' => ?_, fun h' => by omega⟩
    have g2 : n = j := by omega
    subst g2
    subst h
    clear h1 hc g1
    go_simp
  · refine ⟨⟨g, j * 2, none⟩, fun w' => ?_, fun _ => rfl⟩
    clear h1 hc
    go_simp

set_option maxRecDepth 100000 in
set_option maxHeartbeats 8000000 in
theorem delete_go {w : World} {base : Nat} {v : Value} {L : List Rc} {k j : Nat} (h : OwnR w base v L) (hl : L.length ≤ 1000000) (hk : k < L.length) (hj : j = k + 1) :
    Calls Tryd.prog 16 #[v, .int .i64 (k : Int), .int .i64 (j : Int)] w fun e w' => ∃ v', e = .returned v' ∧ OwnR w' base v' (L.eraseIdx k) ∧ v'.ownBlock = v.ownBlock ∧ w.grownBy w' v.ownBlock := by
  have hrec := h.recsAt
  obtain ⟨h1, h2⟩ := h
  rcases h2 with ⟨_, hn⟩ | ⟨g, cap, cur, rfl, hb, hh, hle, hm, hs, ht⟩
  · omega
  obtain ⟨i0, hi0, hz0, hz1, hz2⟩ := info_parts info32
  -- the two slices
  have hT := take_run hrec (Nat.le_of_lt hk)
  obtain ⟨ad, hD, hAD⟩ := cut_rest g cap L.length j (by omega) hle
  -- what is appended
  obtain ⟨news, hnews⟩ : ∃ news, news = recC (L.drop j) := ⟨_, rfl⟩
  have hnl : news.length = (L.length - j) * 2 := by rw [hnews, recC_len]; simp
  have hX : Bx w.drew g 32 cur := hh
  have hsrc : ∀ t u, news[t]? = some u → w.drew.cell? (ad.add t) = some u := by
    intro t u hu
    have htl : t < (L.length - j) * 2 := by
      have := (List.getElem?_eq_some_iff.1 hu).1
      rwa [hnl] at this
    rw [hAD (by omega), addr_add, hX.cell]
    rw [hnews, ← recC_drop, List.getElem?_drop, ← ht, List.getElem?_take, if_pos (by omega), Array.getElem?_toList] at hu
    exact hu
  have hone : ∀ u ∈ news, u.oneCell' = true := by
    intro u hu
    rw [hnews] at hu
    unfold recC at hu
    simp only [List.mem_flatMap, encR, List.mem_cons, List.not_mem_nil, or_false] at hu
    obtain ⟨r, _, rfl | rfl⟩ := hu <;> rfl
  have hsp : ∀ t, t < news.length → (w.drew.cell? ⟨g, 0 + k * 2 + t, none⟩).isSome = true ∧ w.drew.frozen? ⟨g, 0 + k * 2 + t, none⟩ = false := by
    intro t ht'
    rw [hX.cell, hX.frozen]
    refine ⟨?_, rfl⟩
    rw [Array.getElem?_eq_getElem (by omega)]
    rfl
  -- the world behind the append
  obtain ⟨W1, hW1⟩ : ∃ W1, W1 = w.drew.setCells g (0 + k * 2) news := ⟨_, rfl⟩
  have hX1 : Bx W1 g 32 (setsA cur (0 + k * 2) news) := by rw [hW1]; exact hX.sets _ _
  obtain ⟨q, hq⟩ : ∃ q, q = k + (L.length - j) := ⟨_, rfl⟩
  have hqn : q + 1 = L.length := by omega
  have hcl : ∀ ty c, (Builtin.clear_ #[28] ty #[.slice (some ⟨g, q * 2, none⟩) 1 c]).run Tryd.prog W1 = .ok (.tuple #[]) (W1.setCells g (q * 2) [.int .i64 0, .string ⟨#[]⟩]) := by
    intro ty c
    refine run_clear1 W1 ty g (q * 2) c ?_ ?_ (hX1.frozen _) (hX1.frozen _)
    · rw [hX1.cell, Array.getElem?_eq_getElem (by rw [setsA_size]; omega)]; rfl
    · rw [hX1.cell, Array.getElem?_eq_getElem (by rw [setsA_size]; omega)]; rfl
  have hS2 := cut_tail g cap L.length q (by omega) (by omega) hle
  have hS0 := cut_mid g cap L.length k j (by omega) (by omega) (by omega) hle
  have hne : ((k : Int) == (j : Int)) = false := by simp; omega
  have hroom : k + (L.length - j) ≤ cap := by omega
  have HSRC := Lib.hid hsrc
  have HONE := Lib.hid hone
  have HSP := Lib.hid hsp
  have HW1 := Lib.hid hW1
  have HNL := Lib.hid hnl
  have HX1 := Lib.hid hX1
  have HQ := Lib.hid hq
  have HNEWS := Lib.hid hnews
  have HT := Lib.hid ht
  have HJ := Lib.hid hj
  have HQN := Lib.hid hqn
  have hkj : k < j := by omega
  clear hsrc hone hsp hW1 hnl hX1 hq hnews hrec h1 hh hX ht hAD hj hqn
  go_enter Tryd.func16, Tryd.ntmps16
  go_wp2_with fail
  go_region_law ((refine step_append_room (by rfl) (.tmp 22) (.tmp 25) 28 (by rfl) 32 i0 2 Tryd.underlying28 hi0 hz1 g 0 k cap (by simp [Act.eval, Act.put]) ad (L.length - j) (cap - j) news (by simp [Act.eval, Act.put]) HNL.out HSRC.out HONE.out hroom HSP.out ?_; rw [← HW1.out, ← HQ.out]))
  go_wp2
  go_returns
  have hj := HJ.out
  have hqn := HQN.out
  have hq := HQ.out
  have hel : (L.eraseIdx k).length = q := by rw [List.length_eraseIdx_of_lt hk]; omega
  have hnl := HNL.out
  refine ⟨_, rfl, ⟨recC_len _, Or.inr ⟨g, cap, _, by rw [hel]; rfl, hb, HX1.out.sets [.int .i64 0, .string ⟨#[]⟩] (q * 2), by omega, hm, by rw [setsA_size, setsA_size, hs], ?_⟩⟩, rfl, ?_⟩
  · rw [hel, setsA_list _ _ _ (by rw [setsA_size]; simp; omega), List.append_assoc, List.take_append_of_le_length (by rw [List.length_take, Array.length_toList, setsA_size]; omega), List.take_take, Nat.min_self,
      setsA_list _ _ _ (by omega), List.take_append_of_le_length (by rw [List.length_append, List.length_take, Array.length_toList]; omega), List.take_of_length_le (by rw [List.length_append, List.length_take, Array.length_toList]; omega),
      List.eraseIdx_eq_take_drop_succ, recC_append, ← hj, HNEWS.out, Nat.zero_add]
    congr 1
    rw [← recC_take, ← HT.out, List.take_take, Nat.min_eq_left (by omega)]
  · rw [HW1.out]
    exact ((grownBy_drawn w _).trans (grownBy_sets g _ _ _)).trans (grownBy_sets g _ _ _)

theorem delete_any {w : World} {base : Nat} {v : Value} {L : List Rc} {k : Nat} (h : OwnR w base v L) (hl : L.length ≤ 1000000) (hk : k < L.length) :
    Calls Tryd.prog 16 #[v, .int .i64 (k : Int), .int .i64 ((k : Int) + 1)] w fun e w' => ∃ v', e = .returned v' ∧ OwnR w' base v' (L.eraseIdx k) ∧ v'.ownBlock = v.ownBlock ∧ w.grownBy w' v.ownBlock :=
  delete_go h hl hk (j := k + 1) rfl
end Go.Proofs.YtidblliobkjeeaaDoor
