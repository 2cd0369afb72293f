/-
  The reference's rune width, by classes of its bytes.
-/
import Derived.Test.YtmhibpmgnicolaaDoorCheckR
namespace Go.Proofs.YtmhibpmgnicolaaDoor
open Go.RowKit Go.Lib

/-- how wide the rune is with which bytes begin; 0: none begins there -/
def refW (n b0 b1 b2 b3 : Nat) : Nat :=
  if b0 < 128 then 1
  else if 194 ≤ b0 ∧ b0 ≤ 223 ∧ 2 ≤ n ∧ 128 ≤ b1 ∧ b1 ≤ 191 then 2
  else if 224 ≤ b0 ∧ b0 ≤ 239 ∧ 3 ≤ n ∧ 128 ≤ b1 ∧ b1 ≤ 191 ∧ 128 ≤ b2 ∧ b2 ≤ 191 then (if b0 = 224 ∧ b1 < 160 ∨ b0 = 237 ∧ 159 < b1 then 0 else 3)
  else if 240 ≤ b0 ∧ b0 ≤ 244 ∧ 4 ≤ n ∧ 128 ≤ b1 ∧ b1 ≤ 191 ∧ 128 ≤ b2 ∧ b2 ≤ 191 ∧ 128 ≤ b3 ∧ b3 ≤ 191 then (if b0 = 240 ∧ b1 < 144 ∨ b0 = 244 ∧ 143 < b1 then 0 else 4)
  else 0

theorem strIndex (s : ByteArray) (j : Nat) (hj : j < s.size) (w : World) : (Instr.index 9 (.string s) (.int .i64 (j : Int))).run Tryd.prog w = .ok (.int .u8 (((s.data.toList.getD j 0).toNat : Nat) : Int)) w := by
  have h1 : (j : Int) < (s.size : Int) := by omega
  have h2 : s.data.toList.getD j 0 = s[j] := by
    have hj' : j < s.data.size := hj
    simp only [List.getD, Array.getElem?_toList, Array.getElem?_eq_getElem hj']
    rfl
  rw [h2]
  go_simp
theorem tail_any (c : Int) (q : Bool) (hq : (decide (128 ≤ c) && decide (c ≤ 191)) = q) (w : World) : Calls Tryd.prog 83 #[.int .u8 c] w fun e w' => e = .returned (.bool q) ∧ w = w' := by
  subst hq
  rcases Bool.eq_false_or_eq_true (decide (128 ≤ c)) with h1 | h1 <;> rcases Bool.eq_false_or_eq_true (decide (c ≤ 191)) with h2 | h2
  all_goals
    rw [h1, h2]
    go_enter Tryd.func83, Tryd.ntmps83
    go_wp2
    go_returns
    exact ⟨rfl, rfl⟩
theorem tail_yes {b : Nat} (h1 : 128 ≤ b) (h2 : b ≤ 191) : (decide ((128 : Int) ≤ (b : Int)) && decide ((b : Int) ≤ 191)) = true := by simp; omega
theorem tail_no {b : Nat} (h : ¬ (128 ≤ b ∧ b ≤ 191)) : (decide ((128 : Int) ≤ (b : Int)) && decide ((b : Int) ≤ 191)) = false := by simp; omega

set_option maxHeartbeats 2000000 in
theorem w_a1 (s : ByteArray) (at' n b0 b1 b2 b3 : Nat) (hn : s.size = at' + n) (hsz : s.size ≤ 64)
    (e0 : ∀ w, (Instr.index 9 (.string s) (.int .i64 (at' : Int))).run Tryd.prog w = .ok (.int .u8 (b0 : Int)) w)
    (w : World) (q1 : 1 ≤ n) (q2 : n ≤ 1) (p1 : 0 ≤ b0) (p2 : b0 ≤ 127) :
    Calls Tryd.prog 81 #[.string s, .int .i64 (at' : Int)] w fun e w' => e = .returned (.int .i64 ((refW n b0 b1 b2 b3 : Nat) : Int)) ∧ w = w' := by
  have hE : refW n b0 b1 b2 b3 = 1 := by rw [refW, if_pos (by omega)]
  rw [hE]
  clear hE
  have hN : (s.size : Int) - (at' : Int) = (n : Int) := by omega
  obtain ⟨c0, hc0⟩ : ∃ c : Int, c = (b0 : Int) := ⟨_, rfl⟩
  obtain ⟨m, hm⟩ : ∃ m : Int, m = (n : Int) := ⟨_, rfl⟩
  rw [← hm] at hN
  rw [← hc0] at e0
  have f0 : decide (c0 < 128) = true := by simp; omega
  have f1 : decide (194 ≤ c0) = false := by simp; omega
  have f2 : decide (c0 ≤ 223) = true := by simp; omega
  have f3 : decide (224 ≤ c0) = false := by simp; omega
  have f4 : decide (c0 ≤ 239) = true := by simp; omega
  have f5 : decide (240 ≤ c0) = false := by simp; omega
  have f6 : decide (c0 ≤ 244) = true := by simp; omega
  have g1 : decide (1 < m) = false := by simp; omega
  have g2 : decide (2 ≤ m) = false := by simp; omega
  have g3 : decide (3 ≤ m) = false := by simp; omega
  have g4 : decide (4 ≤ m) = false := by simp; omega
  have k224 : (c0 == 224) = false := by simp; omega
  have k237 : (c0 == 237) = false := by simp; omega
  have k240 : (c0 == 240) = false := by simp; omega
  have k244 : (c0 == 244) = false := by simp; omega
  have m0 : (0 : Int) ≤ m := by omega
  have m1 : m ≤ 64 := by omega
  have m2 : (0 : Int) ≤ (at' : Int) := by omega
  have m3 : (at' : Int) ≤ 64 := by omega
  clear hsz hc0 hm hn q1 q2 p1 p2
  go_enter Tryd.func81, Tryd.ntmps81
  go_wp2
  go_returns
  exact ⟨rfl, rfl⟩

set_option maxHeartbeats 2000000 in
theorem w_a2 (s : ByteArray) (at' n b0 b1 b2 b3 : Nat) (hn : s.size = at' + n) (hsz : s.size ≤ 64)
    (e0 : ∀ w, (Instr.index 9 (.string s) (.int .i64 (at' : Int))).run Tryd.prog w = .ok (.int .u8 (b0 : Int)) w)
    (w : World) (q1 : 1 ≤ n) (q2 : n ≤ 1) (p1 : 128 ≤ b0) (p2 : b0 ≤ 193) :
    Calls Tryd.prog 81 #[.string s, .int .i64 (at' : Int)] w fun e w' => e = .returned (.int .i64 ((refW n b0 b1 b2 b3 : Nat) : Int)) ∧ w = w' := by
  have hE : refW n b0 b1 b2 b3 = 0 := by rw [refW, if_neg (by omega), if_neg (by omega), if_neg (by omega), if_neg (by omega)]
  rw [hE]
  clear hE
  have hN : (s.size : Int) - (at' : Int) = (n : Int) := by omega
  obtain ⟨c0, hc0⟩ : ∃ c : Int, c = (b0 : Int) := ⟨_, rfl⟩
  obtain ⟨m, hm⟩ : ∃ m : Int, m = (n : Int) := ⟨_, rfl⟩
  rw [← hm] at hN
  rw [← hc0] at e0
  have f0 : decide (c0 < 128) = false := by simp; omega
  have f1 : decide (194 ≤ c0) = false := by simp; omega
  have f2 : decide (c0 ≤ 223) = true := by simp; omega
  have f3 : decide (224 ≤ c0) = false := by simp; omega
  have f4 : decide (c0 ≤ 239) = true := by simp; omega
  have f5 : decide (240 ≤ c0) = false := by simp; omega
  have f6 : decide (c0 ≤ 244) = true := by simp; omega
  have g1 : decide (1 < m) = false := by simp; omega
  have g2 : decide (2 ≤ m) = false := by simp; omega
  have g3 : decide (3 ≤ m) = false := by simp; omega
  have g4 : decide (4 ≤ m) = false := by simp; omega
  have k224 : (c0 == 224) = false := by simp; omega
  have k237 : (c0 == 237) = false := by simp; omega
  have k240 : (c0 == 240) = false := by simp; omega
  have k244 : (c0 == 244) = false := by simp; omega
  have m0 : (0 : Int) ≤ m := by omega
  have m1 : m ≤ 64 := by omega
  have m2 : (0 : Int) ≤ (at' : Int) := by omega
  have m3 : (at' : Int) ≤ 64 := by omega
  clear hsz hc0 hm hn q1 q2 p1 p2
  go_enter Tryd.func81, Tryd.ntmps81
  go_wp2
  go_returns
  exact ⟨rfl, rfl⟩

set_option maxHeartbeats 2000000 in
theorem w_a3 (s : ByteArray) (at' n b0 b1 b2 b3 : Nat) (hn : s.size = at' + n) (hsz : s.size ≤ 64)
    (e0 : ∀ w, (Instr.index 9 (.string s) (.int .i64 (at' : Int))).run Tryd.prog w = .ok (.int .u8 (b0 : Int)) w)
    (w : World) (q1 : 1 ≤ n) (q2 : n ≤ 1) (p1 : 194 ≤ b0) (p2 : b0 ≤ 223) :
    Calls Tryd.prog 81 #[.string s, .int .i64 (at' : Int)] w fun e w' => e = .returned (.int .i64 ((refW n b0 b1 b2 b3 : Nat) : Int)) ∧ w = w' := by
  have hE : refW n b0 b1 b2 b3 = 0 := by rw [refW, if_neg (by omega), if_neg (by omega), if_neg (by omega), if_neg (by omega)]
  rw [hE]
  clear hE
  have hN : (s.size : Int) - (at' : Int) = (n : Int) := by omega
  obtain ⟨c0, hc0⟩ : ∃ c : Int, c = (b0 : Int) := ⟨_, rfl⟩
  obtain ⟨m, hm⟩ : ∃ m : Int, m = (n : Int) := ⟨_, rfl⟩
  rw [← hm] at hN
  rw [← hc0] at e0
  have f0 : decide (c0 < 128) = false := by simp; omega
  have f1 : decide (194 ≤ c0) = true := by simp; omega
  have f2 : decide (c0 ≤ 223) = true := by simp; omega
  have f3 : decide (224 ≤ c0) = false := by simp; omega
  have f4 : decide (c0 ≤ 239) = true := by simp; omega
  have f5 : decide (240 ≤ c0) = false := by simp; omega
  have f6 : decide (c0 ≤ 244) = true := by simp; omega
  have g1 : decide (1 < m) = false := by simp; omega
  have g2 : decide (2 ≤ m) = false := by simp; omega
  have g3 : decide (3 ≤ m) = false := by simp; omega
  have g4 : decide (4 ≤ m) = false := by simp; omega
  have k224 : (c0 == 224) = false := by simp; omega
  have k237 : (c0 == 237) = false := by simp; omega
  have k240 : (c0 == 240) = false := by simp; omega
  have k244 : (c0 == 244) = false := by simp; omega
  have m0 : (0 : Int) ≤ m := by omega
  have m1 : m ≤ 64 := by omega
  have m2 : (0 : Int) ≤ (at' : Int) := by omega
  have m3 : (at' : Int) ≤ 64 := by omega
  clear hsz hc0 hm hn q1 q2 p1 p2
  go_enter Tryd.func81, Tryd.ntmps81
  go_wp2
  go_returns
  exact ⟨rfl, rfl⟩

set_option maxHeartbeats 2000000 in
theorem w_a4 (s : ByteArray) (at' n b0 b1 b2 b3 : Nat) (hn : s.size = at' + n) (hsz : s.size ≤ 64)
    (e0 : ∀ w, (Instr.index 9 (.string s) (.int .i64 (at' : Int))).run Tryd.prog w = .ok (.int .u8 (b0 : Int)) w)
    (w : World) (q1 : 1 ≤ n) (q2 : n ≤ 1) (p1 : 224 ≤ b0) (p2 : b0 ≤ 239) :
    Calls Tryd.prog 81 #[.string s, .int .i64 (at' : Int)] w fun e w' => e = .returned (.int .i64 ((refW n b0 b1 b2 b3 : Nat) : Int)) ∧ w = w' := by
  have hE : refW n b0 b1 b2 b3 = 0 := by rw [refW, if_neg (by omega), if_neg (by omega), if_neg (by omega), if_neg (by omega)]
  rw [hE]
  clear hE
  have hN : (s.size : Int) - (at' : Int) = (n : Int) := by omega
  obtain ⟨c0, hc0⟩ : ∃ c : Int, c = (b0 : Int) := ⟨_, rfl⟩
  obtain ⟨m, hm⟩ : ∃ m : Int, m = (n : Int) := ⟨_, rfl⟩
  rw [← hm] at hN
  rw [← hc0] at e0
  have f0 : decide (c0 < 128) = false := by simp; omega
  have f1 : decide (194 ≤ c0) = true := by simp; omega
  have f2 : decide (c0 ≤ 223) = false := by simp; omega
  have f3 : decide (224 ≤ c0) = true := by simp; omega
  have f4 : decide (c0 ≤ 239) = true := by simp; omega
  have f5 : decide (240 ≤ c0) = false := by simp; omega
  have f6 : decide (c0 ≤ 244) = true := by simp; omega
  have g1 : decide (1 < m) = false := by simp; omega
  have g2 : decide (2 ≤ m) = false := by simp; omega
  have g3 : decide (3 ≤ m) = false := by simp; omega
  have g4 : decide (4 ≤ m) = false := by simp; omega
  have k240 : (c0 == 240) = false := by simp; omega
  have k244 : (c0 == 244) = false := by simp; omega
  have m0 : (0 : Int) ≤ m := by omega
  have m1 : m ≤ 64 := by omega
  have m2 : (0 : Int) ≤ (at' : Int) := by omega
  have m3 : (at' : Int) ≤ 64 := by omega
  clear hsz hc0 hm hn q1 q2 p1 p2
  go_enter Tryd.func81, Tryd.ntmps81
  go_wp2
  go_returns
  exact ⟨rfl, rfl⟩

set_option maxHeartbeats 2000000 in
theorem w_a5 (s : ByteArray) (at' n b0 b1 b2 b3 : Nat) (hn : s.size = at' + n) (hsz : s.size ≤ 64)
    (e0 : ∀ w, (Instr.index 9 (.string s) (.int .i64 (at' : Int))).run Tryd.prog w = .ok (.int .u8 (b0 : Int)) w)
    (w : World) (q1 : 1 ≤ n) (q2 : n ≤ 1) (p1 : 240 ≤ b0) (p2 : b0 ≤ 244) :
    Calls Tryd.prog 81 #[.string s, .int .i64 (at' : Int)] w fun e w' => e = .returned (.int .i64 ((refW n b0 b1 b2 b3 : Nat) : Int)) ∧ w = w' := by
  have hE : refW n b0 b1 b2 b3 = 0 := by rw [refW, if_neg (by omega), if_neg (by omega), if_neg (by omega), if_neg (by omega)]
  rw [hE]
  clear hE
  have hN : (s.size : Int) - (at' : Int) = (n : Int) := by omega
  obtain ⟨c0, hc0⟩ : ∃ c : Int, c = (b0 : Int) := ⟨_, rfl⟩
  obtain ⟨m, hm⟩ : ∃ m : Int, m = (n : Int) := ⟨_, rfl⟩
  rw [← hm] at hN
  rw [← hc0] at e0
  have f0 : decide (c0 < 128) = false := by simp; omega
  have f1 : decide (194 ≤ c0) = true := by simp; omega
  have f2 : decide (c0 ≤ 223) = false := by simp; omega
  have f3 : decide (224 ≤ c0) = true := by simp; omega
  have f4 : decide (c0 ≤ 239) = false := by simp; omega
  have f5 : decide (240 ≤ c0) = true := by simp; omega
  have f6 : decide (c0 ≤ 244) = true := by simp; omega
  have g1 : decide (1 < m) = false := by simp; omega
  have g2 : decide (2 ≤ m) = false := by simp; omega
  have g3 : decide (3 ≤ m) = false := by simp; omega
  have g4 : decide (4 ≤ m) = false := by simp; omega
  have k224 : (c0 == 224) = false := by simp; omega
  have k237 : (c0 == 237) = false := by simp; omega
  have m0 : (0 : Int) ≤ m := by omega
  have m1 : m ≤ 64 := by omega
  have m2 : (0 : Int) ≤ (at' : Int) := by omega
  have m3 : (at' : Int) ≤ 64 := by omega
  clear hsz hc0 hm hn q1 q2 p1 p2
  go_enter Tryd.func81, Tryd.ntmps81
  go_wp2
  go_returns
  exact ⟨rfl, rfl⟩

set_option maxHeartbeats 2000000 in
theorem w_a6 (s : ByteArray) (at' n b0 b1 b2 b3 : Nat) (hn : s.size = at' + n) (hsz : s.size ≤ 64)
    (e0 : ∀ w, (Instr.index 9 (.string s) (.int .i64 (at' : Int))).run Tryd.prog w = .ok (.int .u8 (b0 : Int)) w)
    (w : World) (q1 : 1 ≤ n) (q2 : n ≤ 1) (p1 : 245 ≤ b0) (p2 : b0 ≤ 255) :
    Calls Tryd.prog 81 #[.string s, .int .i64 (at' : Int)] w fun e w' => e = .returned (.int .i64 ((refW n b0 b1 b2 b3 : Nat) : Int)) ∧ w = w' := by
  have hE : refW n b0 b1 b2 b3 = 0 := by rw [refW, if_neg (by omega), if_neg (by omega), if_neg (by omega), if_neg (by omega)]
  rw [hE]
  clear hE
  have hN : (s.size : Int) - (at' : Int) = (n : Int) := by omega
  obtain ⟨c0, hc0⟩ : ∃ c : Int, c = (b0 : Int) := ⟨_, rfl⟩
  obtain ⟨m, hm⟩ : ∃ m : Int, m = (n : Int) := ⟨_, rfl⟩
  rw [← hm] at hN
  rw [← hc0] at e0
  have f0 : decide (c0 < 128) = false := by simp; omega
  have f1 : decide (194 ≤ c0) = true := by simp; omega
  have f2 : decide (c0 ≤ 223) = false := by simp; omega
  have f3 : decide (224 ≤ c0) = true := by simp; omega
  have f4 : decide (c0 ≤ 239) = false := by simp; omega
  have f5 : decide (240 ≤ c0) = true := by simp; omega
  have f6 : decide (c0 ≤ 244) = false := by simp; omega
  have g1 : decide (1 < m) = false := by simp; omega
  have g2 : decide (2 ≤ m) = false := by simp; omega
  have g3 : decide (3 ≤ m) = false := by simp; omega
  have g4 : decide (4 ≤ m) = false := by simp; omega
  have k224 : (c0 == 224) = false := by simp; omega
  have k237 : (c0 == 237) = false := by simp; omega
  have k240 : (c0 == 240) = false := by simp; omega
  have k244 : (c0 == 244) = false := by simp; omega
  have m0 : (0 : Int) ≤ m := by omega
  have m1 : m ≤ 64 := by omega
  have m2 : (0 : Int) ≤ (at' : Int) := by omega
  have m3 : (at' : Int) ≤ 64 := by omega
  clear hsz hc0 hm hn q1 q2 p1 p2
  go_enter Tryd.func81, Tryd.ntmps81
  go_wp2
  go_returns
  exact ⟨rfl, rfl⟩

set_option maxHeartbeats 2000000 in
theorem w_b1 (s : ByteArray) (at' n b0 b1 b2 b3 : Nat) (hn : s.size = at' + n) (hsz : s.size ≤ 64)
    (e0 : ∀ w, (Instr.index 9 (.string s) (.int .i64 (at' : Int))).run Tryd.prog w = .ok (.int .u8 (b0 : Int)) w)
    (e1 : ∀ w, (Instr.index 9 (.string s) (.int .i64 ((at' : Int) + 1))).run Tryd.prog w = .ok (.int .u8 (b1 : Int)) w)
    (w : World) (q1 : 2 ≤ n) (q2 : n ≤ 64) (p1 : 0 ≤ b0) (p2 : b0 ≤ 127) :
    Calls Tryd.prog 81 #[.string s, .int .i64 (at' : Int)] w fun e w' => e = .returned (.int .i64 ((refW n b0 b1 b2 b3 : Nat) : Int)) ∧ w = w' := by
  have hE : refW n b0 b1 b2 b3 = 1 := by rw [refW, if_pos (by omega)]
  rw [hE]
  clear hE
  have hN : (s.size : Int) - (at' : Int) = (n : Int) := by omega
  obtain ⟨c0, hc0⟩ : ∃ c : Int, c = (b0 : Int) := ⟨_, rfl⟩
  obtain ⟨c1, hc1⟩ : ∃ c : Int, c = (b1 : Int) := ⟨_, rfl⟩
  obtain ⟨m, hm⟩ : ∃ m : Int, m = (n : Int) := ⟨_, rfl⟩
  rw [← hm] at hN
  rw [← hc0] at e0
  rw [← hc1] at e1
  have f0 : decide (c0 < 128) = true := by simp; omega
  have f1 : decide (194 ≤ c0) = false := by simp; omega
  have f2 : decide (c0 ≤ 223) = true := by simp; omega
  have f3 : decide (224 ≤ c0) = false := by simp; omega
  have f4 : decide (c0 ≤ 239) = true := by simp; omega
  have f5 : decide (240 ≤ c0) = false := by simp; omega
  have f6 : decide (c0 ≤ 244) = true := by simp; omega
  have g1 : decide (1 < m) = true := by simp; omega
  have g2 : decide (2 ≤ m) = true := by simp; omega
  have k224 : (c0 == 224) = false := by simp; omega
  have k237 : (c0 == 237) = false := by simp; omega
  have k240 : (c0 == 240) = false := by simp; omega
  have k244 : (c0 == 244) = false := by simp; omega
  have m0 : (0 : Int) ≤ m := by omega
  have m1 : m ≤ 64 := by omega
  have m2 : (0 : Int) ≤ (at' : Int) := by omega
  have m3 : (at' : Int) ≤ 64 := by omega
  clear hsz hc0 hc1 hm hn q1 q2 p1 p2
  go_enter Tryd.func81, Tryd.ntmps81
  go_wp2
  go_returns
  exact ⟨rfl, rfl⟩

set_option maxHeartbeats 2000000 in
theorem w_b2 (s : ByteArray) (at' n b0 b1 b2 b3 : Nat) (hn : s.size = at' + n) (hsz : s.size ≤ 64)
    (e0 : ∀ w, (Instr.index 9 (.string s) (.int .i64 (at' : Int))).run Tryd.prog w = .ok (.int .u8 (b0 : Int)) w)
    (e1 : ∀ w, (Instr.index 9 (.string s) (.int .i64 ((at' : Int) + 1))).run Tryd.prog w = .ok (.int .u8 (b1 : Int)) w)
    (w : World) (q1 : 2 ≤ n) (q2 : n ≤ 64) (p1 : 128 ≤ b0) (p2 : b0 ≤ 193) :
    Calls Tryd.prog 81 #[.string s, .int .i64 (at' : Int)] w fun e w' => e = .returned (.int .i64 ((refW n b0 b1 b2 b3 : Nat) : Int)) ∧ w = w' := by
  have hE : refW n b0 b1 b2 b3 = 0 := by rw [refW, if_neg (by omega), if_neg (by omega), if_neg (by omega), if_neg (by omega)]
  rw [hE]
  clear hE
  have hN : (s.size : Int) - (at' : Int) = (n : Int) := by omega
  obtain ⟨c0, hc0⟩ : ∃ c : Int, c = (b0 : Int) := ⟨_, rfl⟩
  obtain ⟨c1, hc1⟩ : ∃ c : Int, c = (b1 : Int) := ⟨_, rfl⟩
  obtain ⟨m, hm⟩ : ∃ m : Int, m = (n : Int) := ⟨_, rfl⟩
  rw [← hm] at hN
  rw [← hc0] at e0
  rw [← hc1] at e1
  have f0 : decide (c0 < 128) = false := by simp; omega
  have f1 : decide (194 ≤ c0) = false := by simp; omega
  have f2 : decide (c0 ≤ 223) = true := by simp; omega
  have f3 : decide (224 ≤ c0) = false := by simp; omega
  have f4 : decide (c0 ≤ 239) = true := by simp; omega
  have f5 : decide (240 ≤ c0) = false := by simp; omega
  have f6 : decide (c0 ≤ 244) = true := by simp; omega
  have g1 : decide (1 < m) = true := by simp; omega
  have g2 : decide (2 ≤ m) = true := by simp; omega
  have k224 : (c0 == 224) = false := by simp; omega
  have k237 : (c0 == 237) = false := by simp; omega
  have k240 : (c0 == 240) = false := by simp; omega
  have k244 : (c0 == 244) = false := by simp; omega
  have m0 : (0 : Int) ≤ m := by omega
  have m1 : m ≤ 64 := by omega
  have m2 : (0 : Int) ≤ (at' : Int) := by omega
  have m3 : (at' : Int) ≤ 64 := by omega
  clear hsz hc0 hc1 hm hn q1 q2 p1 p2
  go_enter Tryd.func81, Tryd.ntmps81
  go_wp2
  go_returns
  exact ⟨rfl, rfl⟩

set_option maxHeartbeats 2000000 in
theorem w_b3 (s : ByteArray) (at' n b0 b1 b2 b3 : Nat) (hn : s.size = at' + n) (hsz : s.size ≤ 64)
    (e0 : ∀ w, (Instr.index 9 (.string s) (.int .i64 (at' : Int))).run Tryd.prog w = .ok (.int .u8 (b0 : Int)) w)
    (e1 : ∀ w, (Instr.index 9 (.string s) (.int .i64 ((at' : Int) + 1))).run Tryd.prog w = .ok (.int .u8 (b1 : Int)) w)
    (w : World) (q1 : 2 ≤ n) (q2 : n ≤ 64) (p1 : 245 ≤ b0) (p2 : b0 ≤ 255) :
    Calls Tryd.prog 81 #[.string s, .int .i64 (at' : Int)] w fun e w' => e = .returned (.int .i64 ((refW n b0 b1 b2 b3 : Nat) : Int)) ∧ w = w' := by
  have hE : refW n b0 b1 b2 b3 = 0 := by rw [refW, if_neg (by omega), if_neg (by omega), if_neg (by omega), if_neg (by omega)]
  rw [hE]
  clear hE
  have hN : (s.size : Int) - (at' : Int) = (n : Int) := by omega
  obtain ⟨c0, hc0⟩ : ∃ c : Int, c = (b0 : Int) := ⟨_, rfl⟩
  obtain ⟨c1, hc1⟩ : ∃ c : Int, c = (b1 : Int) := ⟨_, rfl⟩
  obtain ⟨m, hm⟩ : ∃ m : Int, m = (n : Int) := ⟨_, rfl⟩
  rw [← hm] at hN
  rw [← hc0] at e0
  rw [← hc1] at e1
  have f0 : decide (c0 < 128) = false := by simp; omega
  have f1 : decide (194 ≤ c0) = true := by simp; omega
  have f2 : decide (c0 ≤ 223) = false := by simp; omega
  have f3 : decide (224 ≤ c0) = true := by simp; omega
  have f4 : decide (c0 ≤ 239) = false := by simp; omega
  have f5 : decide (240 ≤ c0) = true := by simp; omega
  have f6 : decide (c0 ≤ 244) = false := by simp; omega
  have g1 : decide (1 < m) = true := by simp; omega
  have g2 : decide (2 ≤ m) = true := by simp; omega
  have k224 : (c0 == 224) = false := by simp; omega
  have k237 : (c0 == 237) = false := by simp; omega
  have k240 : (c0 == 240) = false := by simp; omega
  have k244 : (c0 == 244) = false := by simp; omega
  have m0 : (0 : Int) ≤ m := by omega
  have m1 : m ≤ 64 := by omega
  have m2 : (0 : Int) ≤ (at' : Int) := by omega
  have m3 : (at' : Int) ≤ 64 := by omega
  clear hsz hc0 hc1 hm hn q1 q2 p1 p2
  go_enter Tryd.func81, Tryd.ntmps81
  go_wp2
  go_returns
  exact ⟨rfl, rfl⟩

set_option maxHeartbeats 2000000 in
theorem w_c1 (s : ByteArray) (at' n b0 b1 b2 b3 : Nat) (hn : s.size = at' + n) (hsz : s.size ≤ 64)
    (e0 : ∀ w, (Instr.index 9 (.string s) (.int .i64 (at' : Int))).run Tryd.prog w = .ok (.int .u8 (b0 : Int)) w)
    (e1 : ∀ w, (Instr.index 9 (.string s) (.int .i64 ((at' : Int) + 1))).run Tryd.prog w = .ok (.int .u8 (b1 : Int)) w)
    (w : World) (q1 : 2 ≤ n) (q2 : n ≤ 64) (p1 : 194 ≤ b0) (p2 : b0 ≤ 223) (t0 : 128 ≤ b1 ∧ b1 ≤ 191) :
    Calls Tryd.prog 81 #[.string s, .int .i64 (at' : Int)] w fun e w' => e = .returned (.int .i64 ((refW n b0 b1 b2 b3 : Nat) : Int)) ∧ w = w' := by
  have hE : refW n b0 b1 b2 b3 = 2 := by rw [refW, if_neg (by omega), if_pos (by omega)]
  rw [hE]
  clear hE
  have hN : (s.size : Int) - (at' : Int) = (n : Int) := by omega
  have hT0 := tail_any (b1 : Int) true (tail_yes t0.1 t0.2)
  obtain ⟨c0, hc0⟩ : ∃ c : Int, c = (b0 : Int) := ⟨_, rfl⟩
  obtain ⟨c1, hc1⟩ : ∃ c : Int, c = (b1 : Int) := ⟨_, rfl⟩
  obtain ⟨m, hm⟩ : ∃ m : Int, m = (n : Int) := ⟨_, rfl⟩
  rw [← hm] at hN
  rw [← hc0] at e0
  rw [← hc1] at e1
  rw [← hc1] at hT0
  have f0 : decide (c0 < 128) = false := by simp; omega
  have f1 : decide (194 ≤ c0) = true := by simp; omega
  have f2 : decide (c0 ≤ 223) = true := by simp; omega
  have f3 : decide (224 ≤ c0) = false := by simp; omega
  have f4 : decide (c0 ≤ 239) = true := by simp; omega
  have f5 : decide (240 ≤ c0) = false := by simp; omega
  have f6 : decide (c0 ≤ 244) = true := by simp; omega
  have g1 : decide (1 < m) = true := by simp; omega
  have g2 : decide (2 ≤ m) = true := by simp; omega
  have k224 : (c0 == 224) = false := by simp; omega
  have k237 : (c0 == 237) = false := by simp; omega
  have k240 : (c0 == 240) = false := by simp; omega
  have k244 : (c0 == 244) = false := by simp; omega
  have HT0 := Lib.hid hT0
  have m0 : (0 : Int) ≤ m := by omega
  have m1 : m ≤ 64 := by omega
  have m2 : (0 : Int) ≤ (at' : Int) := by omega
  have m3 : (at' : Int) ≤ 64 := by omega
  clear hsz hc0 hc1 hm hn q1 q2 p1 p2 t0 hT0
  go_enter Tryd.func81, Tryd.ntmps81
  go_wp2_with fail
  refine (HT0.out _).mono ?_
  rintro e w0 ⟨rfl, rfl⟩
  go_wp2
  go_returns
  exact ⟨rfl, rfl⟩

set_option maxHeartbeats 2000000 in
theorem w_c2 (s : ByteArray) (at' n b0 b1 b2 b3 : Nat) (hn : s.size = at' + n) (hsz : s.size ≤ 64)
    (e0 : ∀ w, (Instr.index 9 (.string s) (.int .i64 (at' : Int))).run Tryd.prog w = .ok (.int .u8 (b0 : Int)) w)
    (e1 : ∀ w, (Instr.index 9 (.string s) (.int .i64 ((at' : Int) + 1))).run Tryd.prog w = .ok (.int .u8 (b1 : Int)) w)
    (w : World) (q1 : 2 ≤ n) (q2 : n ≤ 64) (p1 : 194 ≤ b0) (p2 : b0 ≤ 223) (t0 : ¬ (128 ≤ b1 ∧ b1 ≤ 191)) :
    Calls Tryd.prog 81 #[.string s, .int .i64 (at' : Int)] w fun e w' => e = .returned (.int .i64 ((refW n b0 b1 b2 b3 : Nat) : Int)) ∧ w = w' := by
  have hE : refW n b0 b1 b2 b3 = 0 := by rw [refW, if_neg (by omega), if_neg (by omega), if_neg (by omega), if_neg (by omega)]
  rw [hE]
  clear hE
  have hN : (s.size : Int) - (at' : Int) = (n : Int) := by omega
  have hT0 := tail_any (b1 : Int) false (tail_no t0)
  obtain ⟨c0, hc0⟩ : ∃ c : Int, c = (b0 : Int) := ⟨_, rfl⟩
  obtain ⟨c1, hc1⟩ : ∃ c : Int, c = (b1 : Int) := ⟨_, rfl⟩
  obtain ⟨m, hm⟩ : ∃ m : Int, m = (n : Int) := ⟨_, rfl⟩
  rw [← hm] at hN
  rw [← hc0] at e0
  rw [← hc1] at e1
  rw [← hc1] at hT0
  have f0 : decide (c0 < 128) = false := by simp; omega
  have f1 : decide (194 ≤ c0) = true := by simp; omega
  have f2 : decide (c0 ≤ 223) = true := by simp; omega
  have f3 : decide (224 ≤ c0) = false := by simp; omega
  have f4 : decide (c0 ≤ 239) = true := by simp; omega
  have f5 : decide (240 ≤ c0) = false := by simp; omega
  have f6 : decide (c0 ≤ 244) = true := by simp; omega
  have g1 : decide (1 < m) = true := by simp; omega
  have g2 : decide (2 ≤ m) = true := by simp; omega
  have k224 : (c0 == 224) = false := by simp; omega
  have k237 : (c0 == 237) = false := by simp; omega
  have k240 : (c0 == 240) = false := by simp; omega
  have k244 : (c0 == 244) = false := by simp; omega
  have HT0 := Lib.hid hT0
  have m0 : (0 : Int) ≤ m := by omega
  have m1 : m ≤ 64 := by omega
  have m2 : (0 : Int) ≤ (at' : Int) := by omega
  have m3 : (at' : Int) ≤ 64 := by omega
  clear hsz hc0 hc1 hm hn q1 q2 p1 p2 t0 hT0
  go_enter Tryd.func81, Tryd.ntmps81
  go_wp2_with fail
  refine (HT0.out _).mono ?_
  rintro e w0 ⟨rfl, rfl⟩
  go_wp2
  go_returns
  exact ⟨rfl, rfl⟩

set_option maxHeartbeats 2000000 in
theorem w_d0 (s : ByteArray) (at' n b0 b1 b2 b3 : Nat) (hn : s.size = at' + n) (hsz : s.size ≤ 64)
    (e0 : ∀ w, (Instr.index 9 (.string s) (.int .i64 (at' : Int))).run Tryd.prog w = .ok (.int .u8 (b0 : Int)) w)
    (e1 : ∀ w, (Instr.index 9 (.string s) (.int .i64 ((at' : Int) + 1))).run Tryd.prog w = .ok (.int .u8 (b1 : Int)) w)
    (w : World) (q1 : 2 ≤ n) (q2 : n ≤ 2) (p1 : 224 ≤ b0) (p2 : b0 ≤ 239) :
    Calls Tryd.prog 81 #[.string s, .int .i64 (at' : Int)] w fun e w' => e = .returned (.int .i64 ((refW n b0 b1 b2 b3 : Nat) : Int)) ∧ w = w' := by
  have hE : refW n b0 b1 b2 b3 = 0 := by rw [refW, if_neg (by omega), if_neg (by omega), if_neg (by omega), if_neg (by omega)]
  rw [hE]
  clear hE
  have hN : (s.size : Int) - (at' : Int) = (n : Int) := by omega
  obtain ⟨c0, hc0⟩ : ∃ c : Int, c = (b0 : Int) := ⟨_, rfl⟩
  obtain ⟨c1, hc1⟩ : ∃ c : Int, c = (b1 : Int) := ⟨_, rfl⟩
  obtain ⟨m, hm⟩ : ∃ m : Int, m = (n : Int) := ⟨_, rfl⟩
  rw [← hm] at hN
  rw [← hc0] at e0
  rw [← hc1] at e1
  have f0 : decide (c0 < 128) = false := by simp; omega
  have f1 : decide (194 ≤ c0) = true := by simp; omega
  have f2 : decide (c0 ≤ 223) = false := by simp; omega
  have f3 : decide (224 ≤ c0) = true := by simp; omega
  have f4 : decide (c0 ≤ 239) = true := by simp; omega
  have f5 : decide (240 ≤ c0) = false := by simp; omega
  have f6 : decide (c0 ≤ 244) = true := by simp; omega
  have g1 : decide (1 < m) = true := by simp; omega
  have g2 : decide (2 ≤ m) = true := by simp; omega
  have g3 : decide (3 ≤ m) = false := by simp; omega
  have g4 : decide (4 ≤ m) = false := by simp; omega
  have k240 : (c0 == 240) = false := by simp; omega
  have k244 : (c0 == 244) = false := by simp; omega
  have m0 : (0 : Int) ≤ m := by omega
  have m1 : m ≤ 64 := by omega
  have m2 : (0 : Int) ≤ (at' : Int) := by omega
  have m3 : (at' : Int) ≤ 64 := by omega
  clear hsz hc0 hc1 hm hn q1 q2 p1 p2
  go_enter Tryd.func81, Tryd.ntmps81
  go_wp2
  go_returns
  exact ⟨rfl, rfl⟩

set_option maxHeartbeats 2000000 in
theorem w_d1 (s : ByteArray) (at' n b0 b1 b2 b3 : Nat) (hn : s.size = at' + n) (hsz : s.size ≤ 64)
    (e0 : ∀ w, (Instr.index 9 (.string s) (.int .i64 (at' : Int))).run Tryd.prog w = .ok (.int .u8 (b0 : Int)) w)
    (e1 : ∀ w, (Instr.index 9 (.string s) (.int .i64 ((at' : Int) + 1))).run Tryd.prog w = .ok (.int .u8 (b1 : Int)) w)
    (w : World) (q1 : 3 ≤ n) (q2 : n ≤ 64) (p1 : 224 ≤ b0) (p2 : b0 ≤ 239) (t0 : ¬ (128 ≤ b1 ∧ b1 ≤ 191)) :
    Calls Tryd.prog 81 #[.string s, .int .i64 (at' : Int)] w fun e w' => e = .returned (.int .i64 ((refW n b0 b1 b2 b3 : Nat) : Int)) ∧ w = w' := by
  have hE : refW n b0 b1 b2 b3 = 0 := by rw [refW, if_neg (by omega), if_neg (by omega), if_neg (by omega), if_neg (by omega)]
  rw [hE]
  clear hE
  have hN : (s.size : Int) - (at' : Int) = (n : Int) := by omega
  have hT0 := tail_any (b1 : Int) false (tail_no t0)
  obtain ⟨c0, hc0⟩ : ∃ c : Int, c = (b0 : Int) := ⟨_, rfl⟩
  obtain ⟨c1, hc1⟩ : ∃ c : Int, c = (b1 : Int) := ⟨_, rfl⟩
  obtain ⟨m, hm⟩ : ∃ m : Int, m = (n : Int) := ⟨_, rfl⟩
  rw [← hm] at hN
  rw [← hc0] at e0
  rw [← hc1] at e1
  rw [← hc1] at hT0
  have f0 : decide (c0 < 128) = false := by simp; omega
  have f1 : decide (194 ≤ c0) = true := by simp; omega
  have f2 : decide (c0 ≤ 223) = false := by simp; omega
  have f3 : decide (224 ≤ c0) = true := by simp; omega
  have f4 : decide (c0 ≤ 239) = true := by simp; omega
  have f5 : decide (240 ≤ c0) = false := by simp; omega
  have f6 : decide (c0 ≤ 244) = true := by simp; omega
  have g1 : decide (1 < m) = true := by simp; omega
  have g2 : decide (2 ≤ m) = true := by simp; omega
  have g3 : decide (3 ≤ m) = true := by simp; omega
  have k240 : (c0 == 240) = false := by simp; omega
  have k244 : (c0 == 244) = false := by simp; omega
  have HT0 := Lib.hid hT0
  have m0 : (0 : Int) ≤ m := by omega
  have m1 : m ≤ 64 := by omega
  have m2 : (0 : Int) ≤ (at' : Int) := by omega
  have m3 : (at' : Int) ≤ 64 := by omega
  clear hsz hc0 hc1 hm hn q1 q2 p1 p2 t0 hT0
  go_enter Tryd.func81, Tryd.ntmps81
  go_wp2_with fail
  refine (HT0.out _).mono ?_
  rintro e w0 ⟨rfl, rfl⟩
  go_wp2
  go_returns
  exact ⟨rfl, rfl⟩

set_option maxHeartbeats 2000000 in
theorem w_d2 (s : ByteArray) (at' n b0 b1 b2 b3 : Nat) (hn : s.size = at' + n) (hsz : s.size ≤ 64)
    (e0 : ∀ w, (Instr.index 9 (.string s) (.int .i64 (at' : Int))).run Tryd.prog w = .ok (.int .u8 (b0 : Int)) w)
    (e1 : ∀ w, (Instr.index 9 (.string s) (.int .i64 ((at' : Int) + 1))).run Tryd.prog w = .ok (.int .u8 (b1 : Int)) w)
    (e2 : ∀ w, (Instr.index 9 (.string s) (.int .i64 ((at' : Int) + 2))).run Tryd.prog w = .ok (.int .u8 (b2 : Int)) w)
    (w : World) (q1 : 3 ≤ n) (q2 : n ≤ 64) (p1 : 224 ≤ b0) (p2 : b0 ≤ 239) (t0 : 128 ≤ b1 ∧ b1 ≤ 191) (t1 : ¬ (128 ≤ b2 ∧ b2 ≤ 191)) :
    Calls Tryd.prog 81 #[.string s, .int .i64 (at' : Int)] w fun e w' => e = .returned (.int .i64 ((refW n b0 b1 b2 b3 : Nat) : Int)) ∧ w = w' := by
  have hE : refW n b0 b1 b2 b3 = 0 := by rw [refW, if_neg (by omega), if_neg (by omega), if_neg (by omega), if_neg (by omega)]
  rw [hE]
  clear hE
  have hN : (s.size : Int) - (at' : Int) = (n : Int) := by omega
  have hT0 := tail_any (b1 : Int) true (tail_yes t0.1 t0.2)
  have hT1 := tail_any (b2 : Int) false (tail_no t1)
  obtain ⟨c0, hc0⟩ : ∃ c : Int, c = (b0 : Int) := ⟨_, rfl⟩
  obtain ⟨c1, hc1⟩ : ∃ c : Int, c = (b1 : Int) := ⟨_, rfl⟩
  obtain ⟨c2, hc2⟩ : ∃ c : Int, c = (b2 : Int) := ⟨_, rfl⟩
  obtain ⟨m, hm⟩ : ∃ m : Int, m = (n : Int) := ⟨_, rfl⟩
  rw [← hm] at hN
  rw [← hc0] at e0
  rw [← hc1] at e1
  rw [← hc2] at e2
  rw [← hc1] at hT0
  rw [← hc2] at hT1
  have f0 : decide (c0 < 128) = false := by simp; omega
  have f1 : decide (194 ≤ c0) = true := by simp; omega
  have f2 : decide (c0 ≤ 223) = false := by simp; omega
  have f3 : decide (224 ≤ c0) = true := by simp; omega
  have f4 : decide (c0 ≤ 239) = true := by simp; omega
  have f5 : decide (240 ≤ c0) = false := by simp; omega
  have f6 : decide (c0 ≤ 244) = true := by simp; omega
  have g1 : decide (1 < m) = true := by simp; omega
  have g2 : decide (2 ≤ m) = true := by simp; omega
  have g3 : decide (3 ≤ m) = true := by simp; omega
  have k240 : (c0 == 240) = false := by simp; omega
  have k244 : (c0 == 244) = false := by simp; omega
  have HT0 := Lib.hid hT0
  have HT1 := Lib.hid hT1
  have m0 : (0 : Int) ≤ m := by omega
  have m1 : m ≤ 64 := by omega
  have m2 : (0 : Int) ≤ (at' : Int) := by omega
  have m3 : (at' : Int) ≤ 64 := by omega
  clear hsz hc0 hc1 hc2 hm hn q1 q2 p1 p2 t0 t1 hT0 hT1
  go_enter Tryd.func81, Tryd.ntmps81
  go_wp2_with fail
  refine (HT0.out _).mono ?_
  rintro e w0 ⟨rfl, rfl⟩
  go_wp2_with fail
  refine (HT1.out _).mono ?_
  rintro e w1 ⟨rfl, rfl⟩
  go_wp2
  go_returns
  exact ⟨rfl, rfl⟩

set_option maxHeartbeats 2000000 in
theorem w_d3 (s : ByteArray) (at' n b0 b1 b2 b3 : Nat) (hn : s.size = at' + n) (hsz : s.size ≤ 64)
    (e0 : ∀ w, (Instr.index 9 (.string s) (.int .i64 (at' : Int))).run Tryd.prog w = .ok (.int .u8 (b0 : Int)) w)
    (e1 : ∀ w, (Instr.index 9 (.string s) (.int .i64 ((at' : Int) + 1))).run Tryd.prog w = .ok (.int .u8 (b1 : Int)) w)
    (e2 : ∀ w, (Instr.index 9 (.string s) (.int .i64 ((at' : Int) + 2))).run Tryd.prog w = .ok (.int .u8 (b2 : Int)) w)
    (w : World) (q1 : 3 ≤ n) (q2 : n ≤ 64) (p1 : 224 ≤ b0) (p2 : b0 ≤ 224) (t0 : 128 ≤ b1 ∧ b1 ≤ 191) (t1 : 128 ≤ b2 ∧ b2 ≤ 191) (x0 : b1 < 160) :
    Calls Tryd.prog 81 #[.string s, .int .i64 (at' : Int)] w fun e w' => e = .returned (.int .i64 ((refW n b0 b1 b2 b3 : Nat) : Int)) ∧ w = w' := by
  have hE : refW n b0 b1 b2 b3 = 0 := by rw [refW, if_neg (by omega), if_neg (by omega), if_pos (by omega), if_pos (by omega)]
  rw [hE]
  clear hE
  have hN : (s.size : Int) - (at' : Int) = (n : Int) := by omega
  have hT0 := tail_any (b1 : Int) true (tail_yes t0.1 t0.2)
  have hT1 := tail_any (b2 : Int) true (tail_yes t1.1 t1.2)
  obtain ⟨c0, hc0⟩ : ∃ c : Int, c = (b0 : Int) := ⟨_, rfl⟩
  obtain ⟨c1, hc1⟩ : ∃ c : Int, c = (b1 : Int) := ⟨_, rfl⟩
  obtain ⟨c2, hc2⟩ : ∃ c : Int, c = (b2 : Int) := ⟨_, rfl⟩
  obtain ⟨m, hm⟩ : ∃ m : Int, m = (n : Int) := ⟨_, rfl⟩
  rw [← hm] at hN
  rw [← hc0] at e0
  rw [← hc1] at e1
  rw [← hc2] at e2
  rw [← hc1] at hT0
  rw [← hc2] at hT1
  have f0 : decide (c0 < 128) = false := by simp; omega
  have f1 : decide (194 ≤ c0) = true := by simp; omega
  have f2 : decide (c0 ≤ 223) = false := by simp; omega
  have f3 : decide (224 ≤ c0) = true := by simp; omega
  have f4 : decide (c0 ≤ 239) = true := by simp; omega
  have f5 : decide (240 ≤ c0) = false := by simp; omega
  have f6 : decide (c0 ≤ 244) = true := by simp; omega
  have g1 : decide (1 < m) = true := by simp; omega
  have g2 : decide (2 ≤ m) = true := by simp; omega
  have g3 : decide (3 ≤ m) = true := by simp; omega
  have k224 : (c0 == 224) = true := by simp; omega
  have k237 : (c0 == 237) = false := by simp; omega
  have k240 : (c0 == 240) = false := by simp; omega
  have k244 : (c0 == 244) = false := by simp; omega
  have z160 : decide (c1 < 160) = true := by simp; omega
  have HT0 := Lib.hid hT0
  have HT1 := Lib.hid hT1
  have m0 : (0 : Int) ≤ m := by omega
  have m1 : m ≤ 64 := by omega
  have m2 : (0 : Int) ≤ (at' : Int) := by omega
  have m3 : (at' : Int) ≤ 64 := by omega
  clear hsz hc0 hc1 hc2 hm hn q1 q2 p1 p2 t0 t1 hT0 hT1 x0
  go_enter Tryd.func81, Tryd.ntmps81
  go_wp2_with fail
  refine (HT0.out _).mono ?_
  rintro e w0 ⟨rfl, rfl⟩
  go_wp2_with fail
  refine (HT1.out _).mono ?_
  rintro e w1 ⟨rfl, rfl⟩
  go_wp2
  go_returns
  exact ⟨rfl, rfl⟩

set_option maxHeartbeats 2000000 in
theorem w_d4 (s : ByteArray) (at' n b0 b1 b2 b3 : Nat) (hn : s.size = at' + n) (hsz : s.size ≤ 64)
    (e0 : ∀ w, (Instr.index 9 (.string s) (.int .i64 (at' : Int))).run Tryd.prog w = .ok (.int .u8 (b0 : Int)) w)
    (e1 : ∀ w, (Instr.index 9 (.string s) (.int .i64 ((at' : Int) + 1))).run Tryd.prog w = .ok (.int .u8 (b1 : Int)) w)
    (e2 : ∀ w, (Instr.index 9 (.string s) (.int .i64 ((at' : Int) + 2))).run Tryd.prog w = .ok (.int .u8 (b2 : Int)) w)
    (w : World) (q1 : 3 ≤ n) (q2 : n ≤ 64) (p1 : 224 ≤ b0) (p2 : b0 ≤ 224) (t0 : 128 ≤ b1 ∧ b1 ≤ 191) (t1 : 128 ≤ b2 ∧ b2 ≤ 191) (x0 : 160 ≤ b1) :
    Calls Tryd.prog 81 #[.string s, .int .i64 (at' : Int)] w fun e w' => e = .returned (.int .i64 ((refW n b0 b1 b2 b3 : Nat) : Int)) ∧ w = w' := by
  have hE : refW n b0 b1 b2 b3 = 3 := by rw [refW, if_neg (by omega), if_neg (by omega), if_pos (by omega), if_neg (by omega)]
  rw [hE]
  clear hE
  have hN : (s.size : Int) - (at' : Int) = (n : Int) := by omega
  have hT0 := tail_any (b1 : Int) true (tail_yes t0.1 t0.2)
  have hT1 := tail_any (b2 : Int) true (tail_yes t1.1 t1.2)
  obtain ⟨c0, hc0⟩ : ∃ c : Int, c = (b0 : Int) := ⟨_, rfl⟩
  obtain ⟨c1, hc1⟩ : ∃ c : Int, c = (b1 : Int) := ⟨_, rfl⟩
  obtain ⟨c2, hc2⟩ : ∃ c : Int, c = (b2 : Int) := ⟨_, rfl⟩
  obtain ⟨m, hm⟩ : ∃ m : Int, m = (n : Int) := ⟨_, rfl⟩
  rw [← hm] at hN
  rw [← hc0] at e0
  rw [← hc1] at e1
  rw [← hc2] at e2
  rw [← hc1] at hT0
  rw [← hc2] at hT1
  have f0 : decide (c0 < 128) = false := by simp; omega
  have f1 : decide (194 ≤ c0) = true := by simp; omega
  have f2 : decide (c0 ≤ 223) = false := by simp; omega
  have f3 : decide (224 ≤ c0) = true := by simp; omega
  have f4 : decide (c0 ≤ 239) = true := by simp; omega
  have f5 : decide (240 ≤ c0) = false := by simp; omega
  have f6 : decide (c0 ≤ 244) = true := by simp; omega
  have g1 : decide (1 < m) = true := by simp; omega
  have g2 : decide (2 ≤ m) = true := by simp; omega
  have g3 : decide (3 ≤ m) = true := by simp; omega
  have k224 : (c0 == 224) = true := by simp; omega
  have k237 : (c0 == 237) = false := by simp; omega
  have k240 : (c0 == 240) = false := by simp; omega
  have k244 : (c0 == 244) = false := by simp; omega
  have z160 : decide (c1 < 160) = false := by simp; omega
  have HT0 := Lib.hid hT0
  have HT1 := Lib.hid hT1
  have m0 : (0 : Int) ≤ m := by omega
  have m1 : m ≤ 64 := by omega
  have m2 : (0 : Int) ≤ (at' : Int) := by omega
  have m3 : (at' : Int) ≤ 64 := by omega
  clear hsz hc0 hc1 hc2 hm hn q1 q2 p1 p2 t0 t1 hT0 hT1 x0
  go_enter Tryd.func81, Tryd.ntmps81
  go_wp2_with fail
  refine (HT0.out _).mono ?_
  rintro e w0 ⟨rfl, rfl⟩
  go_wp2_with fail
  refine (HT1.out _).mono ?_
  rintro e w1 ⟨rfl, rfl⟩
  go_wp2
  go_returns
  exact ⟨rfl, rfl⟩

set_option maxHeartbeats 2000000 in
theorem w_d5 (s : ByteArray) (at' n b0 b1 b2 b3 : Nat) (hn : s.size = at' + n) (hsz : s.size ≤ 64)
    (e0 : ∀ w, (Instr.index 9 (.string s) (.int .i64 (at' : Int))).run Tryd.prog w = .ok (.int .u8 (b0 : Int)) w)
    (e1 : ∀ w, (Instr.index 9 (.string s) (.int .i64 ((at' : Int) + 1))).run Tryd.prog w = .ok (.int .u8 (b1 : Int)) w)
    (e2 : ∀ w, (Instr.index 9 (.string s) (.int .i64 ((at' : Int) + 2))).run Tryd.prog w = .ok (.int .u8 (b2 : Int)) w)
    (w : World) (q1 : 3 ≤ n) (q2 : n ≤ 64) (p1 : 237 ≤ b0) (p2 : b0 ≤ 237) (t0 : 128 ≤ b1 ∧ b1 ≤ 191) (t1 : 128 ≤ b2 ∧ b2 ≤ 191) (x0 : 159 < b1) :
    Calls Tryd.prog 81 #[.string s, .int .i64 (at' : Int)] w fun e w' => e = .returned (.int .i64 ((refW n b0 b1 b2 b3 : Nat) : Int)) ∧ w = w' := by
  have hE : refW n b0 b1 b2 b3 = 0 := by rw [refW, if_neg (by omega), if_neg (by omega), if_pos (by omega), if_pos (by omega)]
  rw [hE]
  clear hE
  have hN : (s.size : Int) - (at' : Int) = (n : Int) := by omega
  have hT0 := tail_any (b1 : Int) true (tail_yes t0.1 t0.2)
  have hT1 := tail_any (b2 : Int) true (tail_yes t1.1 t1.2)
  obtain ⟨c0, hc0⟩ : ∃ c : Int, c = (b0 : Int) := ⟨_, rfl⟩
  obtain ⟨c1, hc1⟩ : ∃ c : Int, c = (b1 : Int) := ⟨_, rfl⟩
  obtain ⟨c2, hc2⟩ : ∃ c : Int, c = (b2 : Int) := ⟨_, rfl⟩
  obtain ⟨m, hm⟩ : ∃ m : Int, m = (n : Int) := ⟨_, rfl⟩
  rw [← hm] at hN
  rw [← hc0] at e0
  rw [← hc1] at e1
  rw [← hc2] at e2
  rw [← hc1] at hT0
  rw [← hc2] at hT1
  have f0 : decide (c0 < 128) = false := by simp; omega
  have f1 : decide (194 ≤ c0) = true := by simp; omega
  have f2 : decide (c0 ≤ 223) = false := by simp; omega
  have f3 : decide (224 ≤ c0) = true := by simp; omega
  have f4 : decide (c0 ≤ 239) = true := by simp; omega
  have f5 : decide (240 ≤ c0) = false := by simp; omega
  have f6 : decide (c0 ≤ 244) = true := by simp; omega
  have g1 : decide (1 < m) = true := by simp; omega
  have g2 : decide (2 ≤ m) = true := by simp; omega
  have g3 : decide (3 ≤ m) = true := by simp; omega
  have k224 : (c0 == 224) = false := by simp; omega
  have k237 : (c0 == 237) = true := by simp; omega
  have k240 : (c0 == 240) = false := by simp; omega
  have k244 : (c0 == 244) = false := by simp; omega
  have z159 : decide (159 < c1) = true := by simp; omega
  have HT0 := Lib.hid hT0
  have HT1 := Lib.hid hT1
  have m0 : (0 : Int) ≤ m := by omega
  have m1 : m ≤ 64 := by omega
  have m2 : (0 : Int) ≤ (at' : Int) := by omega
  have m3 : (at' : Int) ≤ 64 := by omega
  clear hsz hc0 hc1 hc2 hm hn q1 q2 p1 p2 t0 t1 hT0 hT1 x0
  go_enter Tryd.func81, Tryd.ntmps81
  go_wp2_with fail
  refine (HT0.out _).mono ?_
  rintro e w0 ⟨rfl, rfl⟩
  go_wp2_with fail
  refine (HT1.out _).mono ?_
  rintro e w1 ⟨rfl, rfl⟩
  go_wp2
  go_returns
  exact ⟨rfl, rfl⟩

set_option maxHeartbeats 2000000 in
theorem w_d6 (s : ByteArray) (at' n b0 b1 b2 b3 : Nat) (hn : s.size = at' + n) (hsz : s.size ≤ 64)
    (e0 : ∀ w, (Instr.index 9 (.string s) (.int .i64 (at' : Int))).run Tryd.prog w = .ok (.int .u8 (b0 : Int)) w)
    (e1 : ∀ w, (Instr.index 9 (.string s) (.int .i64 ((at' : Int) + 1))).run Tryd.prog w = .ok (.int .u8 (b1 : Int)) w)
    (e2 : ∀ w, (Instr.index 9 (.string s) (.int .i64 ((at' : Int) + 2))).run Tryd.prog w = .ok (.int .u8 (b2 : Int)) w)
    (w : World) (q1 : 3 ≤ n) (q2 : n ≤ 64) (p1 : 237 ≤ b0) (p2 : b0 ≤ 237) (t0 : 128 ≤ b1 ∧ b1 ≤ 191) (t1 : 128 ≤ b2 ∧ b2 ≤ 191) (x0 : b1 ≤ 159) :
    Calls Tryd.prog 81 #[.string s, .int .i64 (at' : Int)] w fun e w' => e = .returned (.int .i64 ((refW n b0 b1 b2 b3 : Nat) : Int)) ∧ w = w' := by
  have hE : refW n b0 b1 b2 b3 = 3 := by rw [refW, if_neg (by omega), if_neg (by omega), if_pos (by omega), if_neg (by omega)]
  rw [hE]
  clear hE
  have hN : (s.size : Int) - (at' : Int) = (n : Int) := by omega
  have hT0 := tail_any (b1 : Int) true (tail_yes t0.1 t0.2)
  have hT1 := tail_any (b2 : Int) true (tail_yes t1.1 t1.2)
  obtain ⟨c0, hc0⟩ : ∃ c : Int, c = (b0 : Int) := ⟨_, rfl⟩
  obtain ⟨c1, hc1⟩ : ∃ c : Int, c = (b1 : Int) := ⟨_, rfl⟩
  obtain ⟨c2, hc2⟩ : ∃ c : Int, c = (b2 : Int) := ⟨_, rfl⟩
  obtain ⟨m, hm⟩ : ∃ m : Int, m = (n : Int) := ⟨_, rfl⟩
  rw [← hm] at hN
  rw [← hc0] at e0
  rw [← hc1] at e1
  rw [← hc2] at e2
  rw [← hc1] at hT0
  rw [← hc2] at hT1
  have f0 : decide (c0 < 128) = false := by simp; omega
  have f1 : decide (194 ≤ c0) = true := by simp; omega
  have f2 : decide (c0 ≤ 223) = false := by simp; omega
  have f3 : decide (224 ≤ c0) = true := by simp; omega
  have f4 : decide (c0 ≤ 239) = true := by simp; omega
  have f5 : decide (240 ≤ c0) = false := by simp; omega
  have f6 : decide (c0 ≤ 244) = true := by simp; omega
  have g1 : decide (1 < m) = true := by simp; omega
  have g2 : decide (2 ≤ m) = true := by simp; omega
  have g3 : decide (3 ≤ m) = true := by simp; omega
  have k224 : (c0 == 224) = false := by simp; omega
  have k237 : (c0 == 237) = true := by simp; omega
  have k240 : (c0 == 240) = false := by simp; omega
  have k244 : (c0 == 244) = false := by simp; omega
  have z159 : decide (159 < c1) = false := by simp; omega
  have HT0 := Lib.hid hT0
  have HT1 := Lib.hid hT1
  have m0 : (0 : Int) ≤ m := by omega
  have m1 : m ≤ 64 := by omega
  have m2 : (0 : Int) ≤ (at' : Int) := by omega
  have m3 : (at' : Int) ≤ 64 := by omega
  clear hsz hc0 hc1 hc2 hm hn q1 q2 p1 p2 t0 t1 hT0 hT1 x0
  go_enter Tryd.func81, Tryd.ntmps81
  go_wp2_with fail
  refine (HT0.out _).mono ?_
  rintro e w0 ⟨rfl, rfl⟩
  go_wp2_with fail
  refine (HT1.out _).mono ?_
  rintro e w1 ⟨rfl, rfl⟩
  go_wp2
  go_returns
  exact ⟨rfl, rfl⟩

set_option maxHeartbeats 2000000 in
theorem w_d7 (s : ByteArray) (at' n b0 b1 b2 b3 : Nat) (hn : s.size = at' + n) (hsz : s.size ≤ 64)
    (e0 : ∀ w, (Instr.index 9 (.string s) (.int .i64 (at' : Int))).run Tryd.prog w = .ok (.int .u8 (b0 : Int)) w)
    (e1 : ∀ w, (Instr.index 9 (.string s) (.int .i64 ((at' : Int) + 1))).run Tryd.prog w = .ok (.int .u8 (b1 : Int)) w)
    (e2 : ∀ w, (Instr.index 9 (.string s) (.int .i64 ((at' : Int) + 2))).run Tryd.prog w = .ok (.int .u8 (b2 : Int)) w)
    (w : World) (q1 : 3 ≤ n) (q2 : n ≤ 64) (p1 : 225 ≤ b0) (p2 : b0 ≤ 239) (t0 : 128 ≤ b1 ∧ b1 ≤ 191) (t1 : 128 ≤ b2 ∧ b2 ≤ 191) (y0 : b0 ≠ 237) :
    Calls Tryd.prog 81 #[.string s, .int .i64 (at' : Int)] w fun e w' => e = .returned (.int .i64 ((refW n b0 b1 b2 b3 : Nat) : Int)) ∧ w = w' := by
  have hE : refW n b0 b1 b2 b3 = 3 := by rw [refW, if_neg (by omega), if_neg (by omega), if_pos (by omega), if_neg (by omega)]
  rw [hE]
  clear hE
  have hN : (s.size : Int) - (at' : Int) = (n : Int) := by omega
  have hT0 := tail_any (b1 : Int) true (tail_yes t0.1 t0.2)
  have hT1 := tail_any (b2 : Int) true (tail_yes t1.1 t1.2)
  obtain ⟨c0, hc0⟩ : ∃ c : Int, c = (b0 : Int) := ⟨_, rfl⟩
  obtain ⟨c1, hc1⟩ : ∃ c : Int, c = (b1 : Int) := ⟨_, rfl⟩
  obtain ⟨c2, hc2⟩ : ∃ c : Int, c = (b2 : Int) := ⟨_, rfl⟩
  obtain ⟨m, hm⟩ : ∃ m : Int, m = (n : Int) := ⟨_, rfl⟩
  rw [← hm] at hN
  rw [← hc0] at e0
  rw [← hc1] at e1
  rw [← hc2] at e2
  rw [← hc1] at hT0
  rw [← hc2] at hT1
  have f0 : decide (c0 < 128) = false := by simp; omega
  have f1 : decide (194 ≤ c0) = true := by simp; omega
  have f2 : decide (c0 ≤ 223) = false := by simp; omega
  have f3 : decide (224 ≤ c0) = true := by simp; omega
  have f4 : decide (c0 ≤ 239) = true := by simp; omega
  have f5 : decide (240 ≤ c0) = false := by simp; omega
  have f6 : decide (c0 ≤ 244) = true := by simp; omega
  have g1 : decide (1 < m) = true := by simp; omega
  have g2 : decide (2 ≤ m) = true := by simp; omega
  have g3 : decide (3 ≤ m) = true := by simp; omega
  have k224 : (c0 == 224) = false := by simp; omega
  have k237 : (c0 == 237) = false := by simp; omega
  have k240 : (c0 == 240) = false := by simp; omega
  have k244 : (c0 == 244) = false := by simp; omega
  have HT0 := Lib.hid hT0
  have HT1 := Lib.hid hT1
  have m0 : (0 : Int) ≤ m := by omega
  have m1 : m ≤ 64 := by omega
  have m2 : (0 : Int) ≤ (at' : Int) := by omega
  have m3 : (at' : Int) ≤ 64 := by omega
  clear hsz hc0 hc1 hc2 hm hn q1 q2 p1 p2 t0 t1 hT0 hT1 y0
  go_enter Tryd.func81, Tryd.ntmps81
  go_wp2_with fail
  refine (HT0.out _).mono ?_
  rintro e w0 ⟨rfl, rfl⟩
  go_wp2_with fail
  refine (HT1.out _).mono ?_
  rintro e w1 ⟨rfl, rfl⟩
  go_wp2
  go_returns
  exact ⟨rfl, rfl⟩

set_option maxHeartbeats 2000000 in
theorem w_f0 (s : ByteArray) (at' n b0 b1 b2 b3 : Nat) (hn : s.size = at' + n) (hsz : s.size ≤ 64)
    (e0 : ∀ w, (Instr.index 9 (.string s) (.int .i64 (at' : Int))).run Tryd.prog w = .ok (.int .u8 (b0 : Int)) w)
    (e1 : ∀ w, (Instr.index 9 (.string s) (.int .i64 ((at' : Int) + 1))).run Tryd.prog w = .ok (.int .u8 (b1 : Int)) w)
    (w : World) (q1 : 2 ≤ n) (q2 : n ≤ 3) (p1 : 240 ≤ b0) (p2 : b0 ≤ 244) :
    Calls Tryd.prog 81 #[.string s, .int .i64 (at' : Int)] w fun e w' => e = .returned (.int .i64 ((refW n b0 b1 b2 b3 : Nat) : Int)) ∧ w = w' := by
  have hE : refW n b0 b1 b2 b3 = 0 := by rw [refW, if_neg (by omega), if_neg (by omega), if_neg (by omega), if_neg (by omega)]
  rw [hE]
  clear hE
  have hN : (s.size : Int) - (at' : Int) = (n : Int) := by omega
  obtain ⟨c0, hc0⟩ : ∃ c : Int, c = (b0 : Int) := ⟨_, rfl⟩
  obtain ⟨c1, hc1⟩ : ∃ c : Int, c = (b1 : Int) := ⟨_, rfl⟩
  obtain ⟨m, hm⟩ : ∃ m : Int, m = (n : Int) := ⟨_, rfl⟩
  rw [← hm] at hN
  rw [← hc0] at e0
  rw [← hc1] at e1
  have f0 : decide (c0 < 128) = false := by simp; omega
  have f1 : decide (194 ≤ c0) = true := by simp; omega
  have f2 : decide (c0 ≤ 223) = false := by simp; omega
  have f3 : decide (224 ≤ c0) = true := by simp; omega
  have f4 : decide (c0 ≤ 239) = false := by simp; omega
  have f5 : decide (240 ≤ c0) = true := by simp; omega
  have f6 : decide (c0 ≤ 244) = true := by simp; omega
  have g1 : decide (1 < m) = true := by simp; omega
  have g2 : decide (2 ≤ m) = true := by simp; omega
  have g4 : decide (4 ≤ m) = false := by simp; omega
  have k224 : (c0 == 224) = false := by simp; omega
  have k237 : (c0 == 237) = false := by simp; omega
  have m0 : (0 : Int) ≤ m := by omega
  have m1 : m ≤ 64 := by omega
  have m2 : (0 : Int) ≤ (at' : Int) := by omega
  have m3 : (at' : Int) ≤ 64 := by omega
  clear hsz hc0 hc1 hm hn q1 q2 p1 p2
  go_enter Tryd.func81, Tryd.ntmps81
  go_wp2
  go_returns
  exact ⟨rfl, rfl⟩

set_option maxHeartbeats 2000000 in
theorem w_f1 (s : ByteArray) (at' n b0 b1 b2 b3 : Nat) (hn : s.size = at' + n) (hsz : s.size ≤ 64)
    (e0 : ∀ w, (Instr.index 9 (.string s) (.int .i64 (at' : Int))).run Tryd.prog w = .ok (.int .u8 (b0 : Int)) w)
    (e1 : ∀ w, (Instr.index 9 (.string s) (.int .i64 ((at' : Int) + 1))).run Tryd.prog w = .ok (.int .u8 (b1 : Int)) w)
    (w : World) (q1 : 4 ≤ n) (q2 : n ≤ 64) (p1 : 240 ≤ b0) (p2 : b0 ≤ 244) (t0 : ¬ (128 ≤ b1 ∧ b1 ≤ 191)) :
    Calls Tryd.prog 81 #[.string s, .int .i64 (at' : Int)] w fun e w' => e = .returned (.int .i64 ((refW n b0 b1 b2 b3 : Nat) : Int)) ∧ w = w' := by
  have hE : refW n b0 b1 b2 b3 = 0 := by rw [refW, if_neg (by omega), if_neg (by omega), if_neg (by omega), if_neg (by omega)]
  rw [hE]
  clear hE
  have hN : (s.size : Int) - (at' : Int) = (n : Int) := by omega
  have hT0 := tail_any (b1 : Int) false (tail_no t0)
  obtain ⟨c0, hc0⟩ : ∃ c : Int, c = (b0 : Int) := ⟨_, rfl⟩
  obtain ⟨c1, hc1⟩ : ∃ c : Int, c = (b1 : Int) := ⟨_, rfl⟩
  obtain ⟨m, hm⟩ : ∃ m : Int, m = (n : Int) := ⟨_, rfl⟩
  rw [← hm] at hN
  rw [← hc0] at e0
  rw [← hc1] at e1
  rw [← hc1] at hT0
  have f0 : decide (c0 < 128) = false := by simp; omega
  have f1 : decide (194 ≤ c0) = true := by simp; omega
  have f2 : decide (c0 ≤ 223) = false := by simp; omega
  have f3 : decide (224 ≤ c0) = true := by simp; omega
  have f4 : decide (c0 ≤ 239) = false := by simp; omega
  have f5 : decide (240 ≤ c0) = true := by simp; omega
  have f6 : decide (c0 ≤ 244) = true := by simp; omega
  have g1 : decide (1 < m) = true := by simp; omega
  have g2 : decide (2 ≤ m) = true := by simp; omega
  have g3 : decide (3 ≤ m) = true := by simp; omega
  have g4 : decide (4 ≤ m) = true := by simp; omega
  have k224 : (c0 == 224) = false := by simp; omega
  have k237 : (c0 == 237) = false := by simp; omega
  have HT0 := Lib.hid hT0
  have m0 : (0 : Int) ≤ m := by omega
  have m1 : m ≤ 64 := by omega
  have m2 : (0 : Int) ≤ (at' : Int) := by omega
  have m3 : (at' : Int) ≤ 64 := by omega
  clear hsz hc0 hc1 hm hn q1 q2 p1 p2 t0 hT0
  go_enter Tryd.func81, Tryd.ntmps81
  go_wp2_with fail
  refine (HT0.out _).mono ?_
  rintro e w0 ⟨rfl, rfl⟩
  go_wp2
  go_returns
  exact ⟨rfl, rfl⟩

set_option maxHeartbeats 2000000 in
theorem w_f2 (s : ByteArray) (at' n b0 b1 b2 b3 : Nat) (hn : s.size = at' + n) (hsz : s.size ≤ 64)
    (e0 : ∀ w, (Instr.index 9 (.string s) (.int .i64 (at' : Int))).run Tryd.prog w = .ok (.int .u8 (b0 : Int)) w)
    (e1 : ∀ w, (Instr.index 9 (.string s) (.int .i64 ((at' : Int) + 1))).run Tryd.prog w = .ok (.int .u8 (b1 : Int)) w)
    (e2 : ∀ w, (Instr.index 9 (.string s) (.int .i64 ((at' : Int) + 2))).run Tryd.prog w = .ok (.int .u8 (b2 : Int)) w)
    (w : World) (q1 : 4 ≤ n) (q2 : n ≤ 64) (p1 : 240 ≤ b0) (p2 : b0 ≤ 244) (t0 : 128 ≤ b1 ∧ b1 ≤ 191) (t1 : ¬ (128 ≤ b2 ∧ b2 ≤ 191)) :
    Calls Tryd.prog 81 #[.string s, .int .i64 (at' : Int)] w fun e w' => e = .returned (.int .i64 ((refW n b0 b1 b2 b3 : Nat) : Int)) ∧ w = w' := by
  have hE : refW n b0 b1 b2 b3 = 0 := by rw [refW, if_neg (by omega), if_neg (by omega), if_neg (by omega), if_neg (by omega)]
  rw [hE]
  clear hE
  have hN : (s.size : Int) - (at' : Int) = (n : Int) := by omega
  have hT0 := tail_any (b1 : Int) true (tail_yes t0.1 t0.2)
  have hT1 := tail_any (b2 : Int) false (tail_no t1)
  obtain ⟨c0, hc0⟩ : ∃ c : Int, c = (b0 : Int) := ⟨_, rfl⟩
  obtain ⟨c1, hc1⟩ : ∃ c : Int, c = (b1 : Int) := ⟨_, rfl⟩
  obtain ⟨c2, hc2⟩ : ∃ c : Int, c = (b2 : Int) := ⟨_, rfl⟩
  obtain ⟨m, hm⟩ : ∃ m : Int, m = (n : Int) := ⟨_, rfl⟩
  rw [← hm] at hN
  rw [← hc0] at e0
  rw [← hc1] at e1
  rw [← hc2] at e2
  rw [← hc1] at hT0
  rw [← hc2] at hT1
  have f0 : decide (c0 < 128) = false := by simp; omega
  have f1 : decide (194 ≤ c0) = true := by simp; omega
  have f2 : decide (c0 ≤ 223) = false := by simp; omega
  have f3 : decide (224 ≤ c0) = true := by simp; omega
  have f4 : decide (c0 ≤ 239) = false := by simp; omega
  have f5 : decide (240 ≤ c0) = true := by simp; omega
  have f6 : decide (c0 ≤ 244) = true := by simp; omega
  have g1 : decide (1 < m) = true := by simp; omega
  have g2 : decide (2 ≤ m) = true := by simp; omega
  have g3 : decide (3 ≤ m) = true := by simp; omega
  have g4 : decide (4 ≤ m) = true := by simp; omega
  have k224 : (c0 == 224) = false := by simp; omega
  have k237 : (c0 == 237) = false := by simp; omega
  have HT0 := Lib.hid hT0
  have HT1 := Lib.hid hT1
  have m0 : (0 : Int) ≤ m := by omega
  have m1 : m ≤ 64 := by omega
  have m2 : (0 : Int) ≤ (at' : Int) := by omega
  have m3 : (at' : Int) ≤ 64 := by omega
  clear hsz hc0 hc1 hc2 hm hn q1 q2 p1 p2 t0 t1 hT0 hT1
  go_enter Tryd.func81, Tryd.ntmps81
  go_wp2_with fail
  refine (HT0.out _).mono ?_
  rintro e w0 ⟨rfl, rfl⟩
  go_wp2_with fail
  refine (HT1.out _).mono ?_
  rintro e w1 ⟨rfl, rfl⟩
  go_wp2
  go_returns
  exact ⟨rfl, rfl⟩

set_option maxHeartbeats 2000000 in
theorem w_f3 (s : ByteArray) (at' n b0 b1 b2 b3 : Nat) (hn : s.size = at' + n) (hsz : s.size ≤ 64)
    (e0 : ∀ w, (Instr.index 9 (.string s) (.int .i64 (at' : Int))).run Tryd.prog w = .ok (.int .u8 (b0 : Int)) w)
    (e1 : ∀ w, (Instr.index 9 (.string s) (.int .i64 ((at' : Int) + 1))).run Tryd.prog w = .ok (.int .u8 (b1 : Int)) w)
    (e2 : ∀ w, (Instr.index 9 (.string s) (.int .i64 ((at' : Int) + 2))).run Tryd.prog w = .ok (.int .u8 (b2 : Int)) w)
    (e3 : ∀ w, (Instr.index 9 (.string s) (.int .i64 ((at' : Int) + 3))).run Tryd.prog w = .ok (.int .u8 (b3 : Int)) w)
    (w : World) (q1 : 4 ≤ n) (q2 : n ≤ 64) (p1 : 240 ≤ b0) (p2 : b0 ≤ 244) (t0 : 128 ≤ b1 ∧ b1 ≤ 191) (t1 : 128 ≤ b2 ∧ b2 ≤ 191) (t2 : ¬ (128 ≤ b3 ∧ b3 ≤ 191)) :
    Calls Tryd.prog 81 #[.string s, .int .i64 (at' : Int)] w fun e w' => e = .returned (.int .i64 ((refW n b0 b1 b2 b3 : Nat) : Int)) ∧ w = w' := by
  have hE : refW n b0 b1 b2 b3 = 0 := by rw [refW, if_neg (by omega), if_neg (by omega), if_neg (by omega), if_neg (by omega)]
  rw [hE]
  clear hE
  have hN : (s.size : Int) - (at' : Int) = (n : Int) := by omega
  have hT0 := tail_any (b1 : Int) true (tail_yes t0.1 t0.2)
  have hT1 := tail_any (b2 : Int) true (tail_yes t1.1 t1.2)
  have hT2 := tail_any (b3 : Int) false (tail_no t2)
  obtain ⟨c0, hc0⟩ : ∃ c : Int, c = (b0 : Int) := ⟨_, rfl⟩
  obtain ⟨c1, hc1⟩ : ∃ c : Int, c = (b1 : Int) := ⟨_, rfl⟩
  obtain ⟨c2, hc2⟩ : ∃ c : Int, c = (b2 : Int) := ⟨_, rfl⟩
  obtain ⟨c3, hc3⟩ : ∃ c : Int, c = (b3 : Int) := ⟨_, rfl⟩
  obtain ⟨m, hm⟩ : ∃ m : Int, m = (n : Int) := ⟨_, rfl⟩
  rw [← hm] at hN
  rw [← hc0] at e0
  rw [← hc1] at e1
  rw [← hc2] at e2
  rw [← hc3] at e3
  rw [← hc1] at hT0
  rw [← hc2] at hT1
  rw [← hc3] at hT2
  have f0 : decide (c0 < 128) = false := by simp; omega
  have f1 : decide (194 ≤ c0) = true := by simp; omega
  have f2 : decide (c0 ≤ 223) = false := by simp; omega
  have f3 : decide (224 ≤ c0) = true := by simp; omega
  have f4 : decide (c0 ≤ 239) = false := by simp; omega
  have f5 : decide (240 ≤ c0) = true := by simp; omega
  have f6 : decide (c0 ≤ 244) = true := by simp; omega
  have g1 : decide (1 < m) = true := by simp; omega
  have g2 : decide (2 ≤ m) = true := by simp; omega
  have g3 : decide (3 ≤ m) = true := by simp; omega
  have g4 : decide (4 ≤ m) = true := by simp; omega
  have k224 : (c0 == 224) = false := by simp; omega
  have k237 : (c0 == 237) = false := by simp; omega
  have HT0 := Lib.hid hT0
  have HT1 := Lib.hid hT1
  have HT2 := Lib.hid hT2
  have m0 : (0 : Int) ≤ m := by omega
  have m1 : m ≤ 64 := by omega
  have m2 : (0 : Int) ≤ (at' : Int) := by omega
  have m3 : (at' : Int) ≤ 64 := by omega
  clear hsz hc0 hc1 hc2 hc3 hm hn q1 q2 p1 p2 t0 t1 t2 hT0 hT1 hT2
  go_enter Tryd.func81, Tryd.ntmps81
  go_wp2_with fail
  refine (HT0.out _).mono ?_
  rintro e w0 ⟨rfl, rfl⟩
  go_wp2_with fail
  refine (HT1.out _).mono ?_
  rintro e w1 ⟨rfl, rfl⟩
  go_wp2_with fail
  refine (HT2.out _).mono ?_
  rintro e w2 ⟨rfl, rfl⟩
  go_wp2
  go_returns
  exact ⟨rfl, rfl⟩

set_option maxHeartbeats 2000000 in
theorem w_f4 (s : ByteArray) (at' n b0 b1 b2 b3 : Nat) (hn : s.size = at' + n) (hsz : s.size ≤ 64)
    (e0 : ∀ w, (Instr.index 9 (.string s) (.int .i64 (at' : Int))).run Tryd.prog w = .ok (.int .u8 (b0 : Int)) w)
    (e1 : ∀ w, (Instr.index 9 (.string s) (.int .i64 ((at' : Int) + 1))).run Tryd.prog w = .ok (.int .u8 (b1 : Int)) w)
    (e2 : ∀ w, (Instr.index 9 (.string s) (.int .i64 ((at' : Int) + 2))).run Tryd.prog w = .ok (.int .u8 (b2 : Int)) w)
    (e3 : ∀ w, (Instr.index 9 (.string s) (.int .i64 ((at' : Int) + 3))).run Tryd.prog w = .ok (.int .u8 (b3 : Int)) w)
    (w : World) (q1 : 4 ≤ n) (q2 : n ≤ 64) (p1 : 240 ≤ b0) (p2 : b0 ≤ 240) (t0 : 128 ≤ b1 ∧ b1 ≤ 191) (t1 : 128 ≤ b2 ∧ b2 ≤ 191) (t2 : 128 ≤ b3 ∧ b3 ≤ 191) (x0 : b1 < 144) :
    Calls Tryd.prog 81 #[.string s, .int .i64 (at' : Int)] w fun e w' => e = .returned (.int .i64 ((refW n b0 b1 b2 b3 : Nat) : Int)) ∧ w = w' := by
  have hE : refW n b0 b1 b2 b3 = 0 := by rw [refW, if_neg (by omega), if_neg (by omega), if_neg (by omega), if_pos (by omega), if_pos (by omega)]
  rw [hE]
  clear hE
  have hN : (s.size : Int) - (at' : Int) = (n : Int) := by omega
  have hT0 := tail_any (b1 : Int) true (tail_yes t0.1 t0.2)
  have hT1 := tail_any (b2 : Int) true (tail_yes t1.1 t1.2)
  have hT2 := tail_any (b3 : Int) true (tail_yes t2.1 t2.2)
  obtain ⟨c0, hc0⟩ : ∃ c : Int, c = (b0 : Int) := ⟨_, rfl⟩
  obtain ⟨c1, hc1⟩ : ∃ c : Int, c = (b1 : Int) := ⟨_, rfl⟩
  obtain ⟨c2, hc2⟩ : ∃ c : Int, c = (b2 : Int) := ⟨_, rfl⟩
  obtain ⟨c3, hc3⟩ : ∃ c : Int, c = (b3 : Int) := ⟨_, rfl⟩
  obtain ⟨m, hm⟩ : ∃ m : Int, m = (n : Int) := ⟨_, rfl⟩
  rw [← hm] at hN
  rw [← hc0] at e0
  rw [← hc1] at e1
  rw [← hc2] at e2
  rw [← hc3] at e3
  rw [← hc1] at hT0
  rw [← hc2] at hT1
  rw [← hc3] at hT2
  have f0 : decide (c0 < 128) = false := by simp; omega
  have f1 : decide (194 ≤ c0) = true := by simp; omega
  have f2 : decide (c0 ≤ 223) = false := by simp; omega
  have f3 : decide (224 ≤ c0) = true := by simp; omega
  have f4 : decide (c0 ≤ 239) = false := by simp; omega
  have f5 : decide (240 ≤ c0) = true := by simp; omega
  have f6 : decide (c0 ≤ 244) = true := by simp; omega
  have g1 : decide (1 < m) = true := by simp; omega
  have g2 : decide (2 ≤ m) = true := by simp; omega
  have g3 : decide (3 ≤ m) = true := by simp; omega
  have g4 : decide (4 ≤ m) = true := by simp; omega
  have k224 : (c0 == 224) = false := by simp; omega
  have k237 : (c0 == 237) = false := by simp; omega
  have k240 : (c0 == 240) = true := by simp; omega
  have k244 : (c0 == 244) = false := by simp; omega
  have z144 : decide (c1 < 144) = true := by simp; omega
  have HT0 := Lib.hid hT0
  have HT1 := Lib.hid hT1
  have HT2 := Lib.hid hT2
  have m0 : (0 : Int) ≤ m := by omega
  have m1 : m ≤ 64 := by omega
  have m2 : (0 : Int) ≤ (at' : Int) := by omega
  have m3 : (at' : Int) ≤ 64 := by omega
  clear hsz hc0 hc1 hc2 hc3 hm hn q1 q2 p1 p2 t0 t1 t2 hT0 hT1 hT2 x0
  go_enter Tryd.func81, Tryd.ntmps81
  go_wp2_with fail
  refine (HT0.out _).mono ?_
  rintro e w0 ⟨rfl, rfl⟩
  go_wp2_with fail
  refine (HT1.out _).mono ?_
  rintro e w1 ⟨rfl, rfl⟩
  go_wp2_with fail
  refine (HT2.out _).mono ?_
  rintro e w2 ⟨rfl, rfl⟩
  go_wp2
  go_returns
  exact ⟨rfl, rfl⟩

set_option maxHeartbeats 2000000 in
theorem w_f5 (s : ByteArray) (at' n b0 b1 b2 b3 : Nat) (hn : s.size = at' + n) (hsz : s.size ≤ 64)
    (e0 : ∀ w, (Instr.index 9 (.string s) (.int .i64 (at' : Int))).run Tryd.prog w = .ok (.int .u8 (b0 : Int)) w)
    (e1 : ∀ w, (Instr.index 9 (.string s) (.int .i64 ((at' : Int) + 1))).run Tryd.prog w = .ok (.int .u8 (b1 : Int)) w)
    (e2 : ∀ w, (Instr.index 9 (.string s) (.int .i64 ((at' : Int) + 2))).run Tryd.prog w = .ok (.int .u8 (b2 : Int)) w)
    (e3 : ∀ w, (Instr.index 9 (.string s) (.int .i64 ((at' : Int) + 3))).run Tryd.prog w = .ok (.int .u8 (b3 : Int)) w)
    (w : World) (q1 : 4 ≤ n) (q2 : n ≤ 64) (p1 : 240 ≤ b0) (p2 : b0 ≤ 240) (t0 : 128 ≤ b1 ∧ b1 ≤ 191) (t1 : 128 ≤ b2 ∧ b2 ≤ 191) (t2 : 128 ≤ b3 ∧ b3 ≤ 191) (x0 : 144 ≤ b1) :
    Calls Tryd.prog 81 #[.string s, .int .i64 (at' : Int)] w fun e w' => e = .returned (.int .i64 ((refW n b0 b1 b2 b3 : Nat) : Int)) ∧ w = w' := by
  have hE : refW n b0 b1 b2 b3 = 4 := by rw [refW, if_neg (by omega), if_neg (by omega), if_neg (by omega), if_pos (by omega), if_neg (by omega)]
  rw [hE]
  clear hE
  have hN : (s.size : Int) - (at' : Int) = (n : Int) := by omega
  have hT0 := tail_any (b1 : Int) true (tail_yes t0.1 t0.2)
  have hT1 := tail_any (b2 : Int) true (tail_yes t1.1 t1.2)
  have hT2 := tail_any (b3 : Int) true (tail_yes t2.1 t2.2)
  obtain ⟨c0, hc0⟩ : ∃ c : Int, c = (b0 : Int) := ⟨_, rfl⟩
  obtain ⟨c1, hc1⟩ : ∃ c : Int, c = (b1 : Int) := ⟨_, rfl⟩
  obtain ⟨c2, hc2⟩ : ∃ c : Int, c = (b2 : Int) := ⟨_, rfl⟩
  obtain ⟨c3, hc3⟩ : ∃ c : Int, c = (b3 : Int) := ⟨_, rfl⟩
  obtain ⟨m, hm⟩ : ∃ m : Int, m = (n : Int) := ⟨_, rfl⟩
  rw [← hm] at hN
  rw [← hc0] at e0
  rw [← hc1] at e1
  rw [← hc2] at e2
  rw [← hc3] at e3
  rw [← hc1] at hT0
  rw [← hc2] at hT1
  rw [← hc3] at hT2
  have f0 : decide (c0 < 128) = false := by simp; omega
  have f1 : decide (194 ≤ c0) = true := by simp; omega
  have f2 : decide (c0 ≤ 223) = false := by simp; omega
  have f3 : decide (224 ≤ c0) = true := by simp; omega
  have f4 : decide (c0 ≤ 239) = false := by simp; omega
  have f5 : decide (240 ≤ c0) = true := by simp; omega
  have f6 : decide (c0 ≤ 244) = true := by simp; omega
  have g1 : decide (1 < m) = true := by simp; omega
  have g2 : decide (2 ≤ m) = true := by simp; omega
  have g3 : decide (3 ≤ m) = true := by simp; omega
  have g4 : decide (4 ≤ m) = true := by simp; omega
  have k224 : (c0 == 224) = false := by simp; omega
  have k237 : (c0 == 237) = false := by simp; omega
  have k240 : (c0 == 240) = true := by simp; omega
  have k244 : (c0 == 244) = false := by simp; omega
  have z144 : decide (c1 < 144) = false := by simp; omega
  have HT0 := Lib.hid hT0
  have HT1 := Lib.hid hT1
  have HT2 := Lib.hid hT2
  have m0 : (0 : Int) ≤ m := by omega
  have m1 : m ≤ 64 := by omega
  have m2 : (0 : Int) ≤ (at' : Int) := by omega
  have m3 : (at' : Int) ≤ 64 := by omega
  clear hsz hc0 hc1 hc2 hc3 hm hn q1 q2 p1 p2 t0 t1 t2 hT0 hT1 hT2 x0
  go_enter Tryd.func81, Tryd.ntmps81
  go_wp2_with fail
  refine (HT0.out _).mono ?_
  rintro e w0 ⟨rfl, rfl⟩
  go_wp2_with fail
  refine (HT1.out _).mono ?_
  rintro e w1 ⟨rfl, rfl⟩
  go_wp2_with fail
  refine (HT2.out _).mono ?_
  rintro e w2 ⟨rfl, rfl⟩
  go_wp2
  go_returns
  exact ⟨rfl, rfl⟩

set_option maxHeartbeats 2000000 in
theorem w_f6 (s : ByteArray) (at' n b0 b1 b2 b3 : Nat) (hn : s.size = at' + n) (hsz : s.size ≤ 64)
    (e0 : ∀ w, (Instr.index 9 (.string s) (.int .i64 (at' : Int))).run Tryd.prog w = .ok (.int .u8 (b0 : Int)) w)
    (e1 : ∀ w, (Instr.index 9 (.string s) (.int .i64 ((at' : Int) + 1))).run Tryd.prog w = .ok (.int .u8 (b1 : Int)) w)
    (e2 : ∀ w, (Instr.index 9 (.string s) (.int .i64 ((at' : Int) + 2))).run Tryd.prog w = .ok (.int .u8 (b2 : Int)) w)
    (e3 : ∀ w, (Instr.index 9 (.string s) (.int .i64 ((at' : Int) + 3))).run Tryd.prog w = .ok (.int .u8 (b3 : Int)) w)
    (w : World) (q1 : 4 ≤ n) (q2 : n ≤ 64) (p1 : 244 ≤ b0) (p2 : b0 ≤ 244) (t0 : 128 ≤ b1 ∧ b1 ≤ 191) (t1 : 128 ≤ b2 ∧ b2 ≤ 191) (t2 : 128 ≤ b3 ∧ b3 ≤ 191) (x0 : 143 < b1) :
    Calls Tryd.prog 81 #[.string s, .int .i64 (at' : Int)] w fun e w' => e = .returned (.int .i64 ((refW n b0 b1 b2 b3 : Nat) : Int)) ∧ w = w' := by
  have hE : refW n b0 b1 b2 b3 = 0 := by rw [refW, if_neg (by omega), if_neg (by omega), if_neg (by omega), if_pos (by omega), if_pos (by omega)]
  rw [hE]
  clear hE
  have hN : (s.size : Int) - (at' : Int) = (n : Int) := by omega
  have hT0 := tail_any (b1 : Int) true (tail_yes t0.1 t0.2)
  have hT1 := tail_any (b2 : Int) true (tail_yes t1.1 t1.2)
  have hT2 := tail_any (b3 : Int) true (tail_yes t2.1 t2.2)
  obtain ⟨c0, hc0⟩ : ∃ c : Int, c = (b0 : Int) := ⟨_, rfl⟩
  obtain ⟨c1, hc1⟩ : ∃ c : Int, c = (b1 : Int) := ⟨_, rfl⟩
  obtain ⟨c2, hc2⟩ : ∃ c : Int, c = (b2 : Int) := ⟨_, rfl⟩
  obtain ⟨c3, hc3⟩ : ∃ c : Int, c = (b3 : Int) := ⟨_, rfl⟩
  obtain ⟨m, hm⟩ : ∃ m : Int, m = (n : Int) := ⟨_, rfl⟩
  rw [← hm] at hN
  rw [← hc0] at e0
  rw [← hc1] at e1
  rw [← hc2] at e2
  rw [← hc3] at e3
  rw [← hc1] at hT0
  rw [← hc2] at hT1
  rw [← hc3] at hT2
  have f0 : decide (c0 < 128) = false := by simp; omega
  have f1 : decide (194 ≤ c0) = true := by simp; omega
  have f2 : decide (c0 ≤ 223) = false := by simp; omega
  have f3 : decide (224 ≤ c0) = true := by simp; omega
  have f4 : decide (c0 ≤ 239) = false := by simp; omega
  have f5 : decide (240 ≤ c0) = true := by simp; omega
  have f6 : decide (c0 ≤ 244) = true := by simp; omega
  have g1 : decide (1 < m) = true := by simp; omega
  have g2 : decide (2 ≤ m) = true := by simp; omega
  have g3 : decide (3 ≤ m) = true := by simp; omega
  have g4 : decide (4 ≤ m) = true := by simp; omega
  have k224 : (c0 == 224) = false := by simp; omega
  have k237 : (c0 == 237) = false := by simp; omega
  have k240 : (c0 == 240) = false := by simp; omega
  have k244 : (c0 == 244) = true := by simp; omega
  have z143 : decide (143 < c1) = true := by simp; omega
  have HT0 := Lib.hid hT0
  have HT1 := Lib.hid hT1
  have HT2 := Lib.hid hT2
  have m0 : (0 : Int) ≤ m := by omega
  have m1 : m ≤ 64 := by omega
  have m2 : (0 : Int) ≤ (at' : Int) := by omega
  have m3 : (at' : Int) ≤ 64 := by omega
  clear hsz hc0 hc1 hc2 hc3 hm hn q1 q2 p1 p2 t0 t1 t2 hT0 hT1 hT2 x0
  go_enter Tryd.func81, Tryd.ntmps81
  go_wp2_with fail
  refine (HT0.out _).mono ?_
  rintro e w0 ⟨rfl, rfl⟩
  go_wp2_with fail
  refine (HT1.out _).mono ?_
  rintro e w1 ⟨rfl, rfl⟩
  go_wp2_with fail
  refine (HT2.out _).mono ?_
  rintro e w2 ⟨rfl, rfl⟩
  go_wp2
  go_returns
  exact ⟨rfl, rfl⟩

set_option maxHeartbeats 2000000 in
theorem w_f7 (s : ByteArray) (at' n b0 b1 b2 b3 : Nat) (hn : s.size = at' + n) (hsz : s.size ≤ 64)
    (e0 : ∀ w, (Instr.index 9 (.string s) (.int .i64 (at' : Int))).run Tryd.prog w = .ok (.int .u8 (b0 : Int)) w)
    (e1 : ∀ w, (Instr.index 9 (.string s) (.int .i64 ((at' : Int) + 1))).run Tryd.prog w = .ok (.int .u8 (b1 : Int)) w)
    (e2 : ∀ w, (Instr.index 9 (.string s) (.int .i64 ((at' : Int) + 2))).run Tryd.prog w = .ok (.int .u8 (b2 : Int)) w)
    (e3 : ∀ w, (Instr.index 9 (.string s) (.int .i64 ((at' : Int) + 3))).run Tryd.prog w = .ok (.int .u8 (b3 : Int)) w)
    (w : World) (q1 : 4 ≤ n) (q2 : n ≤ 64) (p1 : 244 ≤ b0) (p2 : b0 ≤ 244) (t0 : 128 ≤ b1 ∧ b1 ≤ 191) (t1 : 128 ≤ b2 ∧ b2 ≤ 191) (t2 : 128 ≤ b3 ∧ b3 ≤ 191) (x0 : b1 ≤ 143) :
    Calls Tryd.prog 81 #[.string s, .int .i64 (at' : Int)] w fun e w' => e = .returned (.int .i64 ((refW n b0 b1 b2 b3 : Nat) : Int)) ∧ w = w' := by
  have hE : refW n b0 b1 b2 b3 = 4 := by rw [refW, if_neg (by omega), if_neg (by omega), if_neg (by omega), if_pos (by omega), if_neg (by omega)]
  rw [hE]
  clear hE
  have hN : (s.size : Int) - (at' : Int) = (n : Int) := by omega
  have hT0 := tail_any (b1 : Int) true (tail_yes t0.1 t0.2)
  have hT1 := tail_any (b2 : Int) true (tail_yes t1.1 t1.2)
  have hT2 := tail_any (b3 : Int) true (tail_yes t2.1 t2.2)
  obtain ⟨c0, hc0⟩ : ∃ c : Int, c = (b0 : Int) := ⟨_, rfl⟩
  obtain ⟨c1, hc1⟩ : ∃ c : Int, c = (b1 : Int) := ⟨_, rfl⟩
  obtain ⟨c2, hc2⟩ : ∃ c : Int, c = (b2 : Int) := ⟨_, rfl⟩
  obtain ⟨c3, hc3⟩ : ∃ c : Int, c = (b3 : Int) := ⟨_, rfl⟩
  obtain ⟨m, hm⟩ : ∃ m : Int, m = (n : Int) := ⟨_, rfl⟩
  rw [← hm] at hN
  rw [← hc0] at e0
  rw [← hc1] at e1
  rw [← hc2] at e2
  rw [← hc3] at e3
  rw [← hc1] at hT0
  rw [← hc2] at hT1
  rw [← hc3] at hT2
  have f0 : decide (c0 < 128) = false := by simp; omega
  have f1 : decide (194 ≤ c0) = true := by simp; omega
  have f2 : decide (c0 ≤ 223) = false := by simp; omega
  have f3 : decide (224 ≤ c0) = true := by simp; omega
  have f4 : decide (c0 ≤ 239) = false := by simp; omega
  have f5 : decide (240 ≤ c0) = true := by simp; omega
  have f6 : decide (c0 ≤ 244) = true := by simp; omega
  have g1 : decide (1 < m) = true := by simp; omega
  have g2 : decide (2 ≤ m) = true := by simp; omega
  have g3 : decide (3 ≤ m) = true := by simp; omega
  have g4 : decide (4 ≤ m) = true := by simp; omega
  have k224 : (c0 == 224) = false := by simp; omega
  have k237 : (c0 == 237) = false := by simp; omega
  have k240 : (c0 == 240) = false := by simp; omega
  have k244 : (c0 == 244) = true := by simp; omega
  have z143 : decide (143 < c1) = false := by simp; omega
  have HT0 := Lib.hid hT0
  have HT1 := Lib.hid hT1
  have HT2 := Lib.hid hT2
  have m0 : (0 : Int) ≤ m := by omega
  have m1 : m ≤ 64 := by omega
  have m2 : (0 : Int) ≤ (at' : Int) := by omega
  have m3 : (at' : Int) ≤ 64 := by omega
  clear hsz hc0 hc1 hc2 hc3 hm hn q1 q2 p1 p2 t0 t1 t2 hT0 hT1 hT2 x0
  go_enter Tryd.func81, Tryd.ntmps81
  go_wp2_with fail
  refine (HT0.out _).mono ?_
  rintro e w0 ⟨rfl, rfl⟩
  go_wp2_with fail
  refine (HT1.out _).mono ?_
  rintro e w1 ⟨rfl, rfl⟩
  go_wp2_with fail
  refine (HT2.out _).mono ?_
  rintro e w2 ⟨rfl, rfl⟩
  go_wp2
  go_returns
  exact ⟨rfl, rfl⟩

set_option maxHeartbeats 2000000 in
theorem w_f8 (s : ByteArray) (at' n b0 b1 b2 b3 : Nat) (hn : s.size = at' + n) (hsz : s.size ≤ 64)
    (e0 : ∀ w, (Instr.index 9 (.string s) (.int .i64 (at' : Int))).run Tryd.prog w = .ok (.int .u8 (b0 : Int)) w)
    (e1 : ∀ w, (Instr.index 9 (.string s) (.int .i64 ((at' : Int) + 1))).run Tryd.prog w = .ok (.int .u8 (b1 : Int)) w)
    (e2 : ∀ w, (Instr.index 9 (.string s) (.int .i64 ((at' : Int) + 2))).run Tryd.prog w = .ok (.int .u8 (b2 : Int)) w)
    (e3 : ∀ w, (Instr.index 9 (.string s) (.int .i64 ((at' : Int) + 3))).run Tryd.prog w = .ok (.int .u8 (b3 : Int)) w)
    (w : World) (q1 : 4 ≤ n) (q2 : n ≤ 64) (p1 : 241 ≤ b0) (p2 : b0 ≤ 243) (t0 : 128 ≤ b1 ∧ b1 ≤ 191) (t1 : 128 ≤ b2 ∧ b2 ≤ 191) (t2 : 128 ≤ b3 ∧ b3 ≤ 191) :
    Calls Tryd.prog 81 #[.string s, .int .i64 (at' : Int)] w fun e w' => e = .returned (.int .i64 ((refW n b0 b1 b2 b3 : Nat) : Int)) ∧ w = w' := by
  have hE : refW n b0 b1 b2 b3 = 4 := by rw [refW, if_neg (by omega), if_neg (by omega), if_neg (by omega), if_pos (by omega), if_neg (by omega)]
  rw [hE]
  clear hE
  have hN : (s.size : Int) - (at' : Int) = (n : Int) := by omega
  have hT0 := tail_any (b1 : Int) true (tail_yes t0.1 t0.2)
  have hT1 := tail_any (b2 : Int) true (tail_yes t1.1 t1.2)
  have hT2 := tail_any (b3 : Int) true (tail_yes t2.1 t2.2)
  obtain ⟨c0, hc0⟩ : ∃ c : Int, c = (b0 : Int) := ⟨_, rfl⟩
  obtain ⟨c1, hc1⟩ : ∃ c : Int, c = (b1 : Int) := ⟨_, rfl⟩
  obtain ⟨c2, hc2⟩ : ∃ c : Int, c = (b2 : Int) := ⟨_, rfl⟩
  obtain ⟨c3, hc3⟩ : ∃ c : Int, c = (b3 : Int) := ⟨_, rfl⟩
  obtain ⟨m, hm⟩ : ∃ m : Int, m = (n : Int) := ⟨_, rfl⟩
  rw [← hm] at hN
  rw [← hc0] at e0
  rw [← hc1] at e1
  rw [← hc2] at e2
  rw [← hc3] at e3
  rw [← hc1] at hT0
  rw [← hc2] at hT1
  rw [← hc3] at hT2
  have f0 : decide (c0 < 128) = false := by simp; omega
  have f1 : decide (194 ≤ c0) = true := by simp; omega
  have f2 : decide (c0 ≤ 223) = false := by simp; omega
  have f3 : decide (224 ≤ c0) = true := by simp; omega
  have f4 : decide (c0 ≤ 239) = false := by simp; omega
  have f5 : decide (240 ≤ c0) = true := by simp; omega
  have f6 : decide (c0 ≤ 244) = true := by simp; omega
  have g1 : decide (1 < m) = true := by simp; omega
  have g2 : decide (2 ≤ m) = true := by simp; omega
  have g3 : decide (3 ≤ m) = true := by simp; omega
  have g4 : decide (4 ≤ m) = true := by simp; omega
  have k224 : (c0 == 224) = false := by simp; omega
  have k237 : (c0 == 237) = false := by simp; omega
  have k240 : (c0 == 240) = false := by simp; omega
  have k244 : (c0 == 244) = false := by simp; omega
  have HT0 := Lib.hid hT0
  have HT1 := Lib.hid hT1
  have HT2 := Lib.hid hT2
  have m0 : (0 : Int) ≤ m := by omega
  have m1 : m ≤ 64 := by omega
  have m2 : (0 : Int) ≤ (at' : Int) := by omega
  have m3 : (at' : Int) ≤ 64 := by omega
  clear hsz hc0 hc1 hc2 hc3 hm hn q1 q2 p1 p2 t0 t1 t2 hT0 hT1 hT2
  go_enter Tryd.func81, Tryd.ntmps81
  go_wp2_with fail
  refine (HT0.out _).mono ?_
  rintro e w0 ⟨rfl, rfl⟩
  go_wp2_with fail
  refine (HT1.out _).mono ?_
  rintro e w1 ⟨rfl, rfl⟩
  go_wp2_with fail
  refine (HT2.out _).mono ?_
  rintro e w2 ⟨rfl, rfl⟩
  go_wp2
  go_returns
  exact ⟨rfl, rfl⟩

theorem width_any
    (s : ByteArray) (at' n b0 b1 b2 b3 : Nat) (hn : s.size = at' + n) (hn0 : 1 ≤ n)
    (e0 : ∀ w, (Instr.index 9 (.string s) (.int .i64 (at' : Int))).run Tryd.prog w = .ok (.int .u8 (b0 : Int)) w)
    (e1 : 2 ≤ n → ∀ w, (Instr.index 9 (.string s) (.int .i64 ((at' : Int) + 1))).run Tryd.prog w = .ok (.int .u8 (b1 : Int)) w)
    (e2 : 3 ≤ n → ∀ w, (Instr.index 9 (.string s) (.int .i64 ((at' : Int) + 2))).run Tryd.prog w = .ok (.int .u8 (b2 : Int)) w)
    (e3 : 4 ≤ n → ∀ w, (Instr.index 9 (.string s) (.int .i64 ((at' : Int) + 3))).run Tryd.prog w = .ok (.int .u8 (b3 : Int)) w)
    (hsz : s.size ≤ 64) (h255 : b0 ≤ 255) (w : World) :
    Calls Tryd.prog 81 #[.string s, .int .i64 (at' : Int)] w fun e w' => e = .returned (.int .i64 ((refW n b0 b1 b2 b3 : Nat) : Int)) ∧ w = w' := by
  by_cases c0 : n ≤ 1
  · by_cases d1 : b0 ≤ 127
    · exact w_a1 s at' n b0 b1 b2 b3 hn hsz e0 w (by omega) (by omega) (by omega) (by omega)
    by_cases d2 : b0 ≤ 193
    · exact w_a2 s at' n b0 b1 b2 b3 hn hsz e0 w (by omega) (by omega) (by omega) (by omega)
    by_cases d3 : b0 ≤ 223
    · exact w_a3 s at' n b0 b1 b2 b3 hn hsz e0 w (by omega) (by omega) (by omega) (by omega)
    by_cases d4 : b0 ≤ 239
    · exact w_a4 s at' n b0 b1 b2 b3 hn hsz e0 w (by omega) (by omega) (by omega) (by omega)
    by_cases d5 : b0 ≤ 244
    · exact w_a5 s at' n b0 b1 b2 b3 hn hsz e0 w (by omega) (by omega) (by omega) (by omega)
    · exact w_a6 s at' n b0 b1 b2 b3 hn hsz e0 w (by omega) (by omega) (by omega) (by omega)
  by_cases d1 : b0 ≤ 127
  · exact w_b1 s at' n b0 b1 b2 b3 hn hsz e0 (e1 (by omega)) w (by omega) (by omega) (by omega) (by omega)
  by_cases d2 : b0 ≤ 193
  · exact w_b2 s at' n b0 b1 b2 b3 hn hsz e0 (e1 (by omega)) w (by omega) (by omega) (by omega) (by omega)
  by_cases d3 : 245 ≤ b0
  · exact w_b3 s at' n b0 b1 b2 b3 hn hsz e0 (e1 (by omega)) w (by omega) (by omega) (by omega) (by omega)
  by_cases t1 : 128 ≤ b1 ∧ b1 ≤ 191
  · by_cases d4 : b0 ≤ 223
    · exact w_c1 s at' n b0 b1 b2 b3 hn hsz e0 (e1 (by omega)) w (by omega) (by omega) (by omega) (by omega) t1
    by_cases d5 : b0 ≤ 239
    · by_cases c1 : n ≤ 2
      · exact w_d0 s at' n b0 b1 b2 b3 hn hsz e0 (e1 (by omega)) w (by omega) (by omega) (by omega) (by omega)
      by_cases t2 : 128 ≤ b2 ∧ b2 ≤ 191
      · by_cases d6 : b0 = 224
        · by_cases x : b1 < 160
          · exact w_d3 s at' n b0 b1 b2 b3 hn hsz e0 (e1 (by omega)) (e2 (by omega)) w (by omega) (by omega) (by omega) (by omega) t1 t2 x
          · exact w_d4 s at' n b0 b1 b2 b3 hn hsz e0 (e1 (by omega)) (e2 (by omega)) w (by omega) (by omega) (by omega) (by omega) t1 t2 (by omega)
        by_cases d7 : b0 = 237
        · by_cases x : 159 < b1
          · exact w_d5 s at' n b0 b1 b2 b3 hn hsz e0 (e1 (by omega)) (e2 (by omega)) w (by omega) (by omega) (by omega) (by omega) t1 t2 x
          · exact w_d6 s at' n b0 b1 b2 b3 hn hsz e0 (e1 (by omega)) (e2 (by omega)) w (by omega) (by omega) (by omega) (by omega) t1 t2 (by omega)
        · exact w_d7 s at' n b0 b1 b2 b3 hn hsz e0 (e1 (by omega)) (e2 (by omega)) w (by omega) (by omega) (by omega) (by omega) t1 t2 d7
      · exact w_d2 s at' n b0 b1 b2 b3 hn hsz e0 (e1 (by omega)) (e2 (by omega)) w (by omega) (by omega) (by omega) (by omega) t1 t2
    · by_cases c1 : n ≤ 3
      · exact w_f0 s at' n b0 b1 b2 b3 hn hsz e0 (e1 (by omega)) w (by omega) (by omega) (by omega) (by omega)
      by_cases t2 : 128 ≤ b2 ∧ b2 ≤ 191
      · by_cases t3 : 128 ≤ b3 ∧ b3 ≤ 191
        · by_cases d6 : b0 = 240
          · by_cases x : b1 < 144
            · exact w_f4 s at' n b0 b1 b2 b3 hn hsz e0 (e1 (by omega)) (e2 (by omega)) (e3 (by omega)) w (by omega) (by omega) (by omega) (by omega) t1 t2 t3 x
            · exact w_f5 s at' n b0 b1 b2 b3 hn hsz e0 (e1 (by omega)) (e2 (by omega)) (e3 (by omega)) w (by omega) (by omega) (by omega) (by omega) t1 t2 t3 (by omega)
          by_cases d7 : b0 = 244
          · by_cases x : 143 < b1
            · exact w_f6 s at' n b0 b1 b2 b3 hn hsz e0 (e1 (by omega)) (e2 (by omega)) (e3 (by omega)) w (by omega) (by omega) (by omega) (by omega) t1 t2 t3 x
            · exact w_f7 s at' n b0 b1 b2 b3 hn hsz e0 (e1 (by omega)) (e2 (by omega)) (e3 (by omega)) w (by omega) (by omega) (by omega) (by omega) t1 t2 t3 (by omega)
          · exact w_f8 s at' n b0 b1 b2 b3 hn hsz e0 (e1 (by omega)) (e2 (by omega)) (e3 (by omega)) w (by omega) (by omega) (by omega) (by omega) t1 t2 t3
        · exact w_f3 s at' n b0 b1 b2 b3 hn hsz e0 (e1 (by omega)) (e2 (by omega)) (e3 (by omega)) w (by omega) (by omega) (by omega) (by omega) t1 t2 t3
      · exact w_f2 s at' n b0 b1 b2 b3 hn hsz e0 (e1 (by omega)) (e2 (by omega)) w (by omega) (by omega) (by omega) (by omega) t1 t2
  · by_cases d4 : b0 ≤ 223
    · exact w_c2 s at' n b0 b1 b2 b3 hn hsz e0 (e1 (by omega)) w (by omega) (by omega) (by omega) (by omega) t1
    by_cases d5 : b0 ≤ 239
    · by_cases c1 : n ≤ 2
      · exact w_d0 s at' n b0 b1 b2 b3 hn hsz e0 (e1 (by omega)) w (by omega) (by omega) (by omega) (by omega)
      · exact w_d1 s at' n b0 b1 b2 b3 hn hsz e0 (e1 (by omega)) w (by omega) (by omega) (by omega) (by omega) t1
    · by_cases c1 : n ≤ 3
      · exact w_f0 s at' n b0 b1 b2 b3 hn hsz e0 (e1 (by omega)) w (by omega) (by omega) (by omega) (by omega)
      · exact w_f1 s at' n b0 b1 b2 b3 hn hsz e0 (e1 (by omega)) w (by omega) (by omega) (by omega) (by omega) t1
end Go.Proofs.YtmhibpmgnicolaaDoor
