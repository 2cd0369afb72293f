/-
  '==' and '!=' at this program's structs; its element types.
-/
import Derived.Test.YtmhibpmgnicolaaDoorData
import Derived.Laws.StructEq
import Derived.ChangeKeysEq
namespace Go.Proofs.YtmhibpmgnicolaaDoor
open Go.RowKit

theorem str_eq (s t : ByteArray) : (s.toList = t.toList) = (s = t) := by
  rw [ByteArray.toList_eq, ByteArray.toList_eq]
  refine propext ⟨fun h => ?_, fun h => by rw [h]⟩
  cases s; cases t
  simp only [ByteArray.mk.injEq]
  exact Array.toList_inj.1 h

set_option maxRecDepth 100000 in
theorem arr_eq (d : Nat) (x0 x1 x2 x3 y0 y1 y2 y3 : Int) (w : World) : (Op.equalIn (d + 2) 33 (.agg #[.int .i64 x0, .int .i64 x1, .int .i64 x2, .int .i64 x3]) (.agg #[.int .i64 y0, .int .i64 y1, .int .i64 y2, .int .i64 y3])).run Tryd.prog w =
    .ok (x0 == y0 && x1 == y1 && x2 == y2 && x3 == y3) w := by
  have u2 := Tryd.underlying2
  have hC : Tryd.prog.cellsOf 2 = 1 := by kernel_rfl
  obtain ⟨i2, hi2⟩ : ∃ i, Tryd.prog.info? 2 = some i := ⟨_, rfl⟩
  rw [show d + 2 = (d + 1) + 1 from rfl, run_equalIn_array w (d + 1) _ _ Tryd.underlying33 hi2, hC]
  have p0 : ∀ (c0 c1 c2 c3 : Int) (w : World), (part 2 #[.int .i64 c0, .int .i64 c1, .int .i64 c2, .int .i64 c3] 0).run Tryd.prog w = .ok (.int .i64 c0) w := fun _ _ _ _ _ => by simp [part, isAgg, run_underlying u2]
  have p1 : ∀ (c0 c1 c2 c3 : Int) (w : World), (part 2 #[.int .i64 c0, .int .i64 c1, .int .i64 c2, .int .i64 c3] 1).run Tryd.prog w = .ok (.int .i64 c1) w := fun _ _ _ _ _ => by simp [part, isAgg, run_underlying u2]
  have p2 : ∀ (c0 c1 c2 c3 : Int) (w : World), (part 2 #[.int .i64 c0, .int .i64 c1, .int .i64 c2, .int .i64 c3] 2).run Tryd.prog w = .ok (.int .i64 c2) w := fun _ _ _ _ _ => by simp [part, isAgg, run_underlying u2]
  have p3 : ∀ (c0 c1 c2 c3 : Int) (w : World), (part 2 #[.int .i64 c0, .int .i64 c1, .int .i64 c2, .int .i64 c3] 3).run Tryd.prog w = .ok (.int .i64 c3) w := fun _ _ _ _ _ => by simp [part, isAgg, run_underlying u2]
  have he := fun a b w => run_equalIn_int (P := Tryd.prog) w d 2 .i64 .i64 a b u2
  rw [show List.range 4 = [0, 1, 2, 3] from rfl]
  simp only [Op.eqItems, Sem.run_bind, Nat.mul_one, p0, Result.andThen_ok, he]
  by_cases h0 : x0 = y0
  · by_cases h1 : x1 = y1
    · by_cases h2 : x2 = y2
      · by_cases h3 : x3 = y3
        · simp [h0, h1, h2, h3, p1, p2, p3, he]
        · simp [h0, h1, h2, h3, p1, p2, p3, he]
      · simp [h0, h1, h2, p1, p2, he]
    · simp [h0, h1, p1, he]
  · simp [h0]

theorem neq_of_eql {t : TypeId} {xs ys : Array Value} {b : Bool} {w : World} (h : (binOp .eql t (.agg xs) (.agg ys)).run Tryd.prog w = .ok (.bool b) w) : (binOp .neq t (.agg xs) (.agg ys)).run Tryd.prog w = .ok (.bool (!b)) w := by
  rw [run_eql_struct] at h
  rw [run_neq_struct]
  generalize (Op.equalIn 10000 t (.agg xs) (.agg ys)).run Tryd.prog w = r at *
  cases r with
  | ok a w' => simp [Result.andThen] at h ⊢; obtain ⟨rfl, rfl⟩ := h; exact ⟨rfl, rfl⟩
  | halt x w' => simp [Result.andThen] at h

def encF (f : Fnv) : List Value := [.int .i64 f.k, .int .i64 f.a, .string f.s]
def encP (a b : Int) : List Value := [.int .i64 a, .int .i64 b]

set_option maxHeartbeats 4000000 in
theorem eqlR (x y : Rc) (w : World) : (binOp .eql 80 (.agg (encR x).toArray) (.agg (encR y).toArray)).run Tryd.prog w = .ok (.bool (decide (x = y))) w := by
  have hS : Tryd.prog.underlying 80 = some (.struct (Tryd.prog.fieldsOf 80)) := by kernel_rfl
  have hp : Tryd.prog.stoodInHeld 80 = false := by kernel_rfl
  obtain ⟨xn, xs⟩ := x
  obtain ⟨yn, ys⟩ := y
  simp only [encR]
  rw [run_eql_struct, show (10000 : Nat) = 9999 + 1 from rfl, run_equalIn_agg w 9999 80 _ _ hS hp]
  simp only [Program.fieldsOf, Tryd.underlying80]
  go_simp
  try simp only [str_eq]
  by_cases h0 : xn = yn
  · by_cases h1 : xs = ys
    · simp [h0, h1]
    · simp [h0, h1]
  · simp [h0]
theorem neqR (x y : Rc) (w : World) : (binOp .neq 80 (.agg (encR x).toArray) (.agg (encR y).toArray)).run Tryd.prog w = .ok (.bool (!decide (x = y))) w := neq_of_eql (eqlR x y w)

set_option maxHeartbeats 4000000 in
theorem eqlF (x y : Fnv) (w : World) : (binOp .eql 82 (.agg (encF x).toArray) (.agg (encF y).toArray)).run Tryd.prog w = .ok (.bool (decide (x = y))) w := by
  have hS : Tryd.prog.underlying 82 = some (.struct (Tryd.prog.fieldsOf 82)) := by kernel_rfl
  have hp : Tryd.prog.stoodInHeld 82 = false := by kernel_rfl
  obtain ⟨xk, xa, xs⟩ := x
  obtain ⟨yk, ya, ys⟩ := y
  simp only [encF]
  rw [run_eql_struct, show (10000 : Nat) = 9999 + 1 from rfl, run_equalIn_agg w 9999 82 _ _ hS hp]
  simp only [Program.fieldsOf, Tryd.underlying82]
  go_simp
  try simp only [str_eq]
  by_cases h0 : xk = yk
  · by_cases h1 : xa = ya
    · by_cases h2 : xs = ys
      · simp [h0, h1, h2]
      · simp [h0, h1, h2]
    · simp [h0, h1]
  · simp [h0]
theorem neqF (x y : Fnv) (w : World) : (binOp .neq 82 (.agg (encF x).toArray) (.agg (encF y).toArray)).run Tryd.prog w = .ok (.bool (!decide (x = y))) w := neq_of_eql (eqlF x y w)

set_option maxHeartbeats 4000000 in
theorem eqlM (x y : Mov) (w : World) : (binOp .eql 109 (.agg (encM x).toArray) (.agg (encM y).toArray)).run Tryd.prog w = .ok (.bool (decide (x = y))) w := by
  have hS : Tryd.prog.underlying 109 = some (.struct (Tryd.prog.fieldsOf 109)) := by kernel_rfl
  have hp : Tryd.prog.stoodInHeld 109 = false := by kernel_rfl
  obtain ⟨xf, xt, xk, xa, ⟨xfk, xfa, xfs⟩⟩ := x
  obtain ⟨yf, yt, yk, ya, ⟨yfk, yfa, yfs⟩⟩ := y
  simp only [encM]
  rw [run_eql_struct, show (10000 : Nat) = 9999 + 1 from rfl, run_equalIn_agg w 9999 109 _ _ hS hp]
  simp only [Program.fieldsOf, Tryd.underlying109]
  go_simp
  try simp only [str_eq]
  by_cases h0 : xf = yf
  · by_cases h1 : xt = yt
    · by_cases h2 : xk = yk
      · by_cases h3 : xa = ya
        · by_cases h4 : xfk = yfk
          · by_cases h5 : xfa = yfa
            · by_cases h6 : xfs = yfs
              · simp [h0, h1, h2, h3, h4, h5, h6]
              · simp [h0, h1, h2, h3, h4, h5, h6]
            · simp [h0, h1, h2, h3, h4, h5]
          · simp [h0, h1, h2, h3, h4]
        · simp [h0, h1, h2, h3]
      · simp [h0, h1, h2]
    · simp [h0, h1]
  · simp [h0]
theorem neqM (x y : Mov) (w : World) : (binOp .neq 109 (.agg (encM x).toArray) (.agg (encM y).toArray)).run Tryd.prog w = .ok (.bool (!decide (x = y))) w := neq_of_eql (eqlM x y w)

set_option maxHeartbeats 4000000 in
theorem eqlE (x y : Ent) (w : World) : (binOp .eql 104 (.agg (encE x).toArray) (.agg (encE y).toArray)).run Tryd.prog w = .ok (.bool (decide (x = y))) w := by
  have hS : Tryd.prog.underlying 104 = some (.struct (Tryd.prog.fieldsOf 104)) := by kernel_rfl
  have hp : Tryd.prog.stoodInHeld 104 = false := by kernel_rfl
  obtain ⟨xo, xk, xs, xn⟩ := x
  obtain ⟨yo, yk, ys, yn⟩ := y
  simp only [encE]
  rw [run_eql_struct, show (10000 : Nat) = 9999 + 1 from rfl, run_equalIn_agg w 9999 104 _ _ hS hp]
  simp only [Program.fieldsOf, Tryd.underlying104]
  go_simp
  try simp only [str_eq]
  by_cases h0 : xo = yo
  · by_cases h1 : xk = yk
    · by_cases h2 : xs = ys
      · by_cases h3 : xn = yn
        · simp [h0, h1, h2, h3]
        · simp [h0, h1, h2, h3]
      · simp [h0, h1, h2]
    · simp [h0, h1]
  · simp [h0]
theorem neqE (x y : Ent) (w : World) : (binOp .neq 104 (.agg (encE x).toArray) (.agg (encE y).toArray)).run Tryd.prog w = .ok (.bool (!decide (x = y))) w := neq_of_eql (eqlE x y w)

set_option maxHeartbeats 4000000 in
theorem eqlT (x y : Tm) (w : World) : (binOp .eql 35 (.agg (encT x).toArray) (.agg (encT y).toArray)).run Tryd.prog w = .ok (.bool (decide (x = y))) w := by
  have hS : Tryd.prog.underlying 35 = some (.struct (Tryd.prog.fieldsOf 35)) := by kernel_rfl
  have hp : Tryd.prog.stoodInHeld 35 = false := by kernel_rfl
  have ha := fun d x0 x1 x2 x3 y0 y1 y2 y3 => arr_eq d x0 x1 x2 x3 y0 y1 y2 y3
  have ha7 := ha 9996
  have ha8 := ha 9997
  simp only [Nat.reduceAdd] at ha7 ha8
  clear ha
  obtain ⟨xe, xd, xl0, xl1, xl2, xl3⟩ := x
  obtain ⟨ye, yd, yl0, yl1, yl2, yl3⟩ := y
  simp only [encT]
  rw [run_eql_struct, show (10000 : Nat) = 9999 + 1 from rfl, run_equalIn_agg w 9999 35 _ _ hS hp]
  simp only [Program.fieldsOf, Tryd.underlying35]
  go_simp
  by_cases h0 : xe = ye
  · by_cases h1 : xd = yd
    · by_cases h2 : xl0 = yl0
      · by_cases h3 : xl1 = yl1
        · by_cases h4 : xl2 = yl2
          · by_cases h5 : xl3 = yl3
            · simp [h0, h1, h2, h3, h4, h5]
            · simp [h0, h1, h2, h3, h4, h5]
          · simp [h0, h1, h2, h3, h4]
        · simp [h0, h1, h2, h3]
      · simp [h0, h1, h2]
    · simp [h0, h1]
  · simp [h0]
theorem neqT (x y : Tm) (w : World) : (binOp .neq 35 (.agg (encT x).toArray) (.agg (encT y).toArray)).run Tryd.prog w = .ok (.bool (!decide (x = y))) w := neq_of_eql (eqlT x y w)

set_option maxHeartbeats 4000000 in
theorem eqlC (x y : Chg) (w : World) : (binOp .eql 101 (.agg (encC x).toArray) (.agg (encC y).toArray)).run Tryd.prog w = .ok (.bool (decide (x = y))) w := by
  have hS : Tryd.prog.underlying 101 = some (.struct (Tryd.prog.fieldsOf 101)) := by kernel_rfl
  have hp : Tryd.prog.stoodInHeld 101 = false := by kernel_rfl
  have ha := fun d x0 x1 x2 x3 y0 y1 y2 y3 => arr_eq d x0 x1 x2 x3 y0 y1 y2 y3
  have ha7 := ha 9996
  have ha8 := ha 9997
  simp only [Nat.reduceAdd] at ha7 ha8
  clear ha
  obtain ⟨xn, xp, ⟨xe, xd, xl0, xl1, xl2, xl3⟩, xc⟩ := x
  obtain ⟨yn, yp, ⟨ye, yd, yl0, yl1, yl2, yl3⟩, yc⟩ := y
  simp only [encC]
  rw [run_eql_struct, show (10000 : Nat) = 9999 + 1 from rfl, run_equalIn_agg w 9999 101 _ _ hS hp]
  simp only [Program.fieldsOf, Tryd.underlying101]
  go_simp
  by_cases h0 : xn = yn
  · by_cases h1 : xp = yp
    · by_cases h2 : xe = ye
      · by_cases h3 : xd = yd
        · by_cases h4 : xl0 = yl0
          · by_cases h5 : xl1 = yl1
            · by_cases h6 : xl2 = yl2
              · by_cases h7 : xl3 = yl3
                · by_cases h8 : xc = yc
                  · simp [h0, h1, h2, h3, h4, h5, h6, h7, h8]
                  · simp [h0, h1, h2, h3, h4, h5, h6, h7, h8]
                · simp [h0, h1, h2, h3, h4, h5, h6, h7]
              · simp [h0, h1, h2, h3, h4, h5, h6]
            · simp [h0, h1, h2, h3, h4, h5]
          · simp [h0, h1, h2, h3, h4]
        · simp [h0, h1, h2, h3]
      · simp [h0, h1, h2]
    · simp [h0, h1]
  · simp [h0]
theorem neqC (x y : Chg) (w : World) : (binOp .neq 101 (.agg (encC x).toArray) (.agg (encC y).toArray)).run Tryd.prog w = .ok (.bool (!decide (x = y))) w := neq_of_eql (eqlC x y w)

set_option maxHeartbeats 4000000 in
theorem eqlP (a b c d : Int) (w : World) : (binOp .eql 32 (.agg #[.int .i64 a, .int .i64 b]) (.agg #[.int .i64 c, .int .i64 d])).run Tryd.prog w = .ok (.bool (decide (a = c) && decide (b = d))) w := by
  have hS : Tryd.prog.underlying 32 = some (.struct (Tryd.prog.fieldsOf 32)) := by kernel_rfl
  have hp : Tryd.prog.stoodInHeld 32 = false := by kernel_rfl
  rw [run_eql_struct, show (10000 : Nat) = 9999 + 1 from rfl, run_equalIn_agg w 9999 32 _ _ hS hp]
  simp only [Program.fieldsOf, Tryd.underlying32]
  go_simp
  by_cases h0 : a = c <;> by_cases h1 : b = d <;> simp [h0, h1]
theorem one_R : ∀ x u, u ∈ encR x → u.oneCell' = true := fun x u hu => by simp [encR] at hu; rcases hu with rfl | rfl <;> rfl
theorem one_C : ∀ x u, u ∈ encC x → u.oneCell' = true := fun x u hu => by simp [encC] at hu; rcases hu with rfl | rfl | rfl | rfl | rfl | rfl | rfl | rfl | rfl <;> rfl
theorem one_E : ∀ x u, u ∈ encE x → u.oneCell' = true := fun x u hu => by simp [encE] at hu; rcases hu with rfl | rfl | rfl | rfl <;> rfl
theorem one_I : ∀ x u, u ∈ encI x → u.oneCell' = true := fun x u hu => by simp [encI] at hu; subst hu; rfl
theorem one_M : ∀ x u, u ∈ encM x → u.oneCell' = true := fun x u hu => by simp [encM] at hu; rcases hu with rfl | rfl | rfl | rfl | rfl | rfl | rfl <;> rfl

def eR : Elem Rc where
  S := 36
  T := 80
  k := 2
  bytes := 24
  enc := encR
  z := .agg #[.int .i64 0, .string ⟨#[]⟩]
  hS := Tryd.underlying36
  info := by kernel_rfl
  hzs := rfl
  hk := by decide
  hb := by decide
  hlen := fun _ => rfl
def eC : Elem Chg where
  S := 37
  T := 101
  k := 9
  bytes := 72
  enc := encC
  z := .agg #[.int .i64 0, .int .i64 0, .int .i64 0, .int .i64 0, .int .i64 0, .int .i64 0, .int .i64 0, .int .i64 0, .int .i64 0]
  hS := Tryd.underlying37
  info := by kernel_rfl
  hzs := rfl
  hk := by decide
  hb := by decide
  hlen := fun _ => rfl
def eE : Elem Ent where
  S := 43
  T := 104
  k := 4
  bytes := 40
  enc := encE
  z := .agg #[.int .i64 0, .int .i64 0, .string ⟨#[]⟩, .int .i64 0]
  hS := Tryd.underlying43
  info := by kernel_rfl
  hzs := rfl
  hk := by decide
  hb := by decide
  hlen := fun _ => rfl
def eI : Elem Int where
  S := 38
  T := 3
  k := 1
  bytes := 8
  enc := encI
  z := .int .i64 0
  hS := Tryd.underlying38
  info := by kernel_rfl
  hzs := rfl
  hk := by decide
  hb := by decide
  hlen := fun _ => rfl
def eM : Elem Mov where
  S := 40
  T := 109
  k := 7
  bytes := 64
  enc := encM
  z := .agg #[.int .i64 0, .int .i64 0, .int .i64 0, .int .i64 0, .int .i64 0, .int .i64 0, .string ⟨#[]⟩]
  hS := Tryd.underlying40
  info := by kernel_rfl
  hzs := rfl
  hk := by decide
  hb := by decide
  hlen := fun _ => rfl
def eN : Elem Nrw where
  S := 39
  T := 84
  k := 9
  bytes := 104
  enc := encN
  z := .agg #[.int .i64 0, .int .i64 0, .slice none 0 0, .int .i64 0, .int .i64 0, .string ⟨#[]⟩, .string ⟨#[]⟩, .int .i64 0, .int .i64 0]
  hS := Tryd.underlying39
  info := by kernel_rfl
  hzs := rfl
  hk := by decide
  hb := by decide
  hlen := fun _ => rfl
end Go.Proofs.YtmhibpmgnicolaaDoor
