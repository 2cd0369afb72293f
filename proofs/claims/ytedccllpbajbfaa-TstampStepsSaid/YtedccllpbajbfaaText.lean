/-
  Text: a time's text.
-/
import Derived.Test.YtedccllpbajbfaaLoops
import Derived.Test.YtedccllpbajbfaaDigits
import Derived.RangeFuncBox
namespace Go.Proofs.Ytedccllpbajbfaa
open Go.RowKit Go.Shelf

attribute [local go_sem] Oper.semAt_some

theorem box_kept {A B : World} {row : Option Nat} {b : Nat} {ty : TypeId} {v : Value} (hs : Boxed A b ty v) (hg : A.grownBy B row) (hr : ∀ r, row = some r → ∃ o : Obj, A.heap[r]? = some o ∧ o.isCells = false) : Boxed B b ty v :=
  hs.kept hg (fun e' => by
    obtain ⟨o, ho, hc⟩ := hr _ e'.symm
    rw [show A.heap[b]? = _ from hs] at ho
    cases ho
    cases hc)

theorem boxOwn {β : Type} (b : Nat) (ty : TypeId) (f : β → Value) : Own (fun s W => Boxed W b ty (f s)) := fun _ _ _ _ hs hg hr => box_kept hs hg hr

theorem app_nums (xs ys : List Int) : strOfNums xs ++ strOfNums ys = strOfNums (xs ++ ys) := by
  simp [strOfNums]
  rfl

/-- the text behind some counters -/
def tailL (pre : List Cn) : List Int := pre.flatMap fun x => 46 :: dec x.1.2
theorem tailL_snoc (pre : List Cn) (x : Cn) : tailL (pre ++ [x]) = tailL pre ++ (46 :: dec x.1.2) := by simp [tailL]
def textL (t : Tm) : List Int := if hc : Chk t then dec t.e ++ tailL (upto (cn t hc) t.d.toNat) else []

theorem decF_len : ∀ (f : Nat) (n : Int), (decF f n).length ≤ f
  | 0, _ => Nat.le_refl 0
  | f + 1, n => by
    have := decF_len f (n / 10)
    unfold decF
    split <;> simp <;> omega
theorem dec_len (n : Int) : (dec n).length ≤ 10 := decF_len 10 n
theorem tailL_len : ∀ pre : List Cn, (tailL pre).length ≤ 11 * pre.length
  | [] => Nat.le_refl 0
  | x :: pre => by
    have := dec_len x.1.2
    have := tailL_len pre
    have e : tailL (x :: pre) = 46 :: dec x.1.2 ++ tailL pre := by simp [tailL]
    rw [e]
    simp only [List.length_append, List.length_cons]
    omega

theorem keeps_of_below {W w' : World} (h : Below W.heap.size W w') : KeepsOthers W w' :=
  ⟨h.size, fun k _ hk _ => (h.block k (Array.getElem?_eq_some_iff.1 hk).1).trans hk⟩

theorem text_round {w W w' : World} {B : Nat} {u : Value} (hbx : Boxed W B 9 u) (hB : Below w.heap.size w W) (hw : w.heap.size ≤ B) (hz : B + 2 ≤ W.heap.size) (hb : Below W.heap.size W w') (v : Value) :
    KeepsOthers W (w'.setCell ⟨B, 0, none⟩ v) ∧ KeepB (B + 1) W (w'.setCell ⟨B, 0, none⟩ v) ∧ (Boxed (w'.setCell ⟨B, 0, none⟩ v) B 9 v ∧ B + 2 ≤ (w'.setCell ⟨B, 0, none⟩ v).heap.size) ∧ Below w.heap.size w (w'.setCell ⟨B, 0, none⟩ v) := by
  have hbx' : Boxed w' B 9 u := (hb.block B (by omega)).trans hbx
  refine ⟨(keeps_of_below hb).trans (KeepsOthers.setCell _ _ _), (KeepB.below hb (by omega)).trans (KeepB.setCell (by simp) _), ⟨Boxed.set v hbx', ?_⟩, (hB.trans (hb.mono hB.size)).setCell (p := ⟨B, 0, none⟩) hw _⟩
  have := hb.size
  simp [World.setCell]
  omega

theorem dot_app (xs ys : List Int) (n : Int) : strOfNums (xs ++ ys) ++ ((⟨#[46]⟩ : ByteArray) ++ strOfNums (dec n)) = strOfNums (xs ++ (ys ++ (46 :: dec n))) := by
  have e : (⟨#[46]⟩ : ByteArray) = strOfNums [46] := rfl
  rw [e, app_nums, app_nums]
  simp

set_option maxRecDepth 100000 in
set_option maxHeartbeats 2000000 in
theorem text_yes (t : Tm) (hc : Chk t) (w : World) :
    Calls Try.prog 19 #[.agg #[.int .i64 t.e, .int .i64 t.d, .int .i64 t.l0, .int .i64 t.l1, .int .i64 t.l2, .int .i64 t.l3]] w fun e w' =>
      e = .returned (.string (strOfNums (textL t))) ∧ Below w.heap.size w w' := by
  have H := Lib.hid (fun w => (callsIn_wide (n := 2)).2 (check_yes hc w))
  have HC := Lib.hid hc
  obtain ⟨d, hd⟩ : ∃ d : Nat, t.d = (d : Int) := ⟨t.d.toNat, by have := hc.2.2.1; omega⟩
  have he0 := hc.1
  have he1 := hc.2.1
  have hd4 : d ≤ 4 := by have := hc.2.2.2.1; omega
  clear hc
  refine (callsIn_wide (n := 3)).1 ?_
  refine callsIn_of_wp_marks Try.func19 rfl trivial ?_ rfl
  simp only [Try.ntmps19, List.size_toArray, List.length_cons, List.length_nil, Nat.reduceAdd, Nat.reduceSub, Array.replicate_succ, Array.replicate_zero, List.push_toArray, List.append_toArray, List.nil_append, List.cons_append]
  have HD := Lib.hid hd
  clear hd
  have f34 : Fence.wide.fn 34 := trivial
  have f38 : Fence.wide.fn 38 := trivial
  have f39 : Fence.wide.fn 39 := trivial
  gi_wp2_with fail
  refine (H.out _).mono ?_
  rintro e w1 ⟨rfl, rfl⟩
  gi_wp2_with fail
  refine (callsIn_wide.2 (digits_any t.e he0 he1 _)).mono ?_
  rintro e w1 ⟨rfl, hb1⟩
  have hz1 := hb1.size
  simp only [World.size_alloc] at hz1
  have hlt1 : w.heap.size < w1.heap.size := by omega
  have hc1 : ∀ k, w1.cell? ⟨w.heap.size, k, none⟩ = #[Value.int .i64 t.e, .int .i64 t.d, .int .i64 t.l0, .int .i64 t.l1, .int .i64 t.l2, .int .i64 t.l3][k]? := fun k => by
    rw [hb1.cell (p := ⟨w.heap.size, k, none⟩) (by simp; omega), World.cell?_alloc_lt _ _ _ (by simp), World.cell?_alloc_new]
  gi_wp2_with fail
  refine (loops_in 2 t _).mono ?_
  rintro e w2 ⟨rfl, rfl⟩
  gi_wp2_with fail
  have hB0 : Below w.heap.size w w1 := (((Below.refl _ w).alloc (Nat.le_refl _) _).alloc (by simp) _).trans (hb1.mono (by simp; omega))
  have hBW : Below w.heap.size w ((w1.alloc (.cells #[.string (strOfNums (dec t.e))] 9)).alloc (.cells #[.int .i64 t.e, .int .i64 t.d, .int .i64 t.l0, .int .i64 t.l1, .int .i64 t.l2, .int .i64 t.l3] 24)) :=
    (hB0.alloc (by omega) _).alloc (by simp; omega) _
  refine wpIn_rangeFunc_ownF rfl (by omega) (gf := 49) (lb := #[.pointer (some ⟨w1.heap.size + 1, 0, none⟩)]) rfl trivial (enters_of Try.func49 (by kernel_rfl) rfl)
    (loops_stops_yes 2 (by omega) (w1.heap.size + 1) t d HD.out HC.out _ (by simp) ?cells) (fun h k => KeepB.trans h k) (fun W l o o' hl h1 h2 h3 => KeepB.putObj (by simp) W l o o' hl h1 h2 h3) (Below.refl _ _) (fun _ => rfl)
    (fun pre W => (Boxed W w1.heap.size 9 (.string (strOfNums (dec t.e ++ tailL pre))) ∧ w1.heap.size + 2 ≤ W.heap.size) ∧ Below w.heap.size w W)
    (fun _ _ _ => False)
    (OwnFrom.and (OwnFrom.and (Own.from (boxOwn w1.heap.size 9 (fun pre : List Cn => .string (strOfNums (dec t.e ++ tailL pre)))) _) (fun _ _ _ _ hs hg _ => Nat.le_trans hs hg.size)) (ownFrom_below (Nat.le_refl _) (by simp; omega)))
    (fun _ _ _ _ _ hs _ _ => hs)
    ⟨⟨by have h := (Boxed.new w1 9 (.string (strOfNums (dec t.e)))).alloc (.cells #[.int .i64 t.e, .int .i64 t.d, .int .i64 t.l0, .int .i64 t.l1, .int .i64 t.l2, .int .i64 t.l3] 24); simpa [tailL] using h, by simp⟩, hBW⟩
    (fun x => { tmps := #[.agg #[.int .i64 t.e, .int .i64 t.d, .int .i64 t.l0, .int .i64 t.l1, .int .i64 t.l2, .int .i64 t.l3], .pointer (some ⟨w.heap.size, 0, none⟩), .string ⟨#[]⟩, .pointer (some ⟨w1.heap.size, 0, none⟩), undef, .int .i64 x.1.2,
      .agg #[.int .i64 t.e, .int .i64 t.d, .int .i64 t.l0, .int .i64 t.l1, .int .i64 t.l2, .int .i64 t.l3], .int .i64 0, .bool false, .pointer (some ⟨w.heap.size, 0, none⟩), .int .i64 t.e, .string (strOfNums (dec t.e)),
      .agg #[.int .i64 t.e, .int .i64 t.d, .int .i64 t.l0, .int .i64 t.l1, .int .i64 t.l2, .int .i64 t.l3], .func (.func 49) #[] #[.pointer (some ⟨w1.heap.size + 1, 0, none⟩)], .int .i64 (x.1.1 : Int), .int .i64 x.1.2, undef, undef, undef, undef, undef, undef], defers := [] }) ?assign ?body ?done ?stop
  case cells =>
    intro k hk
    rw [← HD.out]
    have := World.cell?_alloc_new (w1.alloc (.cells #[.string (strOfNums (dec t.e))] 9)) #[.int .i64 t.e, .int .i64 t.d, .int .i64 t.l0, .int .i64 t.l1, .int .i64 t.l2, .int .i64 t.l3] 24 k
    rw [World.size_alloc] at this
    rw [this]
    rcases k with _ | _ | _ | _ | _ | _ | k <;> first | rfl | omega
  case assign =>
    intro l x W K hK
    gi_wp2
    exact hK
  case body =>
    rintro l pre x W ⟨⟨hbx, hszW⟩, hB⟩ hlen
    have hcl := hbx.cell
    have hfr := hbx.frozen
    have hmx : Try.prog.follows .mixedOrders = true := by kernel_rfl
    have hd1 : 1 ≤ 3 - 1 - 1 := by omega
    have hs1 : (strOfNums (dec t.e ++ tailL pre)).size ≤ 100 := by
      rw [strOfNums_size, List.length_append]
      have := dec_len t.e
      have := tailL_len pre
      omega
    have hs2 : (strOfNums (dec x.1.2)).size ≤ 10 := by rw [strOfNums_size]; exact dec_len _
    have hltW := hbx.lt
    gi_wp2
    gi_region_with_o (gi_at_call 38; refine (CallsIn.inRound l (callsIn_wide.2 (digits_any x.1.2 x.2.1 (by have := x.2.2; omega) _))).mono ?_; rintro e w' ⟨rfl, hb'⟩; have hcl' := (hb'.cell (p := ⟨w1.heap.size, 0, none⟩) (by simpa using hltW)).trans hcl; have hfr' := (hb'.frozen (p := ⟨w1.heap.size, 0, none⟩) (by simpa using hltW)).trans hfr)
    all_goals gi_wp2
    all_goals
      have hR := text_round hbx hB (by omega) hszW (Below.trans (Below.drew (Below.refl W.heap.size W)) hb') (.string (strOfNums (dec t.e ++ tailL pre) ++ ((⟨#[46]⟩ : ByteArray) ++ strOfNums (dec x.1.2))))
      have ee : strOfNums (dec t.e ++ tailL pre) ++ ((⟨#[46]⟩ : ByteArray) ++ strOfNums (dec x.1.2)) = strOfNums (dec t.e ++ tailL (pre ++ [x])) := by rw [dot_app, tailL_snoc]
      refine ⟨hR.1, hR.2.1, ?_⟩
      dsimp only
      rw [← ee]
      exact hR.2.2
  case done =>
    rintro D ys W hD rfl ⟨⟨hbx, _⟩, hB⟩ hK
    have hcl := hbx.cell
    gi_wp2
    refine ⟨by simp, .inl ⟨_, _, rfl, run_takeDeferred hK, ?_⟩⟩
    refine ⟨_, results_tmp rfl _ _ _, ?_, hB.trans (belowK_b (w := w) (Nat.le_refl _) W D _ _ (by simp at hD; omega) hK rfl rfl)⟩
    have hdt : t.d.toNat = d := by have := HD.out; omega
    simp only [textL, dif_pos HC.out, hdt]
    rfl
  case stop =>
    rintro D c pre W _ _ h _
    exact h.elim

set_option maxHeartbeats 1000000 in
theorem text_no (t : Tm) (hc : ¬ Chk t) (w : World) :
    Calls Try.prog 19 #[.agg #[.int .i64 t.e, .int .i64 t.d, .int .i64 t.l0, .int .i64 t.l1, .int .i64 t.l2, .int .i64 t.l3]] w fun e w' =>
      e = .returned (.string (strOfNums (textL t))) ∧ Below w.heap.size w w' := by
  have H := Lib.hid (check_no hc)
  have e : textL t = [] := dif_neg hc
  rw [e]
  clear hc e
  go_enter Try.func19, Try.ntmps19
  go_wp2_with fail
  refine (H.out _).mono ?_
  rintro e w1 ⟨rfl, rfl⟩
  go_wp2
  go_returns
  exact ⟨rfl, by go_grown⟩

theorem text_any (t : Tm) (w : World) :
    Calls Try.prog 19 #[.agg #[.int .i64 t.e, .int .i64 t.d, .int .i64 t.l0, .int .i64 t.l1, .int .i64 t.l2, .int .i64 t.l3]] w fun e w' =>
      e = .returned (.string (strOfNums (textL t))) ∧ Below w.heap.size w w' := by
  by_cases hc : Chk t
  · exact text_yes t hc w
  · exact text_no t hc w
end Go.Proofs.Ytedccllpbajbfaa
