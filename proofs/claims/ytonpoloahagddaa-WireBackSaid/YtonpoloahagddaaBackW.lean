/-
  WireBack: the walk.
-/
import Derived.Test.YtonpoloahagddaaAgainW
namespace Go.Proofs.Ytonpoloahagddaa
open Go.RowKit

theorem txtL_text {x : List Int} (hx : x.length ≤ 65536) (rest : List Int) : txtL (textL x ++ rest) = (x, (textL x).length, 0) := by
  have ht : takeL (textL x ++ rest) = ((x.length : Int), (intL (x.length : Int)).length, 0) := by
    unfold textL
    rw [List.append_assoc]
    exact takeL_int _ (by omega) (by omega) _
  have hl : lenL (textL x ++ rest) 65536 = ((x.length : Int), (intL (x.length : Int)).length, 0) := by
    unfold lenL
    rw [ht, if_neg (by simp), if_neg (by simp), if_neg (by simp; omega)]
  unfold txtL
  rw [hl, if_neg (by simp), if_neg (by simp [textL]; omega)]
  simp [textL]

/-- the slice value holds these strings -/
def StrsAt (w : World) (v : Value) (ss : List ByteArray) : Prop :=
  ∃ (A : Option Addr) (cap : Nat), v = .slice A ss.length cap ∧ ss.length ≤ cap ∧ (ss ≠ [] → ∃ b off, A = some ⟨b, off, none⟩ ∧ b < w.heap.size ∧ ∀ j, j < ss.length → w.cell? ⟨b, off + j, none⟩ = some (.string (ss[j]?.getD ByteArray.empty)))

def textsL (ss : List ByteArray) : List Int := ss.flatMap fun s => textL (bytesI s)
theorem textsL_snoc (ss : List ByteArray) (k : Nat) (h : k < ss.length) : textsL (ss.take (k + 1)) = textsL (ss.take k) ++ textL (bytesI (ss[k]?.getD ByteArray.empty)) := by
  rw [List.take_succ_eq_append_getElem h]
  unfold textsL
  rw [List.flatMap_append, List.flatMap_cons, List.flatMap_nil, List.append_nil, List.getElem?_eq_getElem h]
  rfl
theorem textsL_split (ss : List ByteArray) (k : Nat) (h : k < ss.length) : textsL ss = textsL (ss.take k) ++ (textL (bytesI (ss[k]?.getD ByteArray.empty)) ++ textsL (ss.drop (k + 1))) := by
  have e : ss = ss.take (k + 1) ++ ss.drop (k + 1) := (List.take_append_drop _ _).symm
  conv => lhs; rw [e]
  rw [← List.append_assoc, ← textsL_snoc ss k h]
  unfold textsL
  rw [List.flatMap_append]
theorem intsL_split (ns : List Int) (k : Nat) (h : k < ns.length) : intsL ns = intsL (ns.take k) ++ (intL (ns[k]?.getD 0) ++ intsL (ns.drop (k + 1))) := by
  have e : ns = ns.take (k + 1) ++ ns.drop (k + 1) := (List.take_append_drop _ _).symm
  conv => lhs; rw [e]
  rw [← List.append_assoc, ← intsL_snoc ns k h]
  unfold intsL
  rw [List.flatMap_append]
theorem textsL_isB (ss : List ByteArray) : IsB (textsL ss) := by
  induction ss with
  | nil => exact IsB.nil
  | cons s ss ih => exact ((intL_isB _).append (bytesI_isB s)).append ih
theorem textL_len (s : ByteArray) (h : s.size ≤ 2000) : (textL (bytesI s)).length ≤ 2009 := by
  have := intL_len ((bytesI s).length : Int)
  unfold textL
  rw [List.length_append, bytesI_len] at *
  omega
theorem textsL_len (ss : List ByteArray) (h : ∀ s ∈ ss, s.size ≤ 2000) : (textsL ss).length ≤ 2009 * ss.length := by
  induction ss with
  | nil => simp [textsL]
  | cons s ss ih =>
    have h1 := textL_len s (h s (by simp))
    have h2 := ih (fun x hx => h x (by simp [hx]))
    simp only [textsL, List.flatMap_cons, List.length_append, List.length_cons] at *
    omega

def BackRelA (ns : List Int) (ss : List ByteArray) (w : World) (b i : Value) (wr : World) : Prop :=
  ∃ k : Nat, k ≤ ss.length ∧ i = .int .i64 (k : Int) ∧ BytesAt wr b (intsL ns ++ textsL (ss.take k)) ∧ (∀ s ∈ ss.take k, s.size ≤ 2000) ∧ Ge w wr
def BackRelB (ns : List Int) (bs : List Int) (g : Nat) (w : World) (i : Value) (wr : World) : Prop :=
  ∃ k : Nat, k ≤ ns.length ∧ i = .int .i64 (k : Int) ∧ Rd wr g bs (intsL (ns.take k)).length ∧ Ge w wr
def BackRelC (ns : List Int) (ss : List ByteArray) (bs : List Int) (g : Nat) (w : World) (i : Value) (wr : World) : Prop :=
  ∃ k : Nat, k ≤ ss.length ∧ i = .int .i64 (k : Int) ∧ Rd wr g bs ((intsL ns).length + (textsL (ss.take k)).length) ∧ Ge w wr

set_option maxRecDepth 100000 in
set_option maxHeartbeats 8000000 in
theorem back_any {w : World} {vl vs : Value} {ns : List Int} {ss : List ByteArray} (hn : LongsAt w vl ns) (hs : StrsAt w vs ss) (hl1 : ns.length ≤ 9223372036854775807) (hl2 : ss.length ≤ 9223372036854775807) :
    Calls Try.prog 6 #[vl, vs] w fun e w' => e = .returned (.bool true) ∧ Ge w w' := by
  have HN := Lib.hid hn
  obtain ⟨nA, ncap, rfl, nle, nr, nc⟩ := hn
  obtain ⟨sA, scap, rfl, sle, sc⟩ := hs
  have NR := Lib.hid nr
  have NC := Lib.hid nc
  have SC := Lib.hid sc
  clear nr nc sc
  go_enter Try.func6, Try.ntmps6
  go_wp2_with fail
  refine (live_any _).mono ?_
  rintro e w1 ⟨rfl, hg1⟩
  have G1 := Lib.hid hg1
  clear hg1
  by_cases c1 : 200 < ns.length
  · have c1' : decide ((200 : Int) < (ns.length : Int)) = true := by simp; omega
    go_wp2
    go_returns
    exact ⟨rfl, G1.out⟩
  have c1' : decide ((200 : Int) < (ns.length : Int)) = false := by simp; omega
  by_cases c2 : 50 < ss.length
  · have c2' : decide ((50 : Int) < (ss.length : Int)) = true := by simp; omega
    go_wp2
    go_returns
    exact ⟨rfl, G1.out⟩
  have c2' : decide ((50 : Int) < (ss.length : Int)) = false := by simp; omega
  go_wp2_with fail
  refine (ints_any (HN.out.ge G1.out) (by omega)).mono ?_
  rintro e w2 ⟨v2, rfl, hv2, hg2⟩
  have V2 := Lib.hid hv2.bytes
  have G2 := Lib.hid (G1.out.trans hg2)
  clear hv2 hg2
  go_wp2
  go_loopw [5, 33] (fun b i wr => BackRelA ns ss w b i wr) (fun _ i _ => ss.length - (intOf i).toNat)
  case atStart => exact ⟨0, by omega, rfl, by simpa [textsL] using V2.out, by simp, G2.out⟩
  case round =>
    obtain ⟨k, hk, rfl, hb, hsz, hge⟩ := hrel
    have B := Lib.hid hb
    have Z := Lib.hid hsz
    have G := Lib.hid hge
    clear hsz
    by_cases hlt : k < ss.length
    · obtain ⟨bb, off, hA, hbb, hcell⟩ := SC.out (by intro e; rw [e] at hlt; simp at hlt)
      subst hA
      have hck := hge.cell (p := ⟨bb, off + k, none⟩) hbb
      rw [hcell k hlt] at hck
      clear hcell hge
      obtain ⟨bA, bcap, rfl, -, -⟩ := hb
      obtain ⟨x, hx⟩ : ∃ x, x = ss[k]?.getD ByteArray.empty := ⟨_, rfl⟩
      rw [← hx] at hck
      have HX := Lib.hid hx
      obtain ⟨m, hm⟩ : ∃ m, m = (intsL ns ++ textsL (ss.take k)).length := ⟨_, rfl⟩
      rw [← hm] at B ⊢
      have HM := Lib.hid hm
      clear hx hm
      by_cases c3 : 2000 < x.size
      · go_wp2
        go_returns
        exact ⟨rfl, G.out⟩
      · go_wp2_with fail
        refine (text_any _ (by omega) _).mono ?_
        rintro e w3 ⟨v3, rfl, hv3, hg3⟩
        have B3 := Lib.hid (B.out.ge hg3)
        have V3 := Lib.hid hv3.bytes
        have G3 := Lib.hid (G.out.trans hg3)
        obtain ⟨vA, vcap, rfl, -, -⟩ := hv3.bytes
        have hl3 := textL_len x (by omega)
        obtain ⟨m3, hm3⟩ : ∃ m3, m3 = (textL (bytesI x)).length := ⟨_, rfl⟩
        rw [← hm3] at V3 ⊢
        have HM3 := Lib.hid hm3
        clear hv3 hg3 hm3
        go_wp2_with fail
        refine (wjoin_any (two_parts B3.out V3.out ((intsL_isB ns).append (textsL_isB _)) ((intL_isB _).append (bytesI_isB x)) rfl) (by simp) ?_).mono ?_
        · have h1 := intsL_len ns
          have h2 := textsL_len (ss.take k) Z.out
          rw [List.length_take] at h2
          simp only [List.flatten_cons, List.flatten_nil, List.append_nil, List.length_append]
          omega
        rintro e w4 ⟨v4, rfl, hv4, hg4⟩
        have V4 := Lib.hid hv4
        have G4 := Lib.hid ((G3.out.alloc _).trans hg4)
        clear hv4 hg4
        go_wp2
        go_roundw
        case rel =>
          refine ⟨k + 1, by omega, by go_num, ?_, ?_, G4.out⟩
          · have := V4.out
            rw [textsL_snoc ss k hlt, ← HX.out]
            simpa using this
          · intro s hs
            rw [List.take_succ_eq_append_getElem hlt] at hs
            rcases List.mem_append.1 hs with hs | hs
            · exact Z.out s hs
            · have e := HX.out
              rw [List.getElem?_eq_getElem hlt] at e
              simp at hs e
              rw [hs, ← e]
              omega
        case measure => simp [intOf]; omega
    · obtain rfl : k = ss.length := by omega
      rw [List.take_length] at B Z hb
      obtain ⟨bA, bcap, rfl, -, -⟩ := hb
      have hbl : (intsL ns ++ textsL ss).length ≤ 200000 := by
        have h1 := intsL_len ns
        have h2 := textsL_len ss Z.out
        rw [List.length_append]
        omega
      clear hge
      have HBI := Lib.hid (show IsB (intsL ns ++ textsL ss) from (intsL_isB ns).append (textsL_isB ss))
      obtain ⟨bs, hbs⟩ : ∃ bs, bs = intsL ns ++ textsL ss := ⟨_, rfl⟩
      rw [← hbs] at B HBI hbl ⊢
      have HBS := Lib.hid hbs
      clear hbs
      go_wp2_with fail
      refine (new_any B.out HBI.out (by omega)).mono ?_
      rintro e w2 ⟨g, rfl, hgs, hr, hg2⟩
      have G2' := Lib.hid (G.out.trans hg2)
      have R2 := Lib.hid hr
      have hgs' : w.heap.size ≤ g := Nat.le_trans G.out.size hgs
      clear hr hg2 hgs
      go_wp2
      go_loopw [56] (fun i wr => BackRelB ns bs g w i wr) (fun i _ => ns.length - (intOf i).toNat)
      case atStart => exact ⟨0, by omega, rfl, by simpa [intsL] using R2.out, G2'.out⟩
      case round =>
        obtain ⟨k, hk2, rfl, hr, hge⟩ := hrel
        have R := Lib.hid hr
        have G := Lib.hid hge
        clear hr
        by_cases hlt2 : k < ns.length
        · obtain ⟨bb, off, hA, hbb, hcell⟩ := NC.out (by intro e; rw [e] at hlt2; simp at hlt2)
          subst hA
          have hck := hge.cell (p := ⟨bb, off + k, none⟩) hbb
          rw [hcell k hlt2] at hck
          clear hcell hge
          obtain ⟨x, hx⟩ : ∃ x, x = ns[k]?.getD 0 := ⟨_, rfl⟩
          rw [← hx] at hck
          have hxb := NR.out (ns[k]?.getD 0) (by simp [hlt2])
          rw [← hx] at hxb
          have hT : takeL (bs.drop (intsL (ns.take k)).length) = (x, (intL x).length, 0) := by
            rw [HBS.out, intsL_split ns k hlt2, List.append_assoc, List.drop_left, ← hx, List.append_assoc]
            exact takeL_int x hxb.1 hxb.2 _
          have HS := Lib.hid (show (intsL (ns.take k)).length + (intL x).length = (intsL (ns.take (k + 1))).length by rw [intsL_snoc ns k hlt2, List.length_append, hx])
          have HT := Lib.hid hT
          clear hx hxb hT
          go_wp2_with fail
          refine (rint_any R.out).mono ?_
          rw [HT.out]
          rintro e w3 ⟨rfl, hr3, hg3⟩
          have G3 := Lib.hid (Gg.ge G.out hg3 hgs')
          dsimp only at hr3
          rw [HS.out] at hr3
          have R3 := Lib.hid hr3
          clear hg3 hr3
          go_wp2
          go_roundw
          case rel => exact ⟨k + 1, by omega, by go_num, R3.out, G3.out⟩
          case measure => simp [intOf]; omega
        · obtain rfl : k = ns.length := by omega
          rw [List.take_length] at R
          clear hge
          go_wp2
          go_loopw [75] (fun i wr => BackRelC ns ss bs g w i wr) (fun i _ => ss.length - (intOf i).toNat)
          case atStart => exact ⟨0, by omega, rfl, by simpa [textsL] using R.out, G.out⟩
          case round =>
            obtain ⟨k, hk3, rfl, hr, hge⟩ := hrel
            have R := Lib.hid hr
            have G := Lib.hid hge
            clear hr
            by_cases hlt3 : k < ss.length
            · obtain ⟨bb, off, hA, hbb, hcell⟩ := SC.out (by intro e; rw [e] at hlt3; simp at hlt3)
              subst hA
              have hck := hge.cell (p := ⟨bb, off + k, none⟩) hbb
              rw [hcell k hlt3] at hck
              clear hcell hge
              obtain ⟨x, hx⟩ : ∃ x, x = ss[k]?.getD ByteArray.empty := ⟨_, rfl⟩
              rw [← hx] at hck
              have hxb := Z.out (ss[k]?.getD ByteArray.empty) (by simp [hlt3])
              rw [← hx] at hxb
              have hT : txtL (bs.drop ((intsL ns).length + (textsL (ss.take k)).length)) = (bytesI x, (textL (bytesI x)).length, 0) := by
                rw [HBS.out, ← List.drop_drop, List.drop_left, textsL_split ss k hlt3, List.drop_left, ← hx]
                exact txtL_text (by rw [bytesI_len]; omega) _
              have HS := Lib.hid (show (intsL ns).length + (textsL (ss.take k)).length + (textL (bytesI x)).length = (intsL ns).length + (textsL (ss.take (k + 1))).length by rw [textsL_snoc ss k hlt3, List.length_append, hx, Nat.add_assoc])
              have HT := Lib.hid hT
              clear hx hxb hT
              go_wp2_with fail
              refine (rtext_any R.out).mono ?_
              rw [HT.out]
              rintro e w3 ⟨rfl, hr3, hg3⟩
              have G3 := Lib.hid (Gg.ge G.out hg3 hgs')
              dsimp only at hr3
              rw [HS.out] at hr3
              have R3 := Lib.hid hr3
              clear hg3 hr3
              dsimp only
              rw [strOf_bytesI]
              have hxx : (x.toList != x.toList) = false := by simp
              go_wp2
              go_roundw
              case rel => exact ⟨k + 1, by omega, by go_num, R3.out, G3.out⟩
              case measure => simp [intOf]; omega
            · obtain rfl : k = ss.length := by omega
              rw [List.take_length] at R
              have hpe : (intsL ns).length + (textsL ss).length = bs.length := by rw [HBS.out, List.length_append]
              rw [hpe] at R
              clear hge hpe
              go_wp2_with fail
              refine (end_done R.out (by omega)).mono ?_
              rintro e w3 ⟨rfl, hg3⟩
              have R3 := Lib.hid (R.out.ge hg3)
              have G3 := Lib.hid (G.out.trans hg3)
              clear hg3
              go_wp2_with fail
              refine (at_any R3.out).mono ?_
              rintro e w4 ⟨rfl, rfl⟩
              go_wp2
              go_returns
              exact ⟨rfl, G3.out⟩
end Go.Proofs.Ytonpoloahagddaa
