/-
  WirePuts: the walk.
-/
import Derived.Test.YtonpoloahagddaaFew
import Derived.Test.YtonpoloahagddaaLive
namespace Go.Proofs.Ytonpoloahagddaa
open Go.RowKit

def txX (s : ByteArray) : List Int := if s.size ≤ 65536 then textL (bytesI s) else []
def txE (s : ByteArray) : Int := if s.size ≤ 65536 then 0 else 3
theorem text_u (s : ByteArray) (w : World) : Calls Try.prog 15 #[.string s] w fun e w' => ∃ v, e = .returned (.tuple #[v, .int .i64 (txE s)]) ∧ BytesAt w' v (txX s) ∧ Ge w w' := by
  unfold txX txE
  by_cases h : s.size ≤ 65536
  · rw [if_pos h, if_pos h]
    exact (text_any s h w).mono fun e w' ⟨v, he, hv, hg⟩ => ⟨v, he, hv.bytes, hg⟩
  · rw [if_neg h, if_neg h]
    refine (text_long s (by omega) w).mono ?_
    rintro e w' ⟨rfl, rfl⟩
    exact ⟨_, rfl, ⟨none, 0, rfl, Nat.le_refl _, fun h => absurd rfl h⟩, Ge.refl _⟩
theorem rText_u (s : ByteArray) (w : World) : Calls Try.prog 16 #[.string s] w fun e w' => ∃ v, e = .returned (.tuple #[v, .int .i64 (txE s)]) ∧ BytesAt w' v (txX s) ∧ Ge w w' := by
  unfold txX txE
  by_cases h : s.size ≤ 65536
  · rw [if_pos h, if_pos h]
    exact (rText_any s h w).mono fun e w' ⟨v, he, hv, hg⟩ => ⟨v, he, hv.bytes, hg⟩
  · rw [if_neg h, if_neg h]
    refine (rText_long s (by omega) w).mono ?_
    rintro e w' ⟨rfl, rfl⟩
    exact ⟨_, rfl, ⟨none, 0, rfl, Nat.le_refl _, fun h => absurd rfl h⟩, Ge.refl _⟩
theorem txX_isB (s : ByteArray) : IsB (txX s) := by
  unfold txX
  split
  · exact (intL_isB _).append (bytesI_isB s)
  · exact IsB.nil
theorem eqL_self (xs : List Int) : eqL xs xs = true := by simp [eqL]

def PutsRel (n : Nat) (w : World) (i : Value) (wr : World) : Prop := ∃ k : Nat, k ≤ n ∧ i = .int .i64 (k : Int) ∧ Ge w wr

set_option maxRecDepth 100000 in
set_option maxHeartbeats 8000000 in
theorem puts_any {w : World} {vl vp : Value} {ns : List Int} {s : ByteArray} {ls : List (List Int)} (hn : LongsAt w vl ns) (hp : PartsW w vp ls) (hl1 : ns.length ≤ 9223372036854775807) (hl2 : ls.length ≤ 9223372036854775807) (hls : ∀ l ∈ ls, l.length ≤ 140737488351232) :
    Calls Try.prog 4 #[vl, .string s, vp] w fun e w' => e = .returned (.bool true) ∧ Ge w w' := by
  have HN := Lib.hid hn
  have HP := Lib.hid hp
  have HLS := Lib.hid hls
  have HI := Lib.hid (show ∀ l ∈ ls, IsB l by obtain ⟨_, _, _, _, _, _, hi, _⟩ := hp; exact hi)
  obtain ⟨nA, ncap, rfl, nle, nr, nc⟩ := hn
  obtain ⟨pA, pcap, pvs, rfl, -⟩ := hp
  have NR := Lib.hid nr
  have NC := Lib.hid nc
  clear nr nc hls
  go_enter Try.func4, Try.ntmps4
  go_wp2_with fail
  refine (live_any _).mono ?_
  rintro e w1 ⟨rfl, hg1⟩
  have G1 := Lib.hid hg1
  clear hg1
  by_cases c1 : 300 < ns.length
  · have c1' : decide ((300 : Int) < (ns.length : Int)) = true := by simp; omega
    go_wp2
    go_returns
    exact ⟨rfl, G1.out⟩
  have c1' : decide ((300 : Int) < (ns.length : Int)) = false := by simp; omega
  go_wp2_with fail
  refine (few_any (HP.out.ge G1.out) hl2 (fun l hl => by have := HLS.out l hl; omega)).mono ?_
  rintro e w2 ⟨q, rfl, hq, rfl⟩
  have HQ := Lib.hid hq
  clear hq
  cases q
  · go_wp2
    go_returns
    exact ⟨rfl, G1.out⟩
  obtain ⟨q1, q2⟩ := HQ.out rfl
  have hflat := few_len (by decide) HLS.out q2
  clear HQ q2
  have HT := Lib.hid (txX_isB s)
  obtain ⟨te, hte⟩ : ∃ te, te = txE s := ⟨_, rfl⟩
  have A1 := Lib.hid (text_u s w2)
  have A2 := Lib.hid (fun w' => rText_u s w')
  rw [← hte] at A1 A2
  clear hte
  go_wp2_with fail
  refine A1.out.mono ?_
  rintro e w3 ⟨va, rfl, hva, hg3⟩
  have VA := Lib.hid hva
  have G3 := Lib.hid (G1.out.trans hg3)
  clear hva hg3 A1
  go_wp2_with fail
  refine (A2.out _).mono ?_
  rintro e w4 ⟨vb, rfl, hvb, hg4⟩
  have VB := Lib.hid hvb
  have VA4 := Lib.hid (VA.out.ge hg4)
  have G4 := Lib.hid (G3.out.trans hg4)
  clear hvb hg4 A2 VA
  go_wp2
  go_loopw [35] (fun i wr => PutsRel ns.length w4 i wr) (fun i _ => ns.length - (intOf i).toNat)
  case atStart => exact ⟨0, by omega, rfl, Ge.refl _⟩
  case round =>
    obtain ⟨k, hk, rfl, hge⟩ := hrel
    have G := Lib.hid hge
    by_cases hlt : k < ns.length
    · obtain ⟨bb, off, hA, hbb, hcell⟩ := NC.out (by intro e; rw [e] at hlt; simp at hlt)
      subst hA
      have hck := (G4.out.trans hge).cell (p := ⟨bb, off + k, none⟩) hbb
      rw [hcell k hlt] at hck
      have hxb := NR.out (ns[k]?.getD 0) (by simp [hlt])
      obtain ⟨x, hx⟩ : ∃ x, x = ns[k]?.getD 0 := ⟨_, rfl⟩
      rw [← hx] at hck hxb
      obtain ⟨x0, x1⟩ := hxb
      clear hcell hge hx
      go_wp2_with fail
      refine (int_any _ x0 x1 _).mono ?_
      rintro e w5 ⟨v5, rfl, hv5, hg5⟩
      have V5 := Lib.hid hv5.bytes
      have G5 := Lib.hid (G.out.trans hg5)
      clear hv5 hg5 hck
      go_wp2_with fail
      refine (refInt_any _ x0 x1 _).mono ?_
      rintro e w6 ⟨v6, rfl, hv6, hg6⟩
      have V6 := Lib.hid hv6.bytes
      have V5' := Lib.hid (V5.out.ge hg6)
      have G6 := Lib.hid (G5.out.trans hg6)
      clear hv6 hg6
      go_wp2_with fail
      refine (equal_any V5'.out V6.out (intL_isB _) (intL_isB _)).mono ?_
      rintro e w7 ⟨rfl, rfl⟩
      rw [eqL_self]
      go_wp2
      go_roundw
      case rel => exact ⟨k + 1, by omega, by go_num, G6.out⟩
      case measure => simp [intOf]; omega
    · clear hge
      have GA := Lib.hid (G4.out.trans G.out)
      go_wp2_with fail
      refine (equal_any (VA4.out.ge G.out) (VB.out.ge G.out) HT.out HT.out).mono ?_
      rintro e w7 ⟨rfl, rfl⟩
      rw [eqL_self]
      have hee : (te == te) = true := by simp
      go_wp2_with fail
      refine (ints_any (HN.out.ge GA.out) (by omega)).mono ?_
      rintro e w8 ⟨v8, rfl, hv8, hg8⟩
      have V8 := Lib.hid hv8.bytes
      have G8 := Lib.hid (GA.out.trans hg8)
      clear hv8 hg8
      go_wp2_with fail
      refine (rInts_any (HN.out.ge G8.out) (by omega)).mono ?_
      rintro e w9 ⟨v9, rfl, hv9, hg9⟩
      have V9 := Lib.hid hv9.bytes
      have V8' := Lib.hid (V8.out.ge hg9)
      have G9 := Lib.hid (G8.out.trans hg9)
      clear hv9 hg9
      go_wp2_with fail
      refine (equal_any V8'.out V9.out (intsL_isB _) (intsL_isB _)).mono ?_
      rintro e w10 ⟨rfl, rfl⟩
      rw [eqL_self]
      go_wp2_with fail
      refine (wjoin_any (HP.out.ge G9.out) (by omega) (by omega)).mono ?_
      rintro e w11 ⟨v11, rfl, hv11, hg11⟩
      have V11 := Lib.hid hv11
      have G11 := Lib.hid (G9.out.trans hg11)
      clear hv11 hg11
      go_wp2_with fail
      refine (rJoin_any (HP.out.ge G11.out) (by omega) (by omega)).mono ?_
      rintro e w12 ⟨v12, rfl, hv12, hg12⟩
      have V12 := Lib.hid hv12
      have V11' := Lib.hid (V11.out.ge hg12)
      have G12 := Lib.hid (G11.out.trans hg12)
      clear hv12 hg12
      go_wp2_with fail
      refine (equal_any V11'.out V12.out (isB_flatten HI.out) (isB_flatten HI.out)).mono ?_
      rintro e w13 ⟨rfl, rfl⟩
      rw [eqL_self]
      go_wp2
      go_returns
      exact ⟨rfl, G12.out⟩
end Go.Proofs.Ytonpoloahagddaa
