/- The reference of the digest: Joined, List. -/
import Derived.Test.YtbefcipeojahfaaGreatDoorRef03
import Derived.Lib.BufferRead
namespace Go.Proofs.YtbefcipeojahfaaGreatDoor
open Go.RowKit

theorem row_below {w w' : World} {B e size n : Nat} {v : Value} {xs : List Value} (h : w.ownsRow B e size v n xs) (hb : Below w.heap.size w w') : w'.ownsRow B e size v n xs := by
  refine ⟨h.1, ?_⟩
  rcases h.2 with hn | ⟨g, cap, cur, rfl, hg, hgg, rest⟩
  · exact .inl hn
  · exact .inr ⟨g, cap, cur, rfl, hg, by rw [hb.block g (Array.getElem?_eq_some_iff.1 hgg).1]; exact hgg, rest⟩
theorem row_own {w : World} {B e size n : Nat} {v : Value} {xs : List Value} (h : w.ownsRow B e size v n xs) : ∀ k, v.ownBlock = some k → B ≤ k := fun k hk => (h.lt k hk).1

theorem conv_row (w : World) (B n : Nat) (v : Value) (l : List UInt8) (h : w.ownsRow B 5 1 v n (Go.Lib.byteCells l)) :
    (convert 66 9 v).run Tryz.prog w = .ok (.string ⟨l.toArray⟩) w := by
  have hn : l.length = n := by have := h.1; rw [Go.Lib.byteCells_length] at this; omega
  rcases h.2 with ⟨rfl, h0⟩ | ⟨g, cap, cur, rfl, hg, hgg, h1, h2, h3, h4⟩
  · have hl : l = [] := List.eq_nil_of_length_eq_zero (by omega)
    subst hl
    exact Go.Lib.run_convert_nil_bytes w _ _ _ _ Tryz.underlying66 Tryz.underlying5 Tryz.underlying9
  · have := run_convert_bytes_back (P := Tryz.prog) w 66 9 5 ⟨g, 0, none⟩ cap l Tryz.underlying66 Tryz.underlying5 Tryz.underlying9 (Go.Lib.bytes_of_row hgg (by rw [hn]; first | exact h4 | simpa using h4))
    rw [hn] at this
    exact this

set_option maxRecDepth 100000 in
set_option maxHeartbeats 8000000 in
theorem rjoined (A : Option Addr) (c : Nat) (l : List ByteArray) (w : World) (h : Strs w A l) (hl : l.length ≤ 30) (hs : ∀ s ∈ l, s.size ≤ 200) :
    Calls Tryz.prog 20 #[.slice A l.length c] w fun e w' => e = .returned (.string ⟨(jn l).toArray⟩) ∧ Below w.heap.size w w' := by
  obtain ⟨i0, hi, hz0, hz1, hz2⟩ := info_parts info_byte
  have HI := Lib.hid (And.intro hi (And.intro hz0 (And.intro hz1 hz2)))
  clear hi hz0 hz1 hz2
  have HH := Lib.hid h
  have HSZ := Lib.hid hs
  have HJ := Lib.hid (jn_few l hs)
  clear h hs
  go_enter Tryz.func20, Tryz.ntmps20
  go_wp2_with fail
  go_loop [3, 4] (fun u3 u4 => ∃ k N : Nat, k ≤ l.length ∧ N ≤ 221 * k ∧ u4 = .int .i64 k ∧ u3 = .int .i64 N) (fun _ u4 => l.length - (intOf u4).toNat)
  case atStart => exact ⟨0, 0, Nat.zero_le _, Nat.zero_le _, rfl, rfl⟩
  case round =>
  obtain ⟨k, N, hk, hN, rfl, rfl⟩ := hrel
  by_cases hlt : k < l.length
  · obtain ⟨s, hs⟩ := get_some l k hlt
    obtain ⟨b, off, rfl, c0⟩ := HH.out.at_ hs
    have hs2 : s.size ≤ 200 := HSZ.out s (List.mem_of_getElem? hs)
    obtain ⟨z, hz⟩ : ∃ z, s.size = z := ⟨_, rfl⟩
    rw [hz] at hs2
    clear hs
    go_wp2_with fail
    go_round
    case rel => exact ⟨k + 1, N + (z + 21), by omega, by omega, by go_num, by go_num⟩
    case measure => simp [intOf]; omega
  · obtain rfl : k = l.length := by omega
    have hN2 : N ≤ 6630 := by omega
    clear hN hk
    go_wp2_with (at_make; refine wpList_make_own _ rfl _ _ 66 rfl w.heap.size 5 i0 (.int .u8 0) 1 Tryz.underlying66 HI.out.1 HI.out.2.1 HI.out.2.2.1 .i64 .i64 _ N rfl rfl rfl (by rw [HI.out.2.2.2]; omega) (by unfold maxLen; omega) (Nat.le_refl _) ?_)
    intro w1 hown hgrow
    have HB1 : Hid (Below w.heap.size w w1) := Lib.hid ((Below.refl _ w).grown hgrow (Nat.le_refl _) (fun j hj => by cases hj))
    have HO1 := Lib.hid hown
    clear hown hgrow
    go_wp2_with fail
    go_loopw [5, 6] (fun u5 u6 wr => ∃ k : Nat, k ≤ l.length ∧ u6 = .int .i64 k ∧ wr.ownsRow w.heap.size 5 1 u5 (jn (l.take k)).length (Go.Lib.byteCells (jn (l.take k))) ∧ Below w.heap.size w wr) (fun _ u6 _ => l.length - (intOf u6).toNat)
    case atStart => exact ⟨0, Nat.zero_le _, rfl, HO1.out, HB1.out⟩
    case round =>
    obtain ⟨k, hk, rfl, hown, hbel⟩ := hrel
    have HOWN := Lib.hid hown
    have HBE := Lib.hid hbel
    clear hown hbel
    by_cases hlt : k < l.length
    · obtain ⟨s, hs⟩ := get_some l k hlt
      obtain ⟨b, off, rfl, c0⟩ := (HH.out.below HBE.out).at_ hs
      have hs2 : s.size ≤ 200 := HSZ.out s (List.mem_of_getElem? hs)
      have hbl : b < wr.heap.size := by
        have := lt_of_cell c0
        simpa using this
      have hsn := jn_snoc hs
      have hle := jn_le l (k + 1)
      have hsz : (jn (l.take k)).length + (Go.Lib.decDigits s.size).length + 1 + s.size ≤ 1000000 := by
        have hj := HJ.out
        rw [hsn] at hle
        simp only [List.length_append, List.length_cons, List.length_nil] at hle
        have : s.data.toList.length = s.size := rfl
        omega
      have HA := Lib.hid hs
      have HSN := Lib.hid hsn
      have HS2 := Lib.hid hsz
      have HBS : Hid (w.heap.size ≤ wr.heap.size) := Lib.hid HBE.out.size
      have HDC := Lib.hid (rdecimal s.size (by omega) wr)
      have hdz : (dec s.size).size = (Go.Lib.decDigits s.size).length := rfl
      have HDZ := Lib.hid hdz
      clear hs hsn hle hsz hdz
      go_wp2_with fail
      refine HDC.out.mono ?_
      rintro e w2 ⟨rfl, rfl⟩
      go_wp2_with (at_builtin; refine Go.Lib.wpList_append_own_string _ rfl _ _ 66 9 rfl w.heap.size 5 i0 Tryz.underlying66 Tryz.underlying9 HI.out.1 HI.out.2.1 HI.out.2.2.1 HI.out.2.2.2 _ _ _ rfl HOWN.out (dec s.size) rfl (by have := HS2.out; rw [HDZ.out]; unfold maxLen; omega) (by have := HS2.out; rw [HDZ.out]; omega) HBS.out ?_)
      intro v1 w1 hown1 hgrow1 _
      have HB1 := Lib.hid (HBE.out.grown hgrow1 HBS.out (row_own HOWN.out))
      have HO1 := Lib.hid hown1
      clear hown1 hgrow1
      go_wp2_with (at_builtin; refine wpList_append_own _ rfl _ _ 66 rfl w.heap.size 5 i0 (.int .u8 0) 1 1 Tryz.underlying66 HI.out.1 HI.out.2.1 HI.out.2.2.1 HI.out.2.2.2 rfl (by decide) _ _ _ rfl (HO1.out.alloc _) ⟨w1.heap.size, 0, none⟩ 1 1 [.int .u8 58] rfl rfl ?c1 ?c2 ?c3 ?c4 ?c5 ?_)
      case c1 =>
        intro j u hj
        match j, hj with
        | 0, hj => simp at hj; subst hj; simp [Addr.add]
      case c2 => intro u hu; simp at hu; subst hu; rfl
      case c3 => have := HS2.out; rw [HDZ.out]; unfold maxLen; omega
      case c4 => have := HS2.out; rw [HDZ.out]; omega
      case c5 => have := HB1.out.size; simp; omega
      intro v2 w2 hown2 hgrow2 _
      have HB2 := Lib.hid ((HB1.out.alloc (by first | exact HB1.out.size | rfl) _).grown hgrow2 (by have := HB1.out.size; simp; omega) (row_own HO1.out))
      have HO2 := Lib.hid hown2
      clear hown2 hgrow2
      obtain ⟨b2, off2, he, c2⟩ := (HH.out.below HB2.out).at_ HA.out
      cases he
      go_wp2_with (at_builtin; refine Go.Lib.wpList_append_own_string _ rfl _ _ 66 9 rfl w.heap.size 5 i0 Tryz.underlying66 Tryz.underlying9 HI.out.1 HI.out.2.1 HI.out.2.2.1 HI.out.2.2.2 _ _ _ rfl HO2.out s rfl (by have := HS2.out; rw [HDZ.out]; unfold maxLen; omega) (by have := HS2.out; rw [HDZ.out]; omega) HB2.out.size ?_)
      intro v3 w3 hown3 hgrow3 _
      have HB3 := Lib.hid (HB2.out.grown hgrow3 HB2.out.size (row_own HO2.out))
      have hfin : w3.ownsRow w.heap.size 5 1 v3 (jn (l.take (k + 1))).length (Go.Lib.byteCells (jn (l.take (k + 1)))) := by
        have e1 : (jn (l.take (k + 1))).length = (jn (l.take k)).length + (dec s.size).size + 1 + s.size := by
          rw [HSN.out, HDZ.out]; simp only [List.length_append, List.length_singleton]; rfl
        have e2 : Go.Lib.byteCells (jn (l.take (k + 1))) = Go.Lib.byteCells (jn (l.take k)) ++ Go.Lib.strCells (dec s.size) ++ [.int .u8 58] ++ Go.Lib.strCells s := by
          rw [HSN.out]; simp [Go.Lib.byteCells, Go.Lib.strCells, dec]
        rw [e1, e2]; simp only [List.append_assoc, List.singleton_append]; exact hown3
      have HF := Lib.hid hfin
      clear hown3 hgrow3 hfin
      go_wp2_with fail
      go_roundw
      case rel => exact ⟨k + 1, by omega, by go_num, HF.out, HB3.out⟩
      case measure => simp [intOf]; omega
    · obtain rfl : k = l.length := by omega
      rw [List.take_length] at HOWN
      have hcv := conv_row _ _ _ _ _ HOWN.out
      go_wp2
      go_ret
      exact ⟨rfl, HBE.out⟩

theorem rlist (A : Option Addr) (c : Nat) (l : List ByteArray) (w : World) (h : Strs w A l) (hl : l.length ≤ 30) (hs : ∀ s ∈ l, s.size ≤ 200) :
    Calls Tryz.prog 48 #[.slice A l.length c] w fun e w' => e = .returned (.string (dg ⟨(jn l).toArray⟩)) ∧ Below w.heap.size w w' := by
  have HJ := Lib.hid (rjoined A c l w h hl hs)
  have hz : (⟨(jn l).toArray⟩ : ByteArray).size ≤ 1000000000 := by
    have := jn_few l hs
    show (jn l).length ≤ _
    omega
  have HS : Hid (∀ w', Calls Tryz.prog 49 #[.string ⟨(jn l).toArray⟩] w' fun e w'' => e = .returned (.string (dg ⟨(jn l).toArray⟩)) ∧ w' = w'') := Lib.hid (fun w' => rsum _ hz w')
  clear h hs hz
  obtain ⟨t, ht⟩ : ∃ t, (⟨(jn l).toArray⟩ : ByteArray) = t := ⟨_, rfl⟩
  rw [ht] at HJ HS ⊢
  clear ht
  go_enter Tryz.func48, Tryz.ntmps48
  go_wp2_with fail
  refine HJ.out.mono ?_
  rintro e w1 ⟨rfl, hb1⟩
  have HB1 := Lib.hid hb1
  clear hb1
  go_wp2_with fail
  refine (HS.out w1).mono ?_
  rintro e w2 ⟨rfl, rfl⟩
  go_wp2
  go_ret
  exact ⟨rfl, HB1.out⟩

end Go.Proofs.YtbefcipeojahfaaGreatDoor
