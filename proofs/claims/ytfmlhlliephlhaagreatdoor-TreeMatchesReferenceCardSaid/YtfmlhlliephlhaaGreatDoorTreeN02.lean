/- The reference of layer 2: Leaf, Root, Path, Link, Check, Extends; tree.Path, tree.Link at all arguments. -/
import Derived.Test.YtfmlhlliephlhaaGreatDoorTreeM02
import Derived.Test.YtfmlhlliephlhaaGreatDoorTreeHead02
namespace Go.Proofs.YtfmlhlliephlhaaGreatDoor
open Go.RowKit

def pathL (l : List ByteArray) (i : Int) : List ByteArray := if allD l = true ∧ 0 ≤ i ∧ i < l.length then pt l i.toNat else []
def pathE (l : List ByteArray) (i : Int) : Int := if allD l = true ∧ 0 ≤ i ∧ i < l.length then 0 else 1
def linkL (l : List ByteArray) (m : Int) : List ByteArray := if allD l = true ∧ 1 ≤ m ∧ m ≤ l.length then lk l m.toNat true else []
def linkE (l : List ByteArray) (m : Int) : Int := if allD l = true ∧ 0 ≤ m ∧ m ≤ l.length then 0 else 1

theorem rleaf_any (a : ByteArray) (ha : a.size ≤ 200) (w : World) :
    Calls Tryz.prog 13 #[.string a] w fun e w' => e = .returned (.string (lf a)) ∧ Below w.heap.size w w' := by
  have HL := Lib.hid (rlist (some ⟨w.heap.size, 0, none⟩) 2 [bLeaf, a] (w.alloc (.cells #[.string bLeaf, .string a] 9)) (Strs_new _ _ _ _ _ rfl rfl) (by simp) (by
    intro s hs
    simp only [List.mem_cons, List.not_mem_nil, or_false] at hs
    rcases hs with rfl | rfl
    · decide
    · exact ha))
  unfold bLeaf at HL
  go_enter Tryz.func13, Tryz.ntmps13
  go_wp2_with fail
  refine HL.out.mono ?_
  rintro e w1 ⟨rfl, hb1⟩
  have HB1 := Lib.hid (below_trans (below_alloc (Below.refl _ _) _) hb1)
  clear hb1
  go_wp2
  go_ret
  exact ⟨rfl, HB1.out⟩
theorem rRoot_any (A : Option Addr) (c : Nat) (l : List ByteArray) (w : World) (hbig : l.length ≤ 100000) (hcap : l.length ≤ c) (hS : Strs w A l) (hsm : sm l) :
    Calls Tryz.prog 7 #[.slice A l.length c] w fun e w' => e = .returned (.tuple #[.string (if allD l then rt l else ByteArray.empty), .int .i64 (if allD l then 0 else 1)]) ∧ Below w.heap.size w w' := by
  have HD := Lib.hid (rdig_any A c l w hS (by omega) (fun s hs => by have := hsm s hs; omega))
  have HR := Lib.hid (rroot_any l.length A c l w (Nat.le_refl _) hbig hcap hS hsm)
  clear hS hsm
  cases hv : allD l
  all_goals rw [hv] at HD
  case false =>
    simp only [Bool.false_eq_true, if_false]
    go_enter Tryz.func7, Tryz.ntmps7
    go_wp2_with fail
    refine HD.out.mono ?_
    rintro e _ ⟨rfl, rfl⟩
    go_wp2
    go_ret2
    exact ⟨rfl, Below.refl _ _⟩
  case true =>
    simp only [if_true]
    go_enter Tryz.func7, Tryz.ntmps7
    go_wp2_with fail
    refine HD.out.mono ?_
    rintro e _ ⟨rfl, rfl⟩
    go_wp2_with fail
    refine HR.out.mono ?_
    rintro e w1 ⟨rfl, hb1⟩
    have HB1 := Lib.hid hb1
    clear hb1
    go_wp2
    go_ret2
    exact ⟨rfl, HB1.out⟩
set_option maxHeartbeats 8000000 in
theorem tPath_all (A : Option Addr) (c : Nat) (l : List ByteArray) (i : Int) (w : World) (hbig : l.length ≤ 100000) (hcap : l.length ≤ c) (hS : Strs w A l) (hsm : sm l) (hT : Tabs w) :
    Calls Tryz.prog 8 #[.slice A l.length c, .int .i64 i] w fun e w' => ∃ A' c', e = .returned (.tuple #[.slice A' (pathL l i).length c', .int .i64 (pathE l i)]) ∧ Strs w' A' (pathL l i) ∧ Below w.heap.size w w' := by
  have HPR := Lib.hid (proper_any A c l w (by omega) hS (fun s hs => by have := hsm s hs; omega))
  obtain ⟨v, hv⟩ : ∃ v, allD l = v := ⟨_, rfl⟩
  cases v with
  | false =>
    rw [hv] at HPR
    clear hS hsm
    rw [show pathL l i = [] from if_neg (by rw [hv]; simp), show pathE l i = 1 from if_neg (by rw [hv]; simp)]
    go_enter Tryz.func8, Tryz.ntmps8
    go_wp2_with fail
    refine HPR.out.mono ?_
    rintro e w1 ⟨rfl, hb1⟩
    have HB1 := Lib.hid hb1
    clear hb1
    go_wp2
    go_ret2
    exact ⟨none, 0, rfl, ⟨rfl, fun h => by simp at h⟩, HB1.out⟩
  | true =>
    rw [hv] at HPR
    by_cases h0 : i < 0
    · skip
      clear hS hsm
      have hd0 : decide (i < 0) = true := decide_eq_true h0
      rw [show pathL l i = [] from if_neg (by omega), show pathE l i = 1 from if_neg (by omega)]
      go_enter Tryz.func8, Tryz.ntmps8
      go_wp2_with fail
      refine HPR.out.mono ?_
      rintro e w1 ⟨rfl, hb1⟩
      have HB1 := Lib.hid hb1
      clear hb1
      go_wp2
      go_ret2
      exact ⟨none, 0, rfl, ⟨rfl, fun h => by simp at h⟩, HB1.out⟩
    by_cases h1 : (l.length : Int) ≤ i
    · skip
      clear hS hsm
      have hd0 : decide (i < 0) = false := decide_eq_false h0
      have hd1 : decide ((l.length : Int) ≤ i) = true := decide_eq_true h1
      rw [show pathL l i = [] from if_neg (by omega), show pathE l i = 1 from if_neg (by omega)]
      go_enter Tryz.func8, Tryz.ntmps8
      go_wp2_with fail
      refine HPR.out.mono ?_
      rintro e w1 ⟨rfl, hb1⟩
      have HB1 := Lib.hid hb1
      clear hb1
      go_wp2
      go_ret2
      exact ⟨none, 0, rfl, ⟨rfl, fun h => by simp at h⟩, HB1.out⟩
    have hc : allD l = true ∧ 0 ≤ i ∧ i < l.length := ⟨hv, by omega, by omega⟩
    rw [show pathL l i = pt l i.toNat from if_pos hc, show pathE l i = 0 from if_pos hc]
    exact (tpath_any A c l i w hbig hcap hS hsm hT hv (by omega) (by omega)).mono fun _ _ ⟨A', c', he, _, h2, _, hb⟩ => ⟨A', c', he, h2, hb⟩
set_option maxHeartbeats 8000000 in
theorem rPath_all (A : Option Addr) (c : Nat) (l : List ByteArray) (i : Int) (w : World) (hbig : l.length ≤ 100000) (hcap : l.length ≤ c) (hS : Strs w A l) (hsm : sm l) :
    Calls Tryz.prog 9 #[.slice A l.length c, .int .i64 i] w fun e w' => ∃ A' c', e = .returned (.tuple #[.slice A' (pathL l i).length c', .int .i64 (pathE l i)]) ∧ Strs w' A' (pathL l i) ∧ Below w.heap.size w w' := by
  have HPR := Lib.hid (rdig_any A c l w hS (by omega) (fun s hs => by have := hsm s hs; omega))
  obtain ⟨v, hv⟩ : ∃ v, allD l = v := ⟨_, rfl⟩
  cases v with
  | false =>
    rw [hv] at HPR
    clear hS hsm
    rw [show pathL l i = [] from if_neg (by rw [hv]; simp), show pathE l i = 1 from if_neg (by rw [hv]; simp)]
    go_enter Tryz.func9, Tryz.ntmps9
    go_wp2_with fail
    refine HPR.out.mono ?_
    rintro e _ ⟨rfl, rfl⟩
    go_wp2
    go_ret2
    exact ⟨none, 0, rfl, ⟨rfl, fun h => by simp at h⟩, Below.refl _ _⟩
  | true =>
    rw [hv] at HPR
    by_cases h0 : i < 0
    · skip
      clear hS hsm
      have hd0 : decide (i < 0) = true := decide_eq_true h0
      rw [show pathL l i = [] from if_neg (by omega), show pathE l i = 1 from if_neg (by omega)]
      go_enter Tryz.func9, Tryz.ntmps9
      go_wp2_with fail
      refine HPR.out.mono ?_
      rintro e _ ⟨rfl, rfl⟩
      go_wp2
      go_ret2
      exact ⟨none, 0, rfl, ⟨rfl, fun h => by simp at h⟩, Below.refl _ _⟩
    by_cases h1 : (l.length : Int) ≤ i
    · skip
      clear hS hsm
      have hd0 : decide (i < 0) = false := decide_eq_false h0
      have hd1 : decide ((l.length : Int) ≤ i) = true := decide_eq_true h1
      rw [show pathL l i = [] from if_neg (by omega), show pathE l i = 1 from if_neg (by omega)]
      go_enter Tryz.func9, Tryz.ntmps9
      go_wp2_with fail
      refine HPR.out.mono ?_
      rintro e _ ⟨rfl, rfl⟩
      go_wp2
      go_ret2
      exact ⟨none, 0, rfl, ⟨rfl, fun h => by simp at h⟩, Below.refl _ _⟩
    have hc : allD l = true ∧ 0 ≤ i ∧ i < l.length := ⟨hv, by omega, by omega⟩
    rw [show pathL l i = pt l i.toNat from if_pos hc, show pathE l i = 0 from if_pos hc]
    obtain ⟨I, rfl⟩ : ∃ I : Nat, i = I := ⟨i.toNat, by omega⟩
    rw [Int.toNat_natCast]
    have HP := Lib.hid (rpath_any l.length A c l I w (Nat.le_refl _) (by omega) hbig hcap hS hsm)
    have hd0 : decide ((I : Int) < 0) = false := decide_eq_false h0
    have hd1 : decide ((l.length : Int) ≤ (I : Int)) = false := decide_eq_false h1
    have hd2 : decide (l.length ≤ I) = false := decide_eq_false (by omega)
    clear hS hsm hc
    generalize pt l I = T at *
    go_enter Tryz.func9, Tryz.ntmps9
    go_wp2_with fail
    refine HPR.out.mono ?_
    rintro e _ ⟨rfl, rfl⟩
    go_wp2_with fail
    refine HP.out.mono ?_
    rintro e w1 ⟨v, rfl, ho, hb1⟩
    obtain ⟨A', c', rfl, -, -, hr⟩ := Rd.of_own ho
    have HR := Lib.hid hr
    have HB1 := Lib.hid hb1
    clear hb1 ho hr
    go_wp2
    go_ret2
    exact ⟨A', c', rfl, by unfold Strs; exact HR.out, HB1.out⟩
set_option maxHeartbeats 8000000 in
theorem tLink_all (A : Option Addr) (c : Nat) (l : List ByteArray) (i : Int) (w : World) (hbig : l.length ≤ 100000) (hcap : l.length ≤ c) (hS : Strs w A l) (hsm : sm l) (hT : Tabs w) :
    Calls Tryz.prog 10 #[.slice A l.length c, .int .i64 i] w fun e w' => ∃ A' c', e = .returned (.tuple #[.slice A' (linkL l i).length c', .int .i64 (linkE l i)]) ∧ Strs w' A' (linkL l i) ∧ Below w.heap.size w w' := by
  have HPR := Lib.hid (proper_any A c l w (by omega) hS (fun s hs => by have := hsm s hs; omega))
  obtain ⟨v, hv⟩ : ∃ v, allD l = v := ⟨_, rfl⟩
  cases v with
  | false =>
    rw [hv] at HPR
    clear hS hsm
    rw [show linkL l i = [] from if_neg (by rw [hv]; simp), show linkE l i = 1 from if_neg (by rw [hv]; simp)]
    go_enter Tryz.func10, Tryz.ntmps10
    go_wp2_with fail
    refine HPR.out.mono ?_
    rintro e w1 ⟨rfl, hb1⟩
    have HB1 := Lib.hid hb1
    clear hb1
    go_wp2
    go_ret2
    exact ⟨none, 0, rfl, ⟨rfl, fun h => by simp at h⟩, HB1.out⟩
  | true =>
    rw [hv] at HPR
    by_cases h0 : i < 0
    · skip
      clear hS hsm
      have hd0 : decide (i < 0) = true := decide_eq_true h0
      rw [show linkL l i = [] from if_neg (by omega), show linkE l i = 1 from if_neg (by omega)]
      go_enter Tryz.func10, Tryz.ntmps10
      go_wp2_with fail
      refine HPR.out.mono ?_
      rintro e w1 ⟨rfl, hb1⟩
      have HB1 := Lib.hid hb1
      clear hb1
      go_wp2
      go_ret2
      exact ⟨none, 0, rfl, ⟨rfl, fun h => by simp at h⟩, HB1.out⟩
    by_cases h1 : (l.length : Int) < i
    · skip
      clear hS hsm
      have hd0 : decide (i < 0) = false := decide_eq_false h0
      have hd1 : decide ((l.length : Int) < i) = true := decide_eq_true h1
      rw [show linkL l i = [] from if_neg (by omega), show linkE l i = 1 from if_neg (by omega)]
      go_enter Tryz.func10, Tryz.ntmps10
      go_wp2_with fail
      refine HPR.out.mono ?_
      rintro e w1 ⟨rfl, hb1⟩
      have HB1 := Lib.hid hb1
      clear hb1
      go_wp2
      go_ret2
      exact ⟨none, 0, rfl, ⟨rfl, fun h => by simp at h⟩, HB1.out⟩
    by_cases h2 : i = 0
    · subst h2
      rw [show linkL l 0 = [] from if_neg (by omega), show linkE l 0 = 0 from if_pos ⟨hv, by omega, by omega⟩]
      exact (tlink_zero A c l w hbig hS hsm hv).mono fun _ _ ⟨he, hb⟩ => ⟨none, 0, he, ⟨rfl, fun h => by simp at h⟩, hb⟩
    have hc : allD l = true ∧ 1 ≤ i ∧ i ≤ l.length := ⟨hv, by omega, by omega⟩
    rw [show linkL l i = lk l i.toNat true from if_pos hc, show linkE l i = 0 from if_pos ⟨hv, by omega, by omega⟩]
    exact (tlink_any A c l i w hbig hcap hS hsm hT hv (by omega) (by omega)).mono fun _ _ ⟨A', c', he, _, h2, _, hb⟩ => ⟨A', c', he, h2, hb⟩
set_option maxHeartbeats 8000000 in
theorem rLink_all (A : Option Addr) (c : Nat) (l : List ByteArray) (i : Int) (w : World) (hbig : l.length ≤ 100000) (hcap : l.length ≤ c) (hS : Strs w A l) (hsm : sm l) :
    Calls Tryz.prog 11 #[.slice A l.length c, .int .i64 i] w fun e w' => ∃ A' c', e = .returned (.tuple #[.slice A' (linkL l i).length c', .int .i64 (linkE l i)]) ∧ Strs w' A' (linkL l i) ∧ Below w.heap.size w w' := by
  have HPR := Lib.hid (rdig_any A c l w hS (by omega) (fun s hs => by have := hsm s hs; omega))
  obtain ⟨v, hv⟩ : ∃ v, allD l = v := ⟨_, rfl⟩
  cases v with
  | false =>
    rw [hv] at HPR
    clear hS hsm
    rw [show linkL l i = [] from if_neg (by rw [hv]; simp), show linkE l i = 1 from if_neg (by rw [hv]; simp)]
    go_enter Tryz.func11, Tryz.ntmps11
    go_wp2_with fail
    refine HPR.out.mono ?_
    rintro e _ ⟨rfl, rfl⟩
    go_wp2
    go_ret2
    exact ⟨none, 0, rfl, ⟨rfl, fun h => by simp at h⟩, Below.refl _ _⟩
  | true =>
    rw [hv] at HPR
    by_cases h0 : i < 0
    · skip
      clear hS hsm
      have hd0 : decide (i < 0) = true := decide_eq_true h0
      rw [show linkL l i = [] from if_neg (by omega), show linkE l i = 1 from if_neg (by omega)]
      go_enter Tryz.func11, Tryz.ntmps11
      go_wp2_with fail
      refine HPR.out.mono ?_
      rintro e _ ⟨rfl, rfl⟩
      go_wp2
      go_ret2
      exact ⟨none, 0, rfl, ⟨rfl, fun h => by simp at h⟩, Below.refl _ _⟩
    by_cases h1 : (l.length : Int) < i
    · skip
      clear hS hsm
      have hd0 : decide (i < 0) = false := decide_eq_false h0
      have hd1 : decide ((l.length : Int) < i) = true := decide_eq_true h1
      rw [show linkL l i = [] from if_neg (by omega), show linkE l i = 1 from if_neg (by omega)]
      go_enter Tryz.func11, Tryz.ntmps11
      go_wp2_with fail
      refine HPR.out.mono ?_
      rintro e _ ⟨rfl, rfl⟩
      go_wp2
      go_ret2
      exact ⟨none, 0, rfl, ⟨rfl, fun h => by simp at h⟩, Below.refl _ _⟩
    by_cases h2 : i = 0
    · subst h2
      rw [show linkL l 0 = [] from if_neg (by omega), show linkE l 0 = 0 from if_pos ⟨hv, by omega, by omega⟩]
      clear hS hsm
      have hd2 : decide (l.length < 0) = false := decide_eq_false (by omega)
      go_enter Tryz.func11, Tryz.ntmps11
      go_wp2_with fail
      refine HPR.out.mono ?_
      rintro e _ ⟨rfl, rfl⟩
      go_wp2
      go_ret2
      exact ⟨none, 0, rfl, ⟨rfl, fun h => by simp at h⟩, Below.refl _ _⟩
    have hc : allD l = true ∧ 1 ≤ i ∧ i ≤ l.length := ⟨hv, by omega, by omega⟩
    rw [show linkL l i = lk l i.toNat true from if_pos hc, show linkE l i = 0 from if_pos ⟨hv, by omega, by omega⟩]
    obtain ⟨I, rfl⟩ : ∃ I : Nat, i = I := ⟨i.toNat, by omega⟩
    rw [Int.toNat_natCast]
    have hd0 : decide ((I : Int) < 0) = false := decide_eq_false h0
    have hd1 : decide ((l.length : Int) < (I : Int)) = false := decide_eq_false h1
    have hd2 : decide (l.length < I) = false := decide_eq_false (by omega)
    have hz : ((I : Int) == 0) = false := by simp; omega
    have hz0 : (I == 0) = false := by simp; omega
    by_cases hlt : I < l.length
    case neg =>
      obtain rfl : I = l.length := by omega
      rw [lk_end l l.length true hlt, if_pos rfl]
      clear hS hsm hc
      generalize l.length = m at *
      go_enter Tryz.func11, Tryz.ntmps11
      go_wp2_with fail
      refine HPR.out.mono ?_
      rintro e _ ⟨rfl, rfl⟩
      go_wp2
      go_ret2
      exact ⟨none, 0, rfl, ⟨rfl, fun h => by simp at h⟩, Below.refl _ _⟩
    case pos =>
    have HP := Lib.hid (rlink_any l.length A c l I true w (Nat.le_refl _) (by omega) (by omega) hbig hcap hS hsm)
    have hne : ((I : Int) == (l.length : Int)) = false := by simp; omega
    have hne0 : (I == l.length) = false := by simp; omega
    clear hS hsm hc
    generalize lk l I true = T at *
    go_enter Tryz.func11, Tryz.ntmps11
    go_wp2_with fail
    refine HPR.out.mono ?_
    rintro e _ ⟨rfl, rfl⟩
    go_wp2_with fail
    refine HP.out.mono ?_
    rintro e w1 ⟨v, rfl, ho, hb1⟩
    obtain ⟨A', c', rfl, -, -, hr⟩ := Rd.of_own ho
    have HR := Lib.hid hr
    have HB1 := Lib.hid hb1
    clear hb1 ho hr
    go_wp2
    go_ret2
    exact ⟨A', c', rfl, by unfold Strs; exact HR.out, HB1.out⟩
set_option maxHeartbeats 8000000 in
theorem rcheck_any (root : ByteArray) (n i : Int) (leaf : ByteArray) (A : Option Addr) (c : Nat) (p : List ByteArray) (w : World) (hS : Strs w A p) (hbig : p.length ≤ 1000000) (hcap : p.length ≤ c) (hleaf : leaf.size ≤ 200) (hsm : sm p) :
    Calls Tryz.prog 16 #[.string root, .int .i64 n, .int .i64 i, .string leaf, .slice A p.length c] w fun e w' => e = .returned (.bool (chkB root n i leaf p)) ∧ Below w.heap.size w w' := by
  have hno : ¬ (n ≤ 1000000 ∧ 0 ≤ i ∧ i < n) → chkB root n i leaf p = false := fun h => by unfold chkB; rw [decide_eq_false h]; simp
  have HNO := Lib.hid hno
  clear hno
  by_cases h1 : 1000000 < n
  · have hres := HNO.out (by omega)
    have hd1 : decide (1000000 < n) = true := decide_eq_true h1
    have HRES := Lib.hid hres
    clear hS hsm hres
    go_enter Tryz.func16, Tryz.ntmps16
    go_wp2
    go_ret
    exact ⟨ret_bool (HRES.out).symm, Below.refl _ _⟩
  have hd1 : decide (1000000 < n) = false := decide_eq_false h1
  by_cases h2 : i < 0
  · have HRES := Lib.hid (HNO.out (by omega))
    have hd2 : decide (i < 0) = true := decide_eq_true h2
    clear hS hsm
    go_enter Tryz.func16, Tryz.ntmps16
    go_wp2
    go_ret
    exact ⟨ret_bool (HRES.out).symm, Below.refl _ _⟩
  have hd2 : decide (i < 0) = false := decide_eq_false h2
  by_cases h3 : n ≤ i
  · have HRES := Lib.hid (HNO.out (by omega))
    have hd3 : decide (n ≤ i) = true := decide_eq_true h3
    clear hS hsm
    go_enter Tryz.func16, Tryz.ntmps16
    go_wp2
    go_ret
    exact ⟨ret_bool (HRES.out).symm, Below.refl _ _⟩
  obtain ⟨N, rfl⟩ : ∃ N : Nat, n = N := ⟨n.toNat, by omega⟩
  obtain ⟨I, rfl⟩ : ∃ I : Nat, i = I := ⟨i.toNat, by omega⟩
  have hd3 : decide (N ≤ I) = false := decide_eq_false (by omega)
  have hd4 : decide ((N : Int) ≤ (I : Int)) = false := decide_eq_false (by omega)
  have hd5 : decide (1000000 < N) = false := decide_eq_false (by omega)
  have HLEN := Lib.hid (rlen_any N N I w (Nat.le_refl _) (by omega) (by omega) (by omega))
  have HDG := Lib.hid (rdig_any A c p w hS (by omega) (fun s hs => by have := hsm s hs; omega))
  have HIS := Lib.hid (ris leaf (by omega) w)
  have hval : chkB root (N : Int) (I : Int) leaf p = (allD p && isD leaf && (decide (upv N I leaf p = root) && decide (p.length = plen N I))) := by
    unfold chkB
    rw [decide_eq_true (⟨by omega, by omega, by omega⟩ : (N : Int) ≤ 1000000 ∧ (0 : Int) ≤ I ∧ (I : Int) < N), Bool.true_and, Int.toNat_natCast, Int.toNat_natCast]
  have HUP : Hid (p.length = plen N I → Calls Tryz.prog 39 #[.int .i64 N, .int .i64 I, .string leaf, .slice A p.length c] w fun e w' => e = .returned (.string (upv N I leaf p)) ∧ Below w.heap.size w w') := Lib.hid (fun h => rup_any N N I leaf A c p w (Nat.le_refl _) (by omega) (by omega) (by omega) h hcap hS hsm hleaf)
  rw [hval]
  clear hS hsm HNO hval
  generalize upv N I leaf p = u at *
  generalize allD p = dp at *
  generalize isD leaf = dl at *
  obtain ⟨z, hz⟩ : ∃ z, plen N I = z := ⟨_, rfl⟩
  rw [hz] at HLEN HUP ⊢
  clear hz
  generalize p.length = m at *
  by_cases hlen : m = z
  case neg =>
    have hne : ((m : Int) == (z : Int)) = false := by simp; omega
    have hne0 : (m == z) = false := by simp; omega
    have hbn : ((m : Int) != (z : Int)) = true := by rw [bne, hne]; rfl
    have hres : (dp && dl && (decide (u = root) && decide (m = z))) = false := by rw [decide_eq_false hlen]; simp
    have HRES := Lib.hid hres
    clear hres
    go_enter Tryz.func16, Tryz.ntmps16
    go_wp2_with fail
    refine HLEN.out.mono ?_
    rintro e _ ⟨rfl, rfl⟩
    go_wp2
    go_ret
    exact ⟨ret_bool (HRES.out).symm, Below.refl _ _⟩
  case pos =>
  subst hlen
  have HUP1 := Lib.hid (HUP.out rfl)
  clear HUP
  rw [decide_eq_true (rfl : m = m), Bool.and_true]
  cases dp
  case false =>
    rw [Bool.false_and, Bool.false_and]
    go_enter Tryz.func16, Tryz.ntmps16
    go_wp2_with fail
    refine HLEN.out.mono ?_
    rintro e _ ⟨rfl, rfl⟩
    go_wp2_with fail
    refine HDG.out.mono ?_
    rintro e _ ⟨rfl, rfl⟩
    go_wp2
    go_ret
    exact ⟨rfl, Below.refl _ _⟩
  case true =>
  cases dl
  case false =>
    rw [Bool.true_and, Bool.false_and]
    go_enter Tryz.func16, Tryz.ntmps16
    go_wp2_with fail
    refine HLEN.out.mono ?_
    rintro e _ ⟨rfl, rfl⟩
    go_wp2_with fail
    refine HDG.out.mono ?_
    rintro e _ ⟨rfl, rfl⟩
    go_wp2_with fail
    refine HIS.out.mono ?_
    rintro e _ ⟨rfl, rfl⟩
    go_wp2
    go_ret
    exact ⟨rfl, Below.refl _ _⟩
  case true =>
  rw [Bool.true_and, Bool.true_and]
  by_cases hu : u = root
  case pos =>
    subst hu
    have t1 := beq_true u
    rw [decide_eq_true rfl]
    go_enter Tryz.func16, Tryz.ntmps16
    go_wp2_with fail
    refine HLEN.out.mono ?_
    rintro e _ ⟨rfl, rfl⟩
    go_wp2_with fail
    refine HDG.out.mono ?_
    rintro e _ ⟨rfl, rfl⟩
    go_wp2_with fail
    refine HIS.out.mono ?_
    rintro e _ ⟨rfl, rfl⟩
    go_wp2_with fail
    refine HUP1.out.mono ?_
    rintro e w1 ⟨rfl, hb1⟩
    have HB1 := Lib.hid hb1
    clear hb1
    go_wp2
    go_ret
    exact ⟨rfl, HB1.out⟩
  case neg =>
  obtain ⟨t1, t2⟩ := bne_of u root hu
  rw [decide_eq_false hu]
  go_enter Tryz.func16, Tryz.ntmps16
  go_wp2_with fail
  refine HLEN.out.mono ?_
  rintro e _ ⟨rfl, rfl⟩
  go_wp2_with fail
  refine HDG.out.mono ?_
  rintro e _ ⟨rfl, rfl⟩
  go_wp2_with fail
  refine HIS.out.mono ?_
  rintro e _ ⟨rfl, rfl⟩
  go_wp2_with fail
  refine HUP1.out.mono ?_
  rintro e w1 ⟨rfl, hb1⟩
  have HB1 := Lib.hid hb1
  clear hb1
  go_wp2
  go_ret
  exact ⟨rfl, HB1.out⟩
set_option maxHeartbeats 16000000 in
theorem rext_any (old : ByteArray) (m : Int) (root : ByteArray) (n : Int) (A : Option Addr) (c : Nat) (p : List ByteArray) (w : World) (hS : Strs w A p) (hbig : p.length ≤ 1000000) (hcap : p.length ≤ c) (ho : old.size ≤ 200) (hr : root.size ≤ 200) (hsm : sm p) :
    Calls Tryz.prog 18 #[.string old, .int .i64 m, .string root, .int .i64 n, .slice A p.length c] w fun e w' => e = .returned (.bool (extB old m root n p)) ∧ Below w.heap.size w w' := by
  have hno : ¬ (0 ≤ m ∧ m ≤ n ∧ n ≤ 1000000) → extB old m root n p = false := fun h => by unfold extB; rw [decide_eq_false h]; simp
  have HNO := Lib.hid hno
  clear hno
  by_cases h1 : m < 0
  · have HRES := Lib.hid (HNO.out (by omega))
    have hd1 : decide (m < 0) = true := decide_eq_true h1
    clear hS hsm
    go_enter Tryz.func18, Tryz.ntmps18
    go_wp2
    go_ret
    exact ⟨ret_bool (HRES.out).symm, Below.refl _ _⟩
  have hd1 : decide (m < 0) = false := decide_eq_false h1
  by_cases h2 : n < m
  · have HRES := Lib.hid (HNO.out (by omega))
    have hd2 : decide (n < m) = true := decide_eq_true h2
    clear hS hsm
    go_enter Tryz.func18, Tryz.ntmps18
    go_wp2
    go_ret
    exact ⟨ret_bool (HRES.out).symm, Below.refl _ _⟩
  have hd2 : decide (n < m) = false := decide_eq_false h2
  by_cases h3 : 1000000 < n
  · have HRES := Lib.hid (HNO.out (by omega))
    have hd3 : decide (1000000 < n) = true := decide_eq_true h3
    clear hS hsm
    go_enter Tryz.func18, Tryz.ntmps18
    go_wp2
    go_ret
    exact ⟨ret_bool (HRES.out).symm, Below.refl _ _⟩
  obtain ⟨N, rfl⟩ : ∃ N : Nat, n = N := ⟨n.toNat, by omega⟩
  obtain ⟨M, rfl⟩ : ∃ M : Nat, m = M := ⟨m.toNat, by omega⟩
  have hd3 : decide (1000000 < N) = false := decide_eq_false (by omega)
  have hd4 : decide ((1000000 : Int) < (N : Int)) = false := decide_eq_false (by omega)
  have hd5 : decide (N < M) = false := decide_eq_false (by omega)
  have hMN : M ≤ N := by omega
  obtain ⟨wa, hwa⟩ : ∃ wa, w.alloc (.cells #[.string old, .string root] 9) = wa := ⟨_, rfl⟩
  have HBA : Hid (Below w.heap.size w wa) := Lib.hid (by rw [← hwa]; exact below_alloc (Below.refl _ _) _)
  have HSA : Strs wa (some ⟨w.heap.size, 0, none⟩) [old, root] := by rw [← hwa]; exact Strs_new _ _ _ _ _ rfl rfl
  have HD2 := Lib.hid (rdig_any (some ⟨w.heap.size, 0, none⟩) 2 [old, root] wa HSA (by simp) (by
    intro s hs
    simp only [List.mem_cons, List.not_mem_nil, or_false] at hs
    rcases hs with rfl | rfl <;> omega))
  have hS1 := hS.below HBA.out
  have HDG := Lib.hid (rdig_any A c p wa hS1 (by omega) (fun s hs => by have := hsm s hs; omega))
  have HEM := Lib.hid (rempty_any wa)
  have hval : extB old (M : Int) root (N : Int) p = (allD p && ((isD old && isD root) && (if (M : Int) = 0 then decide (p.length = 0) && (decide (old = em) && (decide ((0 : Int) < N) || decide (root = old))) else decide ((bothv N M true old p).1 = old) && (decide ((bothv N M true old p).2 = root) && decide (p.length = llen N M true))))) := by
    unfold extB
    rw [decide_eq_true (⟨by omega, by omega, by omega⟩ : (0 : Int) ≤ M ∧ (M : Int) ≤ N ∧ (N : Int) ≤ 1000000), Bool.true_and, Int.toNat_natCast, Int.toNat_natCast]
  rw [show allD [old, root] = (isD old && isD root) from by simp [allD]] at HD2
  obtain ⟨vo, hvo⟩ : ∃ v, (isD old && isD root) = v := ⟨_, rfl⟩
  obtain ⟨vp, hvp⟩ : ∃ v, allD p = v := ⟨_, rfl⟩
  have hDp := hvp
  rw [hvo, hvp] at hval
  rw [hvo] at HD2
  rw [hvp] at HDG
  rw [hval]
  have HWA := Lib.hid hwa
  clear HSA HNO hval hvo hwa
  cases vo
  case false =>
    rw [Bool.false_and, Bool.and_false]
    clear hS hS1 hsm hDp hvp
    go_enter Tryz.func18, Tryz.ntmps18
    go_wp2_with fail
    have hwa := HWA.out
    rw [hwa]
    refine HD2.out.mono ?_
    rintro e _ ⟨rfl, rfl⟩
    clear hwa
    go_wp2
    go_ret
    exact ⟨rfl, HBA.out⟩
  case true =>
  cases vp
  case false =>
    rw [Bool.false_and]
    clear hS hS1 hsm hDp hvp
    go_enter Tryz.func18, Tryz.ntmps18
    go_wp2_with fail
    have hwa := HWA.out
    rw [hwa]
    refine HD2.out.mono ?_
    rintro e _ ⟨rfl, rfl⟩
    clear hwa
    go_wp2_with fail
    refine HDG.out.mono ?_
    rintro e _ ⟨rfl, rfl⟩
    go_wp2
    go_ret
    exact ⟨rfl, HBA.out⟩
  case true =>
  rw [Bool.true_and, Bool.true_and]
  by_cases hM : M = 0
  case pos =>
    subst hM
    rw [if_pos (show ((0 : Nat) : Int) = 0 from rfl)]
    clear hS hS1 hsm hDp hvp
    generalize p.length = z at *
    by_cases hz : z = 0
    case neg =>
      have hz1 : ((z : Int) == 0) = false := by simp; omega
      have hz2 : (z == 0) = false := by simp; omega
      rw [decide_eq_false hz, Bool.false_and]
      go_enter Tryz.func18, Tryz.ntmps18
      go_wp2_with fail
      have hwa := HWA.out
      rw [hwa]
      refine HD2.out.mono ?_
      rintro e _ ⟨rfl, rfl⟩
      clear hwa
      go_wp2_with fail
      refine HDG.out.mono ?_
      rintro e _ ⟨rfl, rfl⟩
      go_wp2
      go_ret
      exact ⟨rfl, HBA.out⟩
    case pos =>
    subst hz
    rw [decide_eq_true rfl, Bool.true_and]
    generalize em = ee at *
    by_cases hoe : old = ee
    case neg =>
      obtain ⟨t1, t2⟩ := bne_of old ee hoe
      rw [decide_eq_false hoe, Bool.false_and]
      go_enter Tryz.func18, Tryz.ntmps18
      go_wp2_with fail
      have hwa := HWA.out
      rw [hwa]
      refine HD2.out.mono ?_
      rintro e _ ⟨rfl, rfl⟩
      clear hwa
      go_wp2_with fail
      refine HDG.out.mono ?_
      rintro e _ ⟨rfl, rfl⟩
      go_wp2_with fail
      refine HEM.out.mono ?_
      rintro e w2 ⟨rfl, hb2⟩
      have HB2 := Lib.hid (below_trans HBA.out hb2)
      clear hb2
      go_wp2
      go_ret
      exact ⟨rfl, HB2.out⟩
    case pos =>
    subst hoe
    have t1 := beq_true old
    rw [decide_eq_true rfl, Bool.true_and]
    by_cases hN : 0 < N
    case pos =>
      have hN1 : (0 : Int) < (N : Int) := by omega
      have hN2 : decide (0 < N) = true := decide_eq_true hN
      rw [decide_eq_true hN1, Bool.true_or]
      go_enter Tryz.func18, Tryz.ntmps18
      go_wp2_with fail
      have hwa := HWA.out
      rw [hwa]
      refine HD2.out.mono ?_
      rintro e _ ⟨rfl, rfl⟩
      clear hwa
      go_wp2_with fail
      refine HDG.out.mono ?_
      rintro e _ ⟨rfl, rfl⟩
      go_wp2_with fail
      refine HEM.out.mono ?_
      rintro e w2 ⟨rfl, hb2⟩
      have HB2 := Lib.hid (below_trans HBA.out hb2)
      clear hb2
      go_wp2
      go_ret
      exact ⟨rfl, HB2.out⟩
    case neg =>
    obtain rfl : N = 0 := by omega
    rw [decide_eq_false (by decide), Bool.false_or]
    by_cases hro : root = old
    case pos =>
      subst hro
      rw [decide_eq_true rfl]
      go_enter Tryz.func18, Tryz.ntmps18
      go_wp2_with fail
      have hwa := HWA.out
      rw [hwa]
      refine HD2.out.mono ?_
      rintro e _ ⟨rfl, rfl⟩
      clear hwa
      go_wp2_with fail
      refine HDG.out.mono ?_
      rintro e _ ⟨rfl, rfl⟩
      go_wp2_with fail
      refine HEM.out.mono ?_
      rintro e w2 ⟨rfl, hb2⟩
      have HB2 := Lib.hid (below_trans HBA.out hb2)
      clear hb2
      go_wp2
      go_ret
      exact ⟨rfl, HB2.out⟩
    case neg =>
    obtain ⟨t3, t4⟩ := bne_of root old hro
    rw [decide_eq_false hro]
    go_enter Tryz.func18, Tryz.ntmps18
    go_wp2_with fail
    have hwa := HWA.out
    rw [hwa]
    refine HD2.out.mono ?_
    rintro e _ ⟨rfl, rfl⟩
    clear hwa
    go_wp2_with fail
    refine HDG.out.mono ?_
    rintro e _ ⟨rfl, rfl⟩
    go_wp2_with fail
    refine HEM.out.mono ?_
    rintro e w2 ⟨rfl, hb2⟩
    have HB2 := Lib.hid (below_trans HBA.out hb2)
    clear hb2
    go_wp2
    go_ret
    exact ⟨rfl, HB2.out⟩
  case neg =>
  rw [if_neg (by omega)]
  have hM1 : ((M : Int) == 0) = false := by simp; omega
  have hM2 : (M == 0) = false := by simp; omega
  by_cases hMN2 : M = N
  case pos =>
    subst hMN2
    rw [bothv_end M M true old p (by omega), llen_end M M true (by omega), if_pos rfl, if_pos rfl]
    clear hS hS1 hsm hDp hvp
    show Calls _ _ _ _ (fun e w' => e = .returned (.bool (decide (old = old) && (decide (old = root) && decide (p.length = 0)))) ∧ Below w.heap.size w w')
    rw [decide_eq_true (rfl : old = old), Bool.true_and]
    generalize p.length = z at *
    by_cases hz : z = 0
    case neg =>
      have hz1 : ((z : Int) == 0) = false := by simp; omega
      have hz2 : (z == 0) = false := by simp; omega
      rw [decide_eq_false hz, Bool.and_false]
      go_enter Tryz.func18, Tryz.ntmps18
      go_wp2_with fail
      have hwa := HWA.out
      rw [hwa]
      refine HD2.out.mono ?_
      rintro e _ ⟨rfl, rfl⟩
      clear hwa
      go_wp2_with fail
      refine HDG.out.mono ?_
      rintro e _ ⟨rfl, rfl⟩
      go_wp2
      go_ret
      exact ⟨rfl, HBA.out⟩
    case pos =>
    subst hz
    rw [decide_eq_true rfl, Bool.and_true]
    by_cases hro : old = root
    case pos =>
      subst hro
      have t1 := beq_true old
      rw [decide_eq_true rfl]
      go_enter Tryz.func18, Tryz.ntmps18
      go_wp2_with fail
      have hwa := HWA.out
      rw [hwa]
      refine HD2.out.mono ?_
      rintro e _ ⟨rfl, rfl⟩
      clear hwa
      go_wp2_with fail
      refine HDG.out.mono ?_
      rintro e _ ⟨rfl, rfl⟩
      go_wp2
      go_ret
      exact ⟨rfl, HBA.out⟩
    case neg =>
    obtain ⟨t1, t2⟩ := bne_of old root hro
    rw [decide_eq_false hro]
    go_enter Tryz.func18, Tryz.ntmps18
    go_wp2_with fail
    have hwa := HWA.out
    rw [hwa]
    refine HD2.out.mono ?_
    rintro e _ ⟨rfl, rfl⟩
    clear hwa
    go_wp2_with fail
    refine HDG.out.mono ?_
    rintro e _ ⟨rfl, rfl⟩
    go_wp2
    go_ret
    exact ⟨rfl, HBA.out⟩
  case neg =>
  have hne : ((M : Int) == (N : Int)) = false := by simp; omega
  have hne0 : (M == N) = false := by simp; omega
  have HLO := Lib.hid (rlong_any N N M true wa (Nat.le_refl _) (by omega) (by omega) (by omega))
  have HBO : Hid (p.length = llen N M true → Calls Tryz.prog 43 #[.int .i64 N, .int .i64 M, .bool true, .string old, .slice A p.length c] wa fun e w' => e = .returned (.tuple #[.string (bothv N M true old p).1, .string (bothv N M true old p).2]) ∧ Below wa.heap.size wa w') := Lib.hid (fun h => rboth_any N N M true old A c p wa (Nat.le_refl _) (by omega) (by omega) (by omega) h hcap hS1 hvp ho)
  clear hS hS1 hsm hDp hvp
  generalize (bothv N M true old p).1 = x1 at *
  generalize (bothv N M true old p).2 = x2 at *
  obtain ⟨y, hy⟩ : ∃ y, llen N M true = y := ⟨_, rfl⟩
  rw [hy] at HLO HBO ⊢
  clear hy
  generalize p.length = z at *
  by_cases hz : z = y
  case neg =>
    have hz1 : ((z : Int) == (y : Int)) = false := by simp; omega
    have hz2 : (z == y) = false := by simp; omega
    have hz3 : ((z : Int) != (y : Int)) = true := by rw [bne, hz1]; rfl
    rw [decide_eq_false hz, Bool.and_false, Bool.and_false]
    go_enter Tryz.func18, Tryz.ntmps18
    go_wp2_with fail
    have hwa := HWA.out
    rw [hwa]
    refine HD2.out.mono ?_
    rintro e _ ⟨rfl, rfl⟩
    clear hwa
    go_wp2_with fail
    refine HDG.out.mono ?_
    rintro e _ ⟨rfl, rfl⟩
    go_wp2_with fail
    refine HLO.out.mono ?_
    rintro e _ ⟨rfl, rfl⟩
    go_wp2
    go_ret
    exact ⟨rfl, HBA.out⟩
  case pos =>
  subst hz
  have HBO1 := Lib.hid (HBO.out rfl)
  clear HBO
  rw [decide_eq_true (rfl : z = z), Bool.and_true]
  by_cases h5 : x1 = old
  case neg =>
    obtain ⟨t1, t2⟩ := bne_of x1 old h5
    rw [decide_eq_false h5, Bool.false_and]
    go_enter Tryz.func18, Tryz.ntmps18
    go_wp2_with fail
    have hwa := HWA.out
    rw [hwa]
    refine HD2.out.mono ?_
    rintro e _ ⟨rfl, rfl⟩
    clear hwa
    go_wp2_with fail
    refine HDG.out.mono ?_
    rintro e _ ⟨rfl, rfl⟩
    go_wp2_with fail
    refine HLO.out.mono ?_
    rintro e _ ⟨rfl, rfl⟩
    go_wp2_with fail
    refine HBO1.out.mono ?_
    rintro e w2 ⟨rfl, hb2⟩
    have HB2 := Lib.hid (below_trans HBA.out hb2)
    clear hb2
    go_wp2
    go_ret
    exact ⟨rfl, HB2.out⟩
  case pos =>
  subst h5
  have t1 := beq_true x1
  rw [decide_eq_true rfl, Bool.true_and]
  by_cases h6 : x2 = root
  case neg =>
    obtain ⟨t3, t4⟩ := bne_of x2 root h6
    rw [decide_eq_false h6]
    go_enter Tryz.func18, Tryz.ntmps18
    go_wp2_with fail
    have hwa := HWA.out
    rw [hwa]
    refine HD2.out.mono ?_
    rintro e _ ⟨rfl, rfl⟩
    clear hwa
    go_wp2_with fail
    refine HDG.out.mono ?_
    rintro e _ ⟨rfl, rfl⟩
    go_wp2_with fail
    refine HLO.out.mono ?_
    rintro e _ ⟨rfl, rfl⟩
    go_wp2_with fail
    refine HBO1.out.mono ?_
    rintro e w2 ⟨rfl, hb2⟩
    have HB2 := Lib.hid (below_trans HBA.out hb2)
    clear hb2
    go_wp2
    go_ret
    exact ⟨rfl, HB2.out⟩
  case pos =>
  subst h6
  have t3 := beq_true x2
  rw [decide_eq_true rfl]
  go_enter Tryz.func18, Tryz.ntmps18
  go_wp2_with fail
  have hwa := HWA.out
  rw [hwa]
  refine HD2.out.mono ?_
  rintro e _ ⟨rfl, rfl⟩
  clear hwa
  go_wp2_with fail
  refine HDG.out.mono ?_
  rintro e _ ⟨rfl, rfl⟩
  go_wp2_with fail
  refine HLO.out.mono ?_
  rintro e _ ⟨rfl, rfl⟩
  go_wp2_with fail
  refine HBO1.out.mono ?_
  rintro e w2 ⟨rfl, hb2⟩
  have HB2 := Lib.hid (below_trans HBA.out hb2)
  clear hb2
  go_wp2
  go_ret
  exact ⟨rfl, HB2.out⟩
end Go.Proofs.YtfmlhlliephlhaaGreatDoor
