/- The law TreeMatchesReference: the walk. -/
import Derived.Test.YtfmlhlliephlhaaGreatDoorTreeN02
namespace Go.Proofs.YtfmlhlliephlhaaGreatDoor
open Go.RowKit

theorem lfew_eqM {l : List ByteArray} (h : lfew l = true) : l.length ≤ 20 ∧ sm l := by
  simp only [lfew, fewB, Bool.and_eq_true, decide_eq_true_eq, List.all_eq_true] at h
  exact ⟨h.1, fun s hs => by have := h.2.1 s hs; omega⟩

set_option maxRecDepth 100000 in
set_option maxHeartbeats 64000000 in
theorem mref_walk (A : Option Addr) (c : Nat) (l : List ByteArray) (i m n : Int) (root old s : ByteArray) (B : Option Addr) (d : Nat) (p : List ByteArray) (w : World) (hT : Tabs w) (hSl : Strs w A l) (hSp : Strs w B p) (hl : l.length ≤ 9223372036854775807) (hp : p.length ≤ 9223372036854775807) (hc : l.length ≤ c) (hd : p.length ≤ d) (hzr : root.size ≤ maxLen) (hzo : old.size ≤ maxLen) (hzs : s.size ≤ maxLen) :
    Calls Tryz.prog 3 #[.slice A l.length c, .int .i64 i, .int .i64 m, .int .i64 n, .string root, .string old, .string s, .slice B p.length d] w fun e w' => e = .returned (.bool true) ∧ Below w.heap.size w w' := by
  unfold maxLen at hzr hzo hzs
  have HH := Lib.hid (head_any w hT)
  have HT : Hid (∀ W, Below w.heap.size w W → Tabs W) := Lib.hid (fun W hW => hT.below hW)
  have HS : Hid (∀ W, Below w.heap.size w W → Strs W A l) := Lib.hid (fun W hW => hSl.below hW)
  have HSP : Hid (∀ W, Below w.heap.size w W → Strs W B p) := Lib.hid (fun W hW => hSp.below hW)
  have HFL := Lib.hid (fun W (hW : Below w.heap.size w W) => lfew_any A c l W (hSl.below hW) hl)
  have HFP := Lib.hid (fun W (hW : Below w.heap.size w W) => lfew_any B d p W (hSp.below hW) hp)
  clear hT hSl hSp
  obtain ⟨vl, hvl⟩ : ∃ v, lfew l = v := ⟨_, rfl⟩
  obtain ⟨vp, hvp⟩ : ∃ v, lfew p = v := ⟨_, rfl⟩
  have HVL := Lib.hid hvl
  have HVP := Lib.hid hvp
  rw [hvl] at HFL
  rw [hvp] at HFP
  clear hvl hvp
  cases vl with
  | false =>
    go_enter Tryz.func3, Tryz.ntmps3
    go_wp2_with fail
    refine HH.out.mono ?_
    rintro e w1 ⟨rfl, hb1⟩
    have HBw1 := Lib.hid hb1
    clear hb1
    go_wp2_with fail
    refine (HFL.out w1 HBw1.out).mono ?_
    rintro e _ ⟨rfl, rfl⟩
    go_wp2
    go_ret
    exact ⟨rfl, HBw1.out⟩
  | true =>
  cases vp with
  | false =>
    go_enter Tryz.func3, Tryz.ntmps3
    go_wp2_with fail
    refine HH.out.mono ?_
    rintro e w1 ⟨rfl, hb1⟩
    have HBw1 := Lib.hid hb1
    clear hb1
    go_wp2_with fail
    refine (HFL.out w1 HBw1.out).mono ?_
    rintro e _ ⟨rfl, rfl⟩
    go_wp2_with fail
    refine (HFP.out w1 HBw1.out).mono ?_
    rintro e _ ⟨rfl, rfl⟩
    go_wp2
    go_ret
    exact ⟨rfl, HBw1.out⟩
  | true =>
  by_cases hz_root : 100 < root.size
  case pos =>
    have hd1_root : decide (100 < root.size) = true := decide_eq_true hz_root
    have hi1_root : (100 : Int) < (root.size : Int) := by omega
    have hd2_root : decide ((100 : Int) < (root.size : Int)) = true := decide_eq_true hi1_root
    have hi3_root : ((root.size : Int) ≤ 100) = False := eq_false (by omega)
    go_enter Tryz.func3, Tryz.ntmps3
    go_wp2_with fail
    refine HH.out.mono ?_
    rintro e w1 ⟨rfl, hb1⟩
    have HBw1 := Lib.hid hb1
    clear hb1
    go_wp2_with fail
    refine (HFL.out w1 HBw1.out).mono ?_
    rintro e _ ⟨rfl, rfl⟩
    go_wp2_with fail
    refine (HFP.out w1 HBw1.out).mono ?_
    rintro e _ ⟨rfl, rfl⟩
    go_wp2
    go_ret
    exact ⟨rfl, HBw1.out⟩
  case neg =>
  have hd1_root : decide (100 < root.size) = false := decide_eq_false hz_root
  have hi1_root : ¬ (100 : Int) < (root.size : Int) := by omega
  have hd2_root : decide ((100 : Int) < (root.size : Int)) = false := decide_eq_false hi1_root
  have hi3_root : ((root.size : Int) ≤ 100) = True := eq_true (by omega)
  by_cases hz_old : 100 < old.size
  case pos =>
    have hd1_old : decide (100 < old.size) = true := decide_eq_true hz_old
    have hi1_old : (100 : Int) < (old.size : Int) := by omega
    have hd2_old : decide ((100 : Int) < (old.size : Int)) = true := decide_eq_true hi1_old
    have hi3_old : ((old.size : Int) ≤ 100) = False := eq_false (by omega)
    go_enter Tryz.func3, Tryz.ntmps3
    go_wp2_with fail
    refine HH.out.mono ?_
    rintro e w1 ⟨rfl, hb1⟩
    have HBw1 := Lib.hid hb1
    clear hb1
    go_wp2_with fail
    refine (HFL.out w1 HBw1.out).mono ?_
    rintro e _ ⟨rfl, rfl⟩
    go_wp2_with fail
    refine (HFP.out w1 HBw1.out).mono ?_
    rintro e _ ⟨rfl, rfl⟩
    go_wp2
    go_ret
    exact ⟨rfl, HBw1.out⟩
  case neg =>
  have hd1_old : decide (100 < old.size) = false := decide_eq_false hz_old
  have hi1_old : ¬ (100 : Int) < (old.size : Int) := by omega
  have hd2_old : decide ((100 : Int) < (old.size : Int)) = false := decide_eq_false hi1_old
  have hi3_old : ((old.size : Int) ≤ 100) = True := eq_true (by omega)
  by_cases hz_s : 100 < s.size
  case pos =>
    have hd1_s : decide (100 < s.size) = true := decide_eq_true hz_s
    have hi1_s : (100 : Int) < (s.size : Int) := by omega
    have hd2_s : decide ((100 : Int) < (s.size : Int)) = true := decide_eq_true hi1_s
    have hi3_s : ((s.size : Int) ≤ 100) = False := eq_false (by omega)
    go_enter Tryz.func3, Tryz.ntmps3
    go_wp2_with fail
    refine HH.out.mono ?_
    rintro e w1 ⟨rfl, hb1⟩
    have HBw1 := Lib.hid hb1
    clear hb1
    go_wp2_with fail
    refine (HFL.out w1 HBw1.out).mono ?_
    rintro e _ ⟨rfl, rfl⟩
    go_wp2_with fail
    refine (HFP.out w1 HBw1.out).mono ?_
    rintro e _ ⟨rfl, rfl⟩
    go_wp2
    go_ret
    exact ⟨rfl, HBw1.out⟩
  case neg =>
  have hd1_s : decide (100 < s.size) = false := decide_eq_false hz_s
  have hi1_s : ¬ (100 : Int) < (s.size : Int) := by omega
  have hd2_s : decide ((100 : Int) < (s.size : Int)) = false := decide_eq_false hi1_s
  have hi3_s : ((s.size : Int) ≤ 100) = True := eq_true (by omega)
  obtain ⟨hl20, hsml⟩ := lfew_eqM HVL.out
  obtain ⟨hp20, hsmp⟩ := lfew_eqM HVP.out
  have HRT : Hid (∀ W, Below w.heap.size w W → Calls Tryz.prog 6 #[.slice A l.length c] W fun e w' => e = .returned (.tuple #[.string (if allD l then rt l else ByteArray.empty), .int .i64 (if allD l then 0 else 1)]) ∧ Below W.heap.size W w') := Lib.hid (fun W hW => root_any A c l W (by omega) hc (HS.out W hW) hsml (HT.out W hW))
  have HRR : Hid (∀ W, Below w.heap.size w W → Calls Tryz.prog 7 #[.slice A l.length c] W fun e w' => e = .returned (.tuple #[.string (if allD l then rt l else ByteArray.empty), .int .i64 (if allD l then 0 else 1)]) ∧ Below W.heap.size W w') := Lib.hid (fun W hW => rRoot_any A c l W (by omega) hc (HS.out W hW) hsml)
  have hxr : (if allD l then rt l else ByteArray.empty).size ≤ 200 := by
    split
    · exact rt_size _ hsml
    · decide
  generalize (if allD l then rt l else ByteArray.empty) = xr at *
  generalize (if allD l then (0 : Int) else 1) = er at *
  have HPT : Hid (∀ W, Below w.heap.size w W → Calls Tryz.prog 8 #[.slice A l.length c, .int .i64 i] W fun e w' => ∃ A' c', e = .returned (.tuple #[.slice A' (pathL l i).length c', .int .i64 (pathE l i)]) ∧ Strs w' A' (pathL l i) ∧ Below W.heap.size W w') := Lib.hid (fun W hW => tPath_all A c l i W (by omega) hc (HS.out W hW) hsml (HT.out W hW))
  have HPR : Hid (∀ W, Below w.heap.size w W → Calls Tryz.prog 9 #[.slice A l.length c, .int .i64 i] W fun e w' => ∃ A' c', e = .returned (.tuple #[.slice A' (pathL l i).length c', .int .i64 (pathE l i)]) ∧ Strs w' A' (pathL l i) ∧ Below W.heap.size W w') := Lib.hid (fun W hW => rPath_all A c l i W (by omega) hc (HS.out W hW) hsml)
  have HLT : Hid (∀ W, Below w.heap.size w W → Calls Tryz.prog 10 #[.slice A l.length c, .int .i64 m] W fun e w' => ∃ A' c', e = .returned (.tuple #[.slice A' (linkL l m).length c', .int .i64 (linkE l m)]) ∧ Strs w' A' (linkL l m) ∧ Below W.heap.size W w') := Lib.hid (fun W hW => tLink_all A c l m W (by omega) hc (HS.out W hW) hsml (HT.out W hW))
  have HLR : Hid (∀ W, Below w.heap.size w W → Calls Tryz.prog 11 #[.slice A l.length c, .int .i64 m] W fun e w' => ∃ A' c', e = .returned (.tuple #[.slice A' (linkL l m).length c', .int .i64 (linkE l m)]) ∧ Strs w' A' (linkL l m) ∧ Below W.heap.size W w') := Lib.hid (fun W hW => rLink_all A c l m W (by omega) hc (HS.out W hW) hsml)
  have hple : (pathL l i).length ≤ 100000 := by
    unfold pathL
    split
    · next h => rw [pt_len]; have := plen_lt_n l.length i.toNat (by omega); omega
    · simp
  have hlle : (linkL l m).length ≤ 100000 := by
    unfold linkL
    split
    · next h => rw [lk_len _ _ _ (by omega)]; have := llen_le_n l.length m.toNat true (by omega); omega
    · simp
  have HSM : Hid (∀ (W : World) (A' B' : Option Addr) (c' d' : Nat) (q : List ByteArray), q.length ≤ 100000 → Strs W A' q → Strs W B' q → Calls Tryz.prog 14 #[.slice A' q.length c', .slice B' q.length d'] W fun e w' => e = .returned (.bool true) ∧ Below W.heap.size W w') := Lib.hid (fun W A' B' c' d' q hq h1 h2 => by
    have := rsame A' B' c' d' q q W h1 h2 (by omega) (by omega)
    rw [decide_eq_true rfl] at this
    exact this)
  have HSMP := Lib.hid (fun W A' B' c' d' => HSM.out W A' B' c' d' (pathL l i) hple)
  have HSML := Lib.hid (fun W A' B' c' d' => HSM.out W A' B' c' d' (linkL l m) hlle)
  clear HSM
  generalize pathL l i = PL at *
  generalize pathE l i = PE at *
  generalize linkL l m = LL at *
  generalize linkE l m = LE at *
  have HLF : Hid (∀ W, Below w.heap.size w W → Calls Tryz.prog 12 #[.string s] W fun e w' => e = .returned (.string (lf s)) ∧ Below W.heap.size W w') := Lib.hid (fun W hW => leaf_any s (by omega) W (HT.out W hW))
  have HLG : Hid (∀ W, Below w.heap.size w W → Calls Tryz.prog 13 #[.string s] W fun e w' => e = .returned (.string (lf s)) ∧ Below W.heap.size W w') := Lib.hid (fun W hW => rleaf_any s (by omega) W)
  generalize lf s = fs at *
  have HC1 : Hid (∀ W, Below w.heap.size w W → Calls Tryz.prog 15 #[.string root, .int .i64 n, .int .i64 i, .string s, .slice B p.length d] W fun e w' => e = .returned (.bool (chkB root n i s p)) ∧ Below W.heap.size W w') := Lib.hid (fun W hW => tcheck_any root n i s B d p W (HT.out W hW) (HSP.out W hW) (by omega) (by omega) (fun t ht => by have := hsmp t ht; omega))
  have HC2 : Hid (∀ W, Below w.heap.size w W → Calls Tryz.prog 16 #[.string root, .int .i64 n, .int .i64 i, .string s, .slice B p.length d] W fun e w' => e = .returned (.bool (chkB root n i s p)) ∧ Below W.heap.size W w') := Lib.hid (fun W hW => rcheck_any root n i s B d p W (HSP.out W hW) (by omega) hd (by omega) hsmp)
  have HC3 : Hid (∀ W, Below w.heap.size w W → Calls Tryz.prog 15 #[.string xr, .int .i64 (l.length : Int), .int .i64 i, .string s, .slice B p.length d] W fun e w' => e = .returned (.bool (chkB xr (l.length : Int) i s p)) ∧ Below W.heap.size W w') := Lib.hid (fun W hW => tcheck_any xr (l.length : Int) i s B d p W (HT.out W hW) (HSP.out W hW) (by omega) (by omega) (fun t ht => by have := hsmp t ht; omega))
  have HC4 : Hid (∀ W, Below w.heap.size w W → Calls Tryz.prog 16 #[.string xr, .int .i64 (l.length : Int), .int .i64 i, .string s, .slice B p.length d] W fun e w' => e = .returned (.bool (chkB xr (l.length : Int) i s p)) ∧ Below W.heap.size W w') := Lib.hid (fun W hW => rcheck_any xr (l.length : Int) i s B d p W (HSP.out W hW) (by omega) hd (by omega) hsmp)
  have HE1 : Hid (∀ W, Below w.heap.size w W → Calls Tryz.prog 17 #[.string old, .int .i64 m, .string root, .int .i64 n, .slice B p.length d] W fun e w' => e = .returned (.bool (extB old m root n p)) ∧ Below W.heap.size W w') := Lib.hid (fun W hW => ext_any old m root n B d p W (HT.out W hW) (HSP.out W hW) (by omega) (by omega) (by omega) (fun t ht => by have := hsmp t ht; omega))
  have HE2 : Hid (∀ W, Below w.heap.size w W → Calls Tryz.prog 18 #[.string old, .int .i64 m, .string root, .int .i64 n, .slice B p.length d] W fun e w' => e = .returned (.bool (extB old m root n p)) ∧ Below W.heap.size W w') := Lib.hid (fun W hW => rext_any old m root n B d p W (HSP.out W hW) (by omega) hd (by omega) (by omega) hsmp)
  have HE3 : Hid (∀ W, Below w.heap.size w W → Calls Tryz.prog 17 #[.string old, .int .i64 m, .string xr, .int .i64 (l.length : Int), .slice B p.length d] W fun e w' => e = .returned (.bool (extB old m xr (l.length : Int) p)) ∧ Below W.heap.size W w') := Lib.hid (fun W hW => ext_any old m xr (l.length : Int) B d p W (HT.out W hW) (HSP.out W hW) (by omega) (by omega) (by omega) (fun t ht => by have := hsmp t ht; omega))
  have HE4 : Hid (∀ W, Below w.heap.size w W → Calls Tryz.prog 18 #[.string old, .int .i64 m, .string xr, .int .i64 (l.length : Int), .slice B p.length d] W fun e w' => e = .returned (.bool (extB old m xr (l.length : Int) p)) ∧ Below W.heap.size W w') := Lib.hid (fun W hW => rext_any old m xr (l.length : Int) B d p W (HSP.out W hW) (by omega) hd (by omega) hxr hsmp)
  generalize chkB root n i s p = b1 at *
  generalize chkB xr (l.length : Int) i s p = b2 at *
  generalize extB old m root n p = b3 at *
  generalize extB old m xr (l.length : Int) p = b4 at *
  have t1 := beq_true xr
  have t2 := beq_true fs
  clear hl20 hsml hp20 hsmp hl hp hc hd hxr hple hlle
  go_enter Tryz.func3, Tryz.ntmps3
  go_wp2_with fail
  refine HH.out.mono ?_
  rintro e w1 ⟨rfl, hb1⟩
  have HBw1 := Lib.hid hb1
  clear hb1
  go_wp2_with fail
  refine (HFL.out w1 HBw1.out).mono ?_
  rintro e _ ⟨rfl, rfl⟩
  go_wp2_with fail
  refine (HFP.out w1 HBw1.out).mono ?_
  rintro e _ ⟨rfl, rfl⟩
  go_wp2_with fail
  refine (HRT.out w1 HBw1.out).mono ?_
  rintro e w2 ⟨rfl, hb⟩
  have HBw2 := Lib.hid (below_trans HBw1.out hb)
  clear hb
  go_wp2_with fail
  refine (HRR.out w2 HBw2.out).mono ?_
  rintro e w3 ⟨rfl, hb⟩
  have HBw3 := Lib.hid (below_trans HBw2.out hb)
  clear hb
  go_wp2_with fail
  refine (HPT.out w3 HBw3.out).mono ?_
  rintro e w4 ⟨A1, c1, rfl, hs1, hb⟩
  have HBw4 := Lib.hid (below_trans HBw3.out hb)
  have P1 := Lib.hid hs1
  clear hb hs1
  go_wp2_with fail
  refine (HPR.out w4 HBw4.out).mono ?_
  rintro e w5 ⟨A2, c2, rfl, hs2, hb⟩
  have HBw5 := Lib.hid (below_trans HBw4.out hb)
  have P1' := Lib.hid (P1.out.below hb)
  have P2 := Lib.hid hs2
  clear hb hs2 P1
  go_wp2_with fail
  refine (HLT.out w5 HBw5.out).mono ?_
  rintro e w6 ⟨A3, c3, rfl, hs3, hb⟩
  have HBw6 := Lib.hid (below_trans HBw5.out hb)
  have P1a := Lib.hid (P1'.out.below hb)
  have P2a := Lib.hid (P2.out.below hb)
  have P3a := Lib.hid hs3
  clear hb hs3 P1' P2
  go_wp2_with fail
  refine (HLR.out w6 HBw6.out).mono ?_
  rintro e w7 ⟨A4, c4, rfl, hs4, hb⟩
  have HBw7 := Lib.hid (below_trans HBw6.out hb)
  have HX7 : Hid (Strs w7 A1 PL ∧ Strs w7 A2 PL ∧ Strs w7 A3 LL ∧ Strs w7 A4 LL) := Lib.hid ⟨P1a.out.below hb, P2a.out.below hb, P3a.out.below hb, hs4⟩
  clear hb hs4 P1a P2a P3a
  go_wp2_with fail
  refine (HLF.out w7 HBw7.out).mono ?_
  rintro e w8 ⟨rfl, hb⟩
  have HBw8 := Lib.hid (below_trans HBw7.out hb)
  have HX8 : Hid (Strs w8 A1 PL ∧ Strs w8 A2 PL ∧ Strs w8 A3 LL ∧ Strs w8 A4 LL) := Lib.hid ⟨HX7.out.1.below hb, HX7.out.2.1.below hb, HX7.out.2.2.1.below hb, HX7.out.2.2.2.below hb⟩
  clear hb
  go_wp2_with fail
  refine (HLG.out w8 HBw8.out).mono ?_
  rintro e w9 ⟨rfl, hb⟩
  have HBw9 := Lib.hid (below_trans HBw8.out hb)
  have HX9 : Hid (Strs w9 A1 PL ∧ Strs w9 A2 PL ∧ Strs w9 A3 LL ∧ Strs w9 A4 LL) := Lib.hid ⟨HX8.out.1.below hb, HX8.out.2.1.below hb, HX8.out.2.2.1.below hb, HX8.out.2.2.2.below hb⟩
  clear hb
  go_wp2_with fail
  refine (HSMP.out w9 A1 A2 c1 c2 HX9.out.1 HX9.out.2.1).mono ?_
  rintro e w10 ⟨rfl, hb⟩
  have HBw10 := Lib.hid (below_trans HBw9.out hb)
  have HX10 : Hid (Strs w10 A1 PL ∧ Strs w10 A2 PL ∧ Strs w10 A3 LL ∧ Strs w10 A4 LL) := Lib.hid ⟨HX9.out.1.below hb, HX9.out.2.1.below hb, HX9.out.2.2.1.below hb, HX9.out.2.2.2.below hb⟩
  clear hb
  go_wp2_with fail
  refine (HSML.out w10 A3 A4 c3 c4 HX10.out.2.2.1 HX10.out.2.2.2).mono ?_
  rintro e w11 ⟨rfl, hb⟩
  have HBw11 := Lib.hid (below_trans HBw10.out hb)
  clear hb
  go_wp2_with fail
  refine (HC1.out w11 HBw11.out).mono ?_
  rintro e w12 ⟨rfl, hb⟩
  have HBw12 := Lib.hid (below_trans HBw11.out hb)
  clear hb
  go_wp2_with fail
  refine (HC2.out w12 HBw12.out).mono ?_
  rintro e w13 ⟨rfl, hb⟩
  have HBw13 := Lib.hid (below_trans HBw12.out hb)
  clear hb
  go_wp2_with fail
  refine (HC3.out w13 HBw13.out).mono ?_
  rintro e w14 ⟨rfl, hb⟩
  have HBw14 := Lib.hid (below_trans HBw13.out hb)
  clear hb
  go_wp2_with fail
  refine (HC4.out w14 HBw14.out).mono ?_
  rintro e w15 ⟨rfl, hb⟩
  have HBw15 := Lib.hid (below_trans HBw14.out hb)
  clear hb
  go_wp2_with fail
  refine (HE1.out w15 HBw15.out).mono ?_
  rintro e w16 ⟨rfl, hb⟩
  have HBw16 := Lib.hid (below_trans HBw15.out hb)
  clear hb
  go_wp2_with fail
  refine (HE2.out w16 HBw16.out).mono ?_
  rintro e w17 ⟨rfl, hb⟩
  have HBw17 := Lib.hid (below_trans HBw16.out hb)
  clear hb
  go_wp2_with fail
  refine (HE3.out w17 HBw17.out).mono ?_
  rintro e w18 ⟨rfl, hb⟩
  have HBw18 := Lib.hid (below_trans HBw17.out hb)
  clear hb
  go_wp2_with fail
  refine (HE4.out w18 HBw18.out).mono ?_
  rintro e w19 ⟨rfl, hb⟩
  have HBw19 := Lib.hid (below_trans HBw18.out hb)
  clear hb
  go_wp2
  go_ret
  exact ⟨rfl, HBw19.out⟩
end Go.Proofs.YtfmlhlliephlhaaGreatDoor
