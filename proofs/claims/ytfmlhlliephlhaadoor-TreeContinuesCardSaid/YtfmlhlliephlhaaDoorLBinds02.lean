/- The law TreeBinds: the walk. -/
import Derived.Test.YtfmlhlliephlhaaDoorLRoots02
import Derived.Test.YtfmlhlliephlhaaDoorLGrows02
namespace Go.Proofs.YtfmlhlliephlhaaDoor
open Go.RowKit

theorem ptx_small (n i : Nat) (s : ByteArray) (p : List ByteArray) (hp : allD p = true) (hs : s.size ≤ 200) : ∀ t ∈ ptx n i s p, t.size ≤ 1000000000 := by
  induction n using Nat.strongRecOn generalizing i p with
  | _ n ih =>
    by_cases h2 : 2 ≤ n
    · have k1 := hf_lt n h2
      have k2 := hf_pos n
      have hd : allD p.dropLast = true := by rw [List.dropLast_eq_take]; exact allD_take hp _
      intro t ht
      by_cases hi : i < hf n
      · rw [ptx_lt n i s p h2 hi] at ht
        rcases List.mem_append.1 ht with h3 | h3
        · exact ih (hf n) k1 i p.dropLast hd t h3
        · rw [List.mem_singleton.1 h3]; exact jb_small _ _ (upv_size _ _ _ _ hs) (getLastD_size p hp)
      · rw [ptx_ge n i s p h2 hi] at ht
        rcases List.mem_append.1 ht with h3 | h3
        · exact ih (n - hf n) (by omega) (i - hf n) p.dropLast hd t h3
        · rw [List.mem_singleton.1 h3]; exact jb_small _ _ (getLastD_size p hp) (upv_size _ _ _ _ hs)
    · rw [ptx_one n i s p h2]; intro t ht; cases ht

theorem chk_parts {root : ByteArray} {n i : Nat} {s : ByteArray} {p : List ByteArray} (h : chkB root (n : Int) (i : Int) s p = true) : allD p = true ∧ upv n i s p = root ∧ p.length = plen n i := by
  unfold chkB at h
  simp only [Bool.and_eq_true, decide_eq_true_eq, Int.toNat_natCast] at h
  exact ⟨h.1.1.2, h.2.1, h.2.2⟩

set_option maxRecDepth 100000 in
set_option maxHeartbeats 32000000 in
theorem binds_walk (A : Option Addr) (c : Nat) (l : List ByteArray) (x : UInt8) (s : ByteArray) (B : Option Addr) (d : Nat) (p : List ByteArray) (w : World) (hT : Tabs w) (hSl : Strs w A l) (hSp : Strs w B p) (hl : l.length ≤ 9223372036854775807) (hp : p.length ≤ 9223372036854775807) (hc : l.length ≤ c) (hd : p.length ≤ d) (hz : s.size ≤ maxLen) :
    Calls Tryd.prog 4 #[.slice A l.length c, .int .u8 x.toNat, .string s, .slice B p.length d] w fun e w' => e = .returned (.bool true) ∧ Below w.heap.size w w' := by
  unfold maxLen at hz
  have HH := Lib.hid (head_any w hT)
  have HT : Hid (∀ W, Below w.heap.size w W → Tabs W) := Lib.hid (fun W hW => hT.below hW)
  have HS : Hid (∀ W, Below w.heap.size w W → Strs W A l) := Lib.hid (fun W hW => hSl.below hW)
  have HSP : Hid (∀ W, Below w.heap.size w W → Strs W B p) := Lib.hid (fun W hW => hSp.below hW)
  have HG := Lib.hid (fun W (hW : Below w.heap.size w W) => lgood_any A c l W (hSl.below hW) hl)
  have HF := Lib.hid (fun W (hW : Below w.heap.size w W) => lfew_any B d p W (hSp.below hW) hp)
  have hx := x.toNat_lt
  obtain ⟨X, hX⟩ : ∃ X, x.toNat = X := ⟨_, rfl⟩
  rw [hX] at hx ⊢
  clear hX hT hSp
  obtain ⟨v, hv⟩ : ∃ v, lgood l = v := ⟨_, rfl⟩
  obtain ⟨vf, hvf⟩ : ∃ v, lfew p = v := ⟨_, rfl⟩
  have HV := Lib.hid hv
  have HVF := Lib.hid hvf
  rw [hv] at HG
  rw [hvf] at HF
  clear hv hvf
  cases v with
  | false =>
    clear hSl
    go_enter Tryd.func4, Tryd.ntmps4
    go_wp2_with fail
    refine HH.out.mono ?_
    rintro e w1 ⟨rfl, hb1⟩
    have HB1 := Lib.hid hb1
    clear hb1
    go_wp2_with fail
    refine (HG.out w1 HB1.out).mono ?_
    rintro e w2 ⟨rfl, hb2⟩
    have HB2 := Lib.hid (below_trans HB1.out hb2)
    clear hb2
    go_wp2
    go_ret
    exact ⟨rfl, HB2.out⟩
  | true =>
  cases vf with
  | false =>
    clear hSl
    go_enter Tryd.func4, Tryd.ntmps4
    go_wp2_with fail
    refine HH.out.mono ?_
    rintro e w1 ⟨rfl, hb1⟩
    have HB1 := Lib.hid hb1
    clear hb1
    go_wp2_with fail
    refine (HG.out w1 HB1.out).mono ?_
    rintro e w2 ⟨rfl, hb2⟩
    have HB2 := Lib.hid (below_trans HB1.out hb2)
    clear hb2
    go_wp2_with fail
    refine (HF.out w2 HB2.out).mono ?_
    rintro e _ ⟨rfl, rfl⟩
    go_wp2
    go_ret
    exact ⟨rfl, HB2.out⟩
  | true =>
  by_cases hz100 : 100 < s.size
  case pos =>
    clear hSl
    have hd1 : decide (100 < s.size) = true := decide_eq_true hz100
    have hi1 : (100 : Int) < (s.size : Int) := by omega
    have hd2 : decide ((100 : Int) < (s.size : Int)) = true := decide_eq_true hi1
    have hi3 : ((s.size : Int) ≤ 100) = False := eq_false (by omega)
    go_enter Tryd.func4, Tryd.ntmps4
    go_wp2_with fail
    refine HH.out.mono ?_
    rintro e w1 ⟨rfl, hb1⟩
    have HB1 := Lib.hid hb1
    clear hb1
    go_wp2_with fail
    refine (HG.out w1 HB1.out).mono ?_
    rintro e w2 ⟨rfl, hb2⟩
    have HB2 := Lib.hid (below_trans HB1.out hb2)
    clear hb2
    go_wp2_with fail
    refine (HF.out w2 HB2.out).mono ?_
    rintro e _ ⟨rfl, rfl⟩
    go_wp2
    go_ret
    exact ⟨rfl, HB2.out⟩
  case neg =>
  have hd1 : decide (100 < s.size) = false := decide_eq_false hz100
  have hi1 : ¬ (100 : Int) < (s.size : Int) := by omega
  have hd2 : decide ((100 : Int) < (s.size : Int)) = false := decide_eq_false hi1
  have hi3 : ((s.size : Int) ≤ 100) = True := eq_true (by omega)
  obtain ⟨hD, h20, hsm⟩ := lgood_eq HV.out
  obtain ⟨hp20, hsmp⟩ := lfew_eq HVF.out
  by_cases hn0 : l.length = 0
  case pos =>
    obtain rfl : l = [] := List.eq_nil_of_length_eq_zero hn0
    simp only [List.length_nil] at HG ⊢
    clear hSl hn0 hl hc h20 hD hsm hsmp
    go_enter Tryd.func4, Tryd.ntmps4
    go_wp2_with fail
    refine HH.out.mono ?_
    rintro e w1 ⟨rfl, hb1⟩
    have HB1 := Lib.hid hb1
    clear hb1
    go_wp2_with fail
    refine (HG.out w1 HB1.out).mono ?_
    rintro e w2 ⟨rfl, hb2⟩
    have HB2 := Lib.hid (below_trans HB1.out hb2)
    clear hb2
    go_wp2_with fail
    refine (HF.out w2 HB2.out).mono ?_
    rintro e _ ⟨rfl, rfl⟩
    go_wp2
    go_ret
    exact ⟨rfl, HB2.out⟩
  case neg =>
  obtain ⟨n, hn⟩ : ∃ n, l.length = n := ⟨_, rfl⟩
  obtain ⟨i, hi⟩ : ∃ i, X % n = i := ⟨_, rfl⟩
  have hin : i < n := by have := Nat.mod_lt X (show 0 < n by omega); omega
  have hrem : (X : Int) % (n : Int) = (i : Int) := by rw [← hi]; rfl
  have HREM := Lib.hid hrem
  clear hi hrem
  obtain ⟨t, ht⟩ := get_some l i (by omega)
  obtain ⟨b, off, rfl, c0⟩ := hSl.at_ ht
  have HCELL : Hid (∀ W, Below w.heap.size w W → W.cell? ⟨b, off + i, none⟩ = some (.string t)) := Lib.hid (fun W hW => kept_cell hW c0)
  have HPT : Hid (∀ W, Below w.heap.size w W → Calls Tryd.prog 11 #[.slice (some ⟨b, off, none⟩) n c, .int .i64 (i : Int)] W fun e w' => ∃ A' c', e = .returned (.tuple #[.slice A' (plen n i) c', .int .i64 0]) ∧ Below W.heap.size W w') := Lib.hid (fun W hW => by
    have := tpath_any (some ⟨b, off, none⟩) c l (i : Int) W (by omega) (by omega) (HS.out W hW) hsm (HT.out W hW) hD (by omega) (by omega)
    rw [hn, Int.toNat_natCast, pt_len, hn] at this
    exact this.mono fun _ _ ⟨A', c', he, _, _, _, hb⟩ => ⟨A', c', he, hb⟩)
  have HRT : Hid (∀ (W : World), Below w.heap.size w W → Calls Tryd.prog 10 #[.slice (some ⟨b, off, none⟩) n c] W fun e w' => e = .returned (.string (rt l)) ∧ Below W.heap.size W w') := Lib.hid (fun W hW => by
    have := rooted_any (some ⟨b, off, none⟩) c l W (by omega) (by omega) (HS.out W hW) hsm (HT.out W hW)
    rw [hD, if_pos rfl, hn] at this
    exact this)
  obtain ⟨cv, hcv⟩ : ∃ cv, chkB (rt l) (n : Int) (i : Int) s p = cv := ⟨_, rfl⟩
  have HCK : Hid (∀ (W : World), Below w.heap.size w W → Calls Tryd.prog 12 #[.string (rt l), .int .i64 (n : Int), .int .i64 (i : Int), .string s, .slice B p.length d] W fun e w' => e = .returned (.bool cv) ∧ Below W.heap.size W w') := Lib.hid (fun W hW => by
    have := tcheck_any (rt l) (n : Int) (i : Int) s B d p W (HT.out W hW) (HSP.out W hW) (by omega) (by omega) (fun s hs => by have := hsmp s hs; omega)
    rw [hcv] at this
    exact this)
  have HXL : Hid (∀ W, Below w.heap.size w W → Calls Tryd.prog 15 #[.slice (some ⟨b, off, none⟩) n c] W fun e w' => ∃ v, e = .returned v ∧ w'.ownsRow W.heap.size 9 1 v (txt l).length ((txt l).map Value.string) ∧ Below W.heap.size W w') := Lib.hid (fun W hW => by
    have := rtxt_any l.length (some ⟨b, off, none⟩) c l W (Nat.le_refl _) (by omega) hc (HS.out W hW) hsm
    rw [hn] at this
    exact this)
  have hfin : s ≠ t → cv = true → plen n i = p.length ∧ (txt l).length ≤ 100 ∧ (ptx n i s p).length ≤ 100 ∧
      (∀ W, Below w.heap.size w W → Calls Tryd.prog 16 #[.int .i64 (n : Int), .int .i64 (i : Int), .string s, .slice B p.length d] W fun e w' => ∃ v, e = .returned v ∧ w'.ownsRow W.heap.size 9 1 v (ptx n i s p).length ((ptx n i s p).map Value.string) ∧ Below W.heap.size W w') ∧
      (∀ (W : World) (A' : Option Addr) (c' : Nat), Strs W A' (txt l ++ ptx n i s p) → Calls Tryd.prog 14 #[.slice A' ((txt l).length + (ptx n i s p).length) c'] W fun e w' => e = .returned (.bool true) ∧ Below W.heap.size W w') := by
    intro hst hct
    obtain ⟨hDp, hup, hlen⟩ := chk_parts (hcv.trans hct)
    have hpn := plen_lt_n n i (by omega)
    have h1 := (txt_len l).1
    have h2 := ptx_len n i s p
    refine ⟨hlen.symm, by omega, by omega, fun W hW => ?_, fun W A' c' hs' => ?_⟩
    · exact rptx_any n n i s B d p W (Nat.le_refl _) (by omega) (by omega) hin hlen hd (HSP.out W hW) hsmp (by omega)
    · have := shown_any A' c' (txt l ++ ptx n i s p) W hs' (by rw [List.length_append]; omega) (fun u hu => by
        rcases List.mem_append.1 hu with h3 | h3
        · exact txt_small l hsm u h3
        · exact ptx_small n i s p hDp (by omega) u h3) (by
        have := path_bind l i s t p ht (by rw [hn]; exact hup)
        rw [hn] at this
        exact this.resolve_left hst)
      rw [List.length_append] at this
      exact this
  have HFIN := Lib.hid hfin
  have hne0 : ((n : Int) == 0) = false := by simp only [beq_eq_false_iff_ne, ne_eq]; omega
  rw [hn] at HG hn0 h20 hc hl ⊢
  have hii : (i : Int) < (n : Int) := by omega
  obtain ⟨ip, hj1, hy0, hy1, hy2⟩ := info_parts info_strg
  have HI := Lib.hid (And.intro hj1 (And.intro hy0 (And.intro hy1 hy2)))
  clear hj1 hy0 hy1 hy2 hfin hcv ht c0 hSl hn hD hsm hsmp
  generalize rt l = r at *
  generalize txt l = TA at *
  generalize ptx n i s p = TB at *
  have hz200 : s.size ≤ 200 := by omega
  by_cases hst : s = t
  case pos =>
    subst hst
    have t1 := beq_true s
    go_enter Tryd.func4, Tryd.ntmps4
    go_wp2_with fail
    refine HH.out.mono ?_
    rintro e w1 ⟨rfl, hb1⟩
    have HB1 := Lib.hid hb1
    clear hb1
    go_wp2_with fail
    refine (HG.out w1 HB1.out).mono ?_
    rintro e w2 ⟨rfl, hb2⟩
    have HB2 := Lib.hid (below_trans HB1.out hb2)
    clear hb2
    go_wp2_with fail
    refine (HF.out w2 HB2.out).mono ?_
    rintro e _ ⟨rfl, rfl⟩
    have q4 := HCELL.out w2 HB2.out
    have ql4 := lt_of_cell q4
    have hrem := HREM.out
    go_wp2
    go_ret
    exact ⟨rfl, HB2.out⟩
  case neg =>
  obtain ⟨t1, t2⟩ := bne_of s t hst
  cases cv with
  | false =>
    go_enter Tryd.func4, Tryd.ntmps4
    go_wp2_with fail
    refine HH.out.mono ?_
    rintro e w1 ⟨rfl, hb1⟩
    have HB1 := Lib.hid hb1
    clear hb1
    go_wp2_with fail
    refine (HG.out w1 HB1.out).mono ?_
    rintro e w2 ⟨rfl, hb2⟩
    have HB2 := Lib.hid (below_trans HB1.out hb2)
    clear hb2
    go_wp2_with fail
    refine (HF.out w2 HB2.out).mono ?_
    rintro e _ ⟨rfl, rfl⟩
    have q4 := HCELL.out w2 HB2.out
    have ql4 := lt_of_cell q4
    have hrem := HREM.out
    go_wp2_with fail
    refine (HRT.out w2 HB2.out).mono ?_
    rintro e w3 ⟨rfl, hb⟩
    have HBw3 := Lib.hid (below_trans HB2.out hb)
    clear hb
    clear q4 ql4
    go_wp2_with fail
    refine (HCK.out w3 HBw3.out).mono ?_
    rintro e w4 ⟨rfl, hb⟩
    have HBw4 := Lib.hid (below_trans HBw3.out hb)
    clear hb
    go_wp2
    go_ret
    exact ⟨rfl, HBw4.out⟩
  | true =>
    obtain ⟨hlen, hta, htb, hpt, hsh⟩ := HFIN.out hst rfl
    have HPTX := Lib.hid hpt
    have HSHOWN := Lib.hid hsh
    have HT20 := Lib.hid (And.intro hta htb)
    rw [hlen] at HPT
    clear hpt hsh hta htb hlen
    go_enter Tryd.func4, Tryd.ntmps4
    go_wp2_with fail
    refine HH.out.mono ?_
    rintro e w1 ⟨rfl, hb1⟩
    have HB1 := Lib.hid hb1
    clear hb1
    go_wp2_with fail
    refine (HG.out w1 HB1.out).mono ?_
    rintro e w2 ⟨rfl, hb2⟩
    have HB2 := Lib.hid (below_trans HB1.out hb2)
    clear hb2
    go_wp2_with fail
    refine (HF.out w2 HB2.out).mono ?_
    rintro e _ ⟨rfl, rfl⟩
    have q4 := HCELL.out w2 HB2.out
    have ql4 := lt_of_cell q4
    have hrem := HREM.out
    go_wp2_with fail
    refine (HRT.out w2 HB2.out).mono ?_
    rintro e w3 ⟨rfl, hb⟩
    have HBw3 := Lib.hid (below_trans HB2.out hb)
    clear hb
    clear q4 ql4
    go_wp2_with fail
    refine (HCK.out w3 HBw3.out).mono ?_
    rintro e w4 ⟨rfl, hb⟩
    have HBw4 := Lib.hid (below_trans HBw3.out hb)
    clear hb
    go_wp2_with fail
    refine (HPT.out w4 HBw4.out).mono ?_
    rintro e w5 ⟨A', c', rfl, hb⟩
    have HBw5 := Lib.hid (below_trans HBw4.out hb)
    clear hb
    go_wp2_with fail
    refine (HXL.out w5 HBw5.out).mono ?_
    rintro e w7 ⟨v1, rfl, ho, hb⟩
    have HBw7 := Lib.hid (below_trans HBw5.out hb)
    have HO7 := Lib.hid (own_base ho HBw5.out.size)
    clear hb ho
    go_wp2_with fail
    refine (HPTX.out w7 HBw7.out).mono ?_
    rintro e w8 ⟨v2, rfl, ho, hb⟩
    have HBw8 := Lib.hid (below_trans HBw7.out hb)
    have HO8 := Lib.hid (row_below HO7.out hb)
    obtain ⟨A2, c2, rfl, -, -, hr2⟩ := Rd.of_own ho
    have HR2 := Lib.hid hr2
    clear hb ho hr2
    go_wp2_with (at_builtin; refine wpList_appG _ (by kernel_rfl) (.tmp 74) (.tmp 80) 22 22 rfl w.heap.size 9 9 ip _ 1 16 Tryd.underlying22 Tryd.underlying22 HI.out.1 HI.out.2.1 HI.out.2.2.1 HI.out.2.2.2 rfl (by omega) v1 TA.length _ rfl HO8.out A2 TB.length c2 (TB.map Value.string) rfl HR2.out (by intro u hu; obtain ⟨t, _, rfl⟩ := List.mem_map.1 hu; rfl) (by have := HT20.out; simp only [maxLen]; omega) (by have := HT20.out; omega) HBw8.out.size ?_)
    intro v3 w9 ho hg
    have HBw9 : Hid (Below w.heap.size w w9) := Lib.hid (HBw8.out.grown hg HBw8.out.size (fun j hj => (HO8.out.lt j hj).1))
    obtain ⟨A3, c3, rfl, -, -, hr3⟩ := Rd.of_own ho
    have HSH := Lib.hid (HSHOWN.out w9 A3 c3 (by unfold Strs; rw [List.map_append, List.length_append]; exact hr3))
    clear ho hg hr3
    go_wp2_with fail
    refine HSH.out.mono ?_
    rintro e w10 ⟨rfl, hb⟩
    have HBw10 := Lib.hid (below_trans HBw9.out hb)
    clear hb
    go_wp2
    go_ret
    exact ⟨rfl, HBw10.out⟩
end Go.Proofs.YtfmlhlliephlhaaDoor
