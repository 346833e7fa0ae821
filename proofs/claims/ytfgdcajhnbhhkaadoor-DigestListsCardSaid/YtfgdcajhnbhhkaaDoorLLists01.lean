/- The law DigestLists: the walk. -/
import Derived.Test.YtfgdcajhnbhhkaaDoorPureD02
import Derived.Test.YtfgdcajhnbhhkaaDoorRef04
import Derived.Test.YtfgdcajhnbhhkaaDoorLaid01
import Derived.Test.YtfgdcajhnbhhkaaDoorOpen
import Derived.Deep.RegionWith
namespace Go.Proofs.YtfgdcajhnbhhkaaDoor
open Go.RowKit

theorem lone_law (x b : ByteArray) (n k : Nat) (hx : x.size = n) (hb : n ≤ b.size) (hn : n ≤ 9) (hk : min n 6 = k) :
    ((dg ⟨(jn [x]).toArray⟩).toList == (dg ⟨(jn [x.extract 0 k ++ b.extract k n]).toArray⟩).toList) = (x.toList == (x.extract 0 k ++ b.extract k n).toList) := by
  have key : dg ⟨(jn [x]).toArray⟩ = dg ⟨(jn [x.extract 0 k ++ b.extract k n]).toArray⟩ ↔ x = x.extract 0 k ++ b.extract k n := by
    by_cases h6 : n ≤ 6
    · have hkn : k = n := by omega
      subst hkn
      have e1 : x.extract 0 k ++ b.extract k k = x := by
        rw [ByteArray.extract_same, ByteArray.append_empty, ← hx]; exact ByteArray.extract_zero_size
      rw [e1]
      exact ⟨fun _ => rfl, fun _ => rfl⟩
    · have hk6 : k = 6 := by omega
      subst hk6
      have e0 : x = x.extract 0 6 ++ x.extract 6 n := by
        rw [ByteArray.extract_append_extract, ← hx]
        have : max 6 x.size = x.size := by omega
        rw [show min 0 6 = 0 from rfl, this]; exact ByteArray.extract_zero_size.symm
      have ea : ∀ (p a : ByteArray), p ++ a = ⟨(p.data.toList ++ a.data.toList).toArray⟩ := fun p a => by
        apply ByteArray.ext; apply Array.toList_inj.1
        rw [ByteArray.data_append, Array.toList_append]
      have hl := lone_eq (x.extract 0 6).data.toList (x.extract 6 n).data.toList (b.extract 6 n).data.toList
        (show (x.extract 0 6).size = 6 by rw [ByteArray.size_extract]; omega)
        (show (x.extract 6 n).size = (b.extract 6 n).size by rw [ByteArray.size_extract, ByteArray.size_extract]; omega)
        (show (x.extract 6 n).size ≤ 3 by rw [ByteArray.size_extract]; omega)
      rw [← ea, ← ea, ← e0] at hl
      rw [hl]
      constructor
      · intro h
        have : x.extract 6 n = b.extract 6 n := ba_ext h
        rw [← this]; exact e0
      · intro h
        have h2 : x.extract 0 6 ++ x.extract 6 n = x.extract 0 6 ++ b.extract 6 n := e0.symm.trans h
        rw [ea, ea] at h2
        have h3 := congrArg (fun z : ByteArray => z.data.toList) h2
        exact List.append_cancel_left h3
  by_cases h : x = x.extract 0 k ++ b.extract k n
  · rw [key.2 h, ← h]; simp
  · rw [(bne_of _ _ h).1, (bne_of _ _ (fun e => h (key.1 e))).1]

set_option maxRecDepth 100000 in
set_option maxHeartbeats 32000000 in
theorem lists_walk (A : Option Addr) (c : Nat) (l : List ByteArray) (B : Option Addr) (d : Nat) (m : List ByteArray) (one two : ByteArray) (w : World) (hT : Tabs w)
    (hA : Strs w A l) (hl : l.length ≤ 9223372036854775807) (hB : Strs w B m) (hm : m.length ≤ 9223372036854775807) (h1 : one.size ≤ maxLen) (h2 : two.size ≤ maxLen) :
    Calls Tryd.prog 9 #[.slice A l.length c, .slice B m.length d, .string one, .string two] w fun e w' => e = .returned (.bool true) ∧ Below w.heap.size w w' := by
  unfold maxLen at h1 h2
  have HS : Hid (∀ (t : ByteArray) (w' : World), t.size ≤ 1000000000 → Below w.heap.size w w' → Calls Tryd.prog 12 #[.string t] w' fun e w'' => e = .returned (.string (dg t)) ∧ Below w.heap.size w w'') := Lib.hid (fun t w' ht hb => (sum_any t ht w' (hT.below hb).t64).mono fun _ _ ⟨he, h2⟩ => ⟨he, below_trans hb h2⟩)
  have HLI : Hid (∀ (C : Option Addr) (q : Nat) (k : List ByteArray) (w' : World), Strs w' C k → (jn k).length ≤ 1000000 → k.length ≤ 1000000 → Below w.heap.size w w' → Calls Tryd.prog 14 #[.slice C k.length q] w' fun e w'' => e = .returned (.string (dg ⟨(jn k).toArray⟩)) ∧ Below w.heap.size w w'') := Lib.hid (fun C q k w' hs hj hk hb => (list_any C q k w' hs (hT.below hb) hj hk).mono fun _ _ ⟨he, h2⟩ => ⟨he, below_trans hb h2⟩)
  have HH := Lib.hid (head_any w hT)
  have HA : Hid (∀ w', Below w.heap.size w w' → Strs w' A l) := Lib.hid (fun w' hb => hA.below hb)
  have HB : Hid (∀ w', Below w.heap.size w w' → Strs w' B m) := Lib.hid (fun w' hb => hB.below hb)
  clear hT hA hB
  obtain ⟨v, hv⟩ : ∃ v, fewB l 200 = v := ⟨_, rfl⟩
  have HV := Lib.hid hv
  obtain ⟨v', hv'⟩ : ∃ v, fewB m 200 = v := ⟨_, rfl⟩
  have HV' := Lib.hid hv'
  clear hv hv'
  cases v with
  | false =>
    go_enter Tryd.func9, Tryd.ntmps9
    go_wp2_with fail
    refine HH.out.mono ?_
    rintro e w1 ⟨rfl, hb1⟩
    have HB1 := Lib.hid hb1
    clear hb1
    have hf := few_any A c l 200 w1 (HA.out _ HB1.out) hl
    rw [HV.out] at hf
    have HF := Lib.hid hf
    clear hf
    have hf' := few_any B d m 200 w1 (HB.out _ HB1.out) hm
    rw [HV'.out] at hf'
    have HF' := Lib.hid hf'
    clear hf'
    go_wp2_with fail
    refine HF.out.mono ?_
    rintro e _ ⟨rfl, rfl⟩
    go_wp2
    go_ret
    exact ⟨rfl, HB1.out⟩
  | true =>
    cases v' with
    | false =>
      go_enter Tryd.func9, Tryd.ntmps9
      go_wp2_with fail
      refine HH.out.mono ?_
      rintro e w1 ⟨rfl, hb1⟩
      have HB1 := Lib.hid hb1
      clear hb1
      have hf := few_any A c l 200 w1 (HA.out _ HB1.out) hl
      rw [HV.out] at hf
      have HF := Lib.hid hf
      clear hf
      have hf' := few_any B d m 200 w1 (HB.out _ HB1.out) hm
      rw [HV'.out] at hf'
      have HF' := Lib.hid hf'
      clear hf'
      go_wp2_with fail
      refine HF.out.mono ?_
      rintro e _ ⟨rfl, rfl⟩
      go_wp2_with fail
      refine HF'.out.mono ?_
      rintro e _ ⟨rfl, rfl⟩
      go_wp2
      go_ret
      exact ⟨rfl, HB1.out⟩
    | true =>
      obtain ⟨hj, hl30, hsm⟩ := few_jn HV.out
      obtain ⟨hj', hm30, hsm'⟩ := few_jn HV'.out
      have HSM := Lib.hid hsm
      have HSM' := Lib.hid hsm'
      obtain ⟨a, ha⟩ : ∃ a, (⟨(jn l).toArray⟩ : ByteArray) = a := ⟨_, rfl⟩
      obtain ⟨b, hb⟩ : ∃ b, (⟨(jn m).toArray⟩ : ByteArray) = b := ⟨_, rfl⟩
      have haz : a.size ≤ 6120 := by rw [← ha]; exact hj
      have hbz : b.size ≤ 6120 := by rw [← hb]; exact hj'
      have HJ : Hid ((jn l).length ≤ 6120) := Lib.hid hj
      have HJ' : Hid ((jn m).length ≤ 6120) := Lib.hid hj'
      obtain ⟨v, hv⟩ : ∃ v, decide (l = m) = v := ⟨_, rfl⟩
      have hab : (a.toList == b.toList) = v := by rw [← hv, beq_bytes, ← ha, ← hb]; exact decide_eq_decide.2 (jn_ba l m)
      have hdd : a.size ≤ 7 → b.size ≤ 7 → ((dg a).toList == (dg b).toList) = v := fun p q => by
        rw [← hab, beq_bytes, beq_bytes]; exact decide_eq_decide.2 (short_eq a b p q)
      obtain ⟨da, hda⟩ : ∃ x, dg a = x := ⟨_, rfl⟩
      obtain ⟨db, hdb⟩ : ∃ x, dg b = x := ⟨_, rfl⟩
      rw [hda, hdb] at hdd
      have HAE := Lib.hid ha
      have HBE := Lib.hid hb
      have HDA := Lib.hid hda
      have HDB := Lib.hid hdb
      have HVE := Lib.hid hv
      have t1 := beq_true da
      obtain ⟨n, hn⟩ : ∃ n, min (min one.size two.size) 9 = n := ⟨_, rfl⟩
      obtain ⟨k, hk⟩ : ∃ k, min n 6 = k := ⟨_, rfl⟩
      have m1 : min (min (one.size : Int) (two.size : Int)) 9 = (n : Int) := by omega
      have m4 : (if (9 : Int) < (if two.size < one.size then (two.size : Int) else (one.size : Int)) then 9 else if two.size < one.size then (two.size : Int) else (one.size : Int)) = (n : Int) := by split <;> split at * <;> omega
      have m3 : min (n : Int) 6 = (k : Int) := by omega
      have hn1 : n ≤ one.size := by omega
      have hn2 : n ≤ two.size := by omega
      have hn9 : n ≤ 9 := by omega
      have hkn : k ≤ n := by omega
      obtain ⟨x, hx⟩ : ∃ x, one.extract 0 n = x := ⟨_, rfl⟩
      have hxz : x.size = n := by rw [← hx, ByteArray.size_extract]; omega
      have hlo := lone_law x two n k hxz hn2 hn9 hk
      obtain ⟨p, hp⟩ : ∃ p, x.extract 0 k = p := ⟨_, rfl⟩
      obtain ⟨q, hq⟩ : ∃ q, two.extract k n = q := ⟨_, rfl⟩
      have hpz : p.size ≤ 9 := by rw [← hp, ByteArray.size_extract]; omega
      have hqz : q.size ≤ 9 := by rw [← hq, ByteArray.size_extract]; omega
      rw [hp, hq] at hlo
      obtain ⟨y, hy⟩ : ∃ y, p ++ q = y := ⟨_, rfl⟩
      rw [hy] at hlo
      have hyz : y.size ≤ 18 := by rw [← hy, ByteArray.size_append]; omega
      have hjx : (jn [x]).length ≤ 1000 := by
        have := jn_few [x] (by intro s hs; rw [List.mem_singleton.1 hs]; omega)
        simp only [List.length_singleton] at this; omega
      have hjy : (jn [y]).length ≤ 1000 := by
        have := jn_few [y] (by intro s hs; rw [List.mem_singleton.1 hs]; omega)
        simp only [List.length_singleton] at this; omega
      obtain ⟨dx, hdx⟩ : ∃ z, dg ⟨(jn [x]).toArray⟩ = z := ⟨_, rfl⟩
      obtain ⟨dy, hdy⟩ : ∃ z, dg ⟨(jn [y]).toArray⟩ = z := ⟨_, rfl⟩
      rw [hdx, hdy] at hlo
      obtain ⟨v2, hv2⟩ : ∃ v2, (x.toList == y.toList) = v2 := ⟨_, rfl⟩
      rw [hv2] at hlo
      have k1 : ∀ w, (Op.stringOp .add p q).run Tryd.prog w = .ok (.string y) w := fun w => by rw [← hy]; exact run_string_add_sum w p q (by omega)
      have HX := Lib.hid hx
      have HP := Lib.hid hp
      have HQ := Lib.hid hq
      have HDX := Lib.hid hdx
      have HDY := Lib.hid hdy
      have HJX := Lib.hid hjx
      have HJY := Lib.hid hjy
      have hk0 : (0 : Int) ≤ (k : Int) := by omega
      have hk1 : (k : Int) ≤ (n : Int) := by omega
      have hk2 : (n : Int) ≤ (two.size : Int) := by omega
      have hk3 : (k : Int) ≤ (x.size : Int) := by omega
      clear hj hj' hsm hsm' ha hb hda hdb hv hx hp hq hy hdx hdy hn hk hjx hjy
      have hpart : (a.size ≤ 7 ∧ b.size ≤ 7) ∨ (a.size ≤ 7 ∧ 7 < b.size) ∨ 7 < a.size := by omega
      rcases hpart with ⟨g1, g2⟩ | ⟨g1, g2⟩ | g1
      · have hdd2 := hdd g1 g2
        clear hdd
        go_enter Tryd.func9, Tryd.ntmps9
        go_wp2_with fail
        refine HH.out.mono ?_
        rintro e w1 ⟨rfl, hb1⟩
        have HB1 := Lib.hid hb1
        clear hb1
        have hf := few_any A c l 200 w1 (HA.out _ HB1.out) hl
        rw [HV.out] at hf
        have HF := Lib.hid hf
        clear hf
        have hf' := few_any B d m 200 w1 (HB.out _ HB1.out) hm
        rw [HV'.out] at hf'
        have HF' := Lib.hid hf'
        clear hf'
        go_wp2_with fail
        refine HF.out.mono ?_
        rintro e _ ⟨rfl, rfl⟩
        go_wp2_with fail
        refine HF'.out.mono ?_
        rintro e _ ⟨rfl, rfl⟩
        go_wp2_with fail
        refine (rjoined A c l w1 (HA.out _ HB1.out) hl30 HSM.out).mono ?_
        rw [HAE.out]
        rintro e w2 ⟨rfl, hb2⟩
        have HB2 := Lib.hid (below_trans HB1.out hb2)
        clear hb2
        go_wp2_with fail
        refine (rjoined B d m w2 (HB.out _ HB2.out) hm30 HSM'.out).mono ?_
        rw [HBE.out]
        rintro e w3 ⟨rfl, hb3⟩
        have HB3 := Lib.hid (below_trans HB2.out hb3)
        clear hb3
        go_wp2_with fail
        refine (HLI.out A c l w3 (HA.out _ HB3.out) (by have := HJ.out; omega) (by omega) HB3.out).mono ?_
        rw [HAE.out, HDA.out]
        rintro e w4 ⟨rfl, hb4⟩
        have HB4 := Lib.hid hb4
        clear hb4
        go_wp2_with fail
        refine (HS.out a w4 (by omega) HB4.out).mono ?_
        rw [HDA.out]
        rintro e w5 ⟨rfl, hb5⟩
        have HB5 := Lib.hid hb5
        clear hb5
        go_wp2_with fail
        refine (rsame A B c d l m w5 (HA.out _ HB5.out) (HB.out _ HB5.out) hl hm).mono ?_
        rw [HVE.out]
        rintro e w6 ⟨rfl, hb6⟩
        have HB6 := Lib.hid (below_trans HB5.out hb6)
        clear hb6
        go_wp2_with fail
        refine (HLI.out A c l w6 (HA.out _ HB6.out) (by have := HJ.out; omega) (by omega) HB6.out).mono ?_
        rw [HAE.out, HDA.out]
        rintro e w7 ⟨rfl, hb7⟩
        have HB7 := Lib.hid hb7
        clear hb7
        go_wp2_with fail
        refine (HLI.out B d m w7 (HB.out _ HB7.out) (by have := HJ'.out; omega) (by omega) HB7.out).mono ?_
        rw [HBE.out, HDB.out]
        rintro e w8 ⟨rfl, hb8⟩
        have HB8 := Lib.hid hb8
        clear hb8
        go_wp2_with fail
        refine (rsame A B c d l m w8 (HA.out _ HB8.out) (HB.out _ HB8.out) hl hm).mono ?_
        rw [HVE.out]
        rintro e w9 ⟨rfl, hb9⟩
        have HB9 := Lib.hid (below_trans HB8.out hb9)
        clear hb9
        obtain ⟨wa, hwa⟩ : ∃ wa, (w9.alloc (.cells #[.string x] 9)).drew = wa := ⟨_, rfl⟩
        have HBA : Hid (Below w.heap.size w wa) := Lib.hid (by rw [← hwa]; exact (below_alloc HB9.out _).drew)
        have HSA : Hid (Strs wa (some ⟨w9.heap.size, 0, none⟩) [x]) := Lib.hid (by rw [← hwa]; exact (Strs_new w9 #[.string x] 9 _ _ rfl rfl).below (Below.refl _ _).drew)
        have HWA := Lib.hid hwa
        clear hwa
        go_wp2_with fail
        rw [HX.out]
        have hpp := HP.out
        have hqq := HQ.out
        refine wp_region_any (by kernel_rfl) ?_
        try (change wpAny _ _ _ _ _ _ _ (World.drew _))
        refine wpAny_take (i := 0) (v := ?_) rfl (by kernel_rfl) (by kernel_rfl) (by kernel_rfl) (fun _ _ _ h => h) (Or.inl ⟨by kernel_rfl, ?hy⟩) ?rest
        case hy => (intro w; go_simp; try with_reducible rfl)
        case rest =>
        refine wpAny_take (i := 1) (v := ?_) rfl (by kernel_rfl) (by kernel_rfl) (by kernel_rfl) (fun _ _ _ h => h) (Or.inl ⟨by kernel_rfl, ?hy⟩) ?rest
        case hy => (intro w; go_simp; try with_reducible rfl)
        case rest =>
        refine wpAny_take (i := 2) (v := ?_) rfl (by kernel_rfl) (by kernel_rfl) (by kernel_rfl) (fun _ _ _ h => h) (Or.inl ⟨by kernel_rfl, ?hy⟩) ?rest
        case hy => (intro w; go_simp; try with_reducible rfl)
        case rest =>
        refine wpAny_take (i := 3) (v := ?_) rfl (by kernel_rfl) (by kernel_rfl) (by kernel_rfl) (fun _ _ _ h => h) (Or.inl ⟨by kernel_rfl, ?hy⟩) ?rest
        case hy => (intro w; go_simp; try with_reducible rfl)
        case rest =>
        refine wpAny_take (i := 4) (v := ?_) rfl (by kernel_rfl) (by kernel_rfl) (by kernel_rfl) (fun _ _ _ h => h) (Or.inl ⟨by kernel_rfl, ?hy⟩) ?rest
        case hy => (intro w; go_simp; try with_reducible rfl)
        case rest =>
        refine wpAny_take (i := 5) (v := ?_) rfl (by kernel_rfl) (by kernel_rfl) (by kernel_rfl) (fun _ _ _ h => h) (Or.inl ⟨by kernel_rfl, ?hy⟩) ?rest
        case hy => (intro w; go_simp; try with_reducible rfl)
        case rest =>
        refine wpAny_take (i := 6) (v := ?_) rfl (by kernel_rfl) (by kernel_rfl) (by kernel_rfl) (fun _ _ _ h => h) (Or.inl ⟨by kernel_rfl, ?hy⟩) ?rest
        case hy => (intro w; go_simp; try with_reducible rfl)
        case rest =>
        refine wpAny_take (i := 7) (v := ?_) rfl (by kernel_rfl) (by kernel_rfl) (by kernel_rfl) (fun _ _ _ h => h) (Or.inl ⟨by kernel_rfl, ?hy⟩) ?rest
        case hy => (intro w; go_simp; try with_reducible rfl)
        case rest =>
        refine wpAny_take (i := 8) (v := ?_) rfl (by kernel_rfl) (by kernel_rfl) (by kernel_rfl) (fun _ _ _ h => h) (Or.inl ⟨by kernel_rfl, ?hy⟩) ?rest
        case hy => (intro w; go_simp; try with_reducible rfl)
        case rest =>
        refine wpAny_take (i := 9) (v := ?_) rfl (by kernel_rfl) (by kernel_rfl) (by kernel_rfl) (fun _ _ _ h => h) (Or.inl ⟨by kernel_rfl, ?hy⟩) ?rest
        case hy => (intro w; go_simp; try with_reducible rfl)
        case rest =>
        refine wpAny_take (i := 10) (v := ?_) rfl (by kernel_rfl) (by kernel_rfl) (by kernel_rfl) (fun _ _ _ h => h) (Or.inl ⟨by kernel_rfl, ?hy⟩) ?rest
        case hy => (intro w; go_simp; try with_reducible rfl)
        case rest =>
        refine wpAny_done (by kernel_rfl) ?_ _
        go_wp2_with fail
        rw [HWA.out]
        refine (HLI.out (some ⟨w9.heap.size, 0, none⟩) 1 [x] wa HSA.out (by have := HJX.out; omega) (by simp) HBA.out).mono ?_
        rw [HDX.out]
        rintro e wb ⟨rfl, hbb⟩
        have HBB := Lib.hid hbb
        clear hbb
        obtain ⟨wc, hwc⟩ : ∃ wa, wb.alloc (.cells #[.string y] 9) = wa := ⟨_, rfl⟩
        have HBC : Hid (Below w.heap.size w wc) := Lib.hid (by rw [← hwc]; exact below_alloc HBB.out _)
        have HSC : Hid (Strs wc (some ⟨wb.heap.size, 0, none⟩) [y]) := Lib.hid (by rw [← hwc]; exact Strs_new _ _ _ _ _ rfl rfl)
        have HWC := Lib.hid hwc
        clear hwc
        go_wp2_with fail
        rw [HWC.out]
        refine (HLI.out (some ⟨wb.heap.size, 0, none⟩) 1 [y] wc HSC.out (by have := HJY.out; omega) (by simp) HBC.out).mono ?_
        rw [HDY.out]
        rintro e wd ⟨rfl, hbd⟩
        have HBD := Lib.hid hbd
        clear hbd
        go_wp2
        go_ret
        exact ⟨rfl, HBD.out⟩
      · have hdd2 := True.intro
        clear hdd
        go_enter Tryd.func9, Tryd.ntmps9
        go_wp2_with fail
        refine HH.out.mono ?_
        rintro e w1 ⟨rfl, hb1⟩
        have HB1 := Lib.hid hb1
        clear hb1
        have hf := few_any A c l 200 w1 (HA.out _ HB1.out) hl
        rw [HV.out] at hf
        have HF := Lib.hid hf
        clear hf
        have hf' := few_any B d m 200 w1 (HB.out _ HB1.out) hm
        rw [HV'.out] at hf'
        have HF' := Lib.hid hf'
        clear hf'
        go_wp2_with fail
        refine HF.out.mono ?_
        rintro e _ ⟨rfl, rfl⟩
        go_wp2_with fail
        refine HF'.out.mono ?_
        rintro e _ ⟨rfl, rfl⟩
        go_wp2_with fail
        refine (rjoined A c l w1 (HA.out _ HB1.out) hl30 HSM.out).mono ?_
        rw [HAE.out]
        rintro e w2 ⟨rfl, hb2⟩
        have HB2 := Lib.hid (below_trans HB1.out hb2)
        clear hb2
        go_wp2_with fail
        refine (rjoined B d m w2 (HB.out _ HB2.out) hm30 HSM'.out).mono ?_
        rw [HBE.out]
        rintro e w3 ⟨rfl, hb3⟩
        have HB3 := Lib.hid (below_trans HB2.out hb3)
        clear hb3
        go_wp2_with fail
        refine (HLI.out A c l w3 (HA.out _ HB3.out) (by have := HJ.out; omega) (by omega) HB3.out).mono ?_
        rw [HAE.out, HDA.out]
        rintro e w4 ⟨rfl, hb4⟩
        have HB4 := Lib.hid hb4
        clear hb4
        go_wp2_with fail
        refine (HS.out a w4 (by omega) HB4.out).mono ?_
        rw [HDA.out]
        rintro e w5 ⟨rfl, hb5⟩
        have HB5 := Lib.hid hb5
        clear hb5
        go_wp2_with fail
        refine (rsame A B c d l m w5 (HA.out _ HB5.out) (HB.out _ HB5.out) hl hm).mono ?_
        rw [HVE.out]
        rintro e w6 ⟨rfl, hb6⟩
        have HB6 := Lib.hid (below_trans HB5.out hb6)
        clear hb6
        obtain ⟨wa, hwa⟩ : ∃ wa, (w6.alloc (.cells #[.string x] 9)).drew = wa := ⟨_, rfl⟩
        have HBA : Hid (Below w.heap.size w wa) := Lib.hid (by rw [← hwa]; exact (below_alloc HB6.out _).drew)
        have HSA : Hid (Strs wa (some ⟨w6.heap.size, 0, none⟩) [x]) := Lib.hid (by rw [← hwa]; exact (Strs_new w6 #[.string x] 9 _ _ rfl rfl).below (Below.refl _ _).drew)
        have HWA := Lib.hid hwa
        clear hwa
        go_wp2_with fail
        rw [HX.out]
        have hpp := HP.out
        have hqq := HQ.out
        refine wp_region_any (by kernel_rfl) ?_
        try (change wpAny _ _ _ _ _ _ _ (World.drew _))
        refine wpAny_take (i := 0) (v := ?_) rfl (by kernel_rfl) (by kernel_rfl) (by kernel_rfl) (fun _ _ _ h => h) (Or.inl ⟨by kernel_rfl, ?hy⟩) ?rest
        case hy => (intro w; go_simp; try with_reducible rfl)
        case rest =>
        refine wpAny_take (i := 1) (v := ?_) rfl (by kernel_rfl) (by kernel_rfl) (by kernel_rfl) (fun _ _ _ h => h) (Or.inl ⟨by kernel_rfl, ?hy⟩) ?rest
        case hy => (intro w; go_simp; try with_reducible rfl)
        case rest =>
        refine wpAny_take (i := 2) (v := ?_) rfl (by kernel_rfl) (by kernel_rfl) (by kernel_rfl) (fun _ _ _ h => h) (Or.inl ⟨by kernel_rfl, ?hy⟩) ?rest
        case hy => (intro w; go_simp; try with_reducible rfl)
        case rest =>
        refine wpAny_take (i := 3) (v := ?_) rfl (by kernel_rfl) (by kernel_rfl) (by kernel_rfl) (fun _ _ _ h => h) (Or.inl ⟨by kernel_rfl, ?hy⟩) ?rest
        case hy => (intro w; go_simp; try with_reducible rfl)
        case rest =>
        refine wpAny_take (i := 4) (v := ?_) rfl (by kernel_rfl) (by kernel_rfl) (by kernel_rfl) (fun _ _ _ h => h) (Or.inl ⟨by kernel_rfl, ?hy⟩) ?rest
        case hy => (intro w; go_simp; try with_reducible rfl)
        case rest =>
        refine wpAny_take (i := 5) (v := ?_) rfl (by kernel_rfl) (by kernel_rfl) (by kernel_rfl) (fun _ _ _ h => h) (Or.inl ⟨by kernel_rfl, ?hy⟩) ?rest
        case hy => (intro w; go_simp; try with_reducible rfl)
        case rest =>
        refine wpAny_take (i := 6) (v := ?_) rfl (by kernel_rfl) (by kernel_rfl) (by kernel_rfl) (fun _ _ _ h => h) (Or.inl ⟨by kernel_rfl, ?hy⟩) ?rest
        case hy => (intro w; go_simp; try with_reducible rfl)
        case rest =>
        refine wpAny_take (i := 7) (v := ?_) rfl (by kernel_rfl) (by kernel_rfl) (by kernel_rfl) (fun _ _ _ h => h) (Or.inl ⟨by kernel_rfl, ?hy⟩) ?rest
        case hy => (intro w; go_simp; try with_reducible rfl)
        case rest =>
        refine wpAny_take (i := 8) (v := ?_) rfl (by kernel_rfl) (by kernel_rfl) (by kernel_rfl) (fun _ _ _ h => h) (Or.inl ⟨by kernel_rfl, ?hy⟩) ?rest
        case hy => (intro w; go_simp; try with_reducible rfl)
        case rest =>
        refine wpAny_take (i := 9) (v := ?_) rfl (by kernel_rfl) (by kernel_rfl) (by kernel_rfl) (fun _ _ _ h => h) (Or.inl ⟨by kernel_rfl, ?hy⟩) ?rest
        case hy => (intro w; go_simp; try with_reducible rfl)
        case rest =>
        refine wpAny_take (i := 10) (v := ?_) rfl (by kernel_rfl) (by kernel_rfl) (by kernel_rfl) (fun _ _ _ h => h) (Or.inl ⟨by kernel_rfl, ?hy⟩) ?rest
        case hy => (intro w; go_simp; try with_reducible rfl)
        case rest =>
        refine wpAny_done (by kernel_rfl) ?_ _
        go_wp2_with fail
        rw [HWA.out]
        refine (HLI.out (some ⟨w6.heap.size, 0, none⟩) 1 [x] wa HSA.out (by have := HJX.out; omega) (by simp) HBA.out).mono ?_
        rw [HDX.out]
        rintro e wb ⟨rfl, hbb⟩
        have HBB := Lib.hid hbb
        clear hbb
        obtain ⟨wc, hwc⟩ : ∃ wa, wb.alloc (.cells #[.string y] 9) = wa := ⟨_, rfl⟩
        have HBC : Hid (Below w.heap.size w wc) := Lib.hid (by rw [← hwc]; exact below_alloc HBB.out _)
        have HSC : Hid (Strs wc (some ⟨wb.heap.size, 0, none⟩) [y]) := Lib.hid (by rw [← hwc]; exact Strs_new _ _ _ _ _ rfl rfl)
        have HWC := Lib.hid hwc
        clear hwc
        go_wp2_with fail
        rw [HWC.out]
        refine (HLI.out (some ⟨wb.heap.size, 0, none⟩) 1 [y] wc HSC.out (by have := HJY.out; omega) (by simp) HBC.out).mono ?_
        rw [HDY.out]
        rintro e wd ⟨rfl, hbd⟩
        have HBD := Lib.hid hbd
        clear hbd
        go_wp2
        go_ret
        exact ⟨rfl, HBD.out⟩
      · have hdd2 := True.intro
        clear hdd
        go_enter Tryd.func9, Tryd.ntmps9
        go_wp2_with fail
        refine HH.out.mono ?_
        rintro e w1 ⟨rfl, hb1⟩
        have HB1 := Lib.hid hb1
        clear hb1
        have hf := few_any A c l 200 w1 (HA.out _ HB1.out) hl
        rw [HV.out] at hf
        have HF := Lib.hid hf
        clear hf
        have hf' := few_any B d m 200 w1 (HB.out _ HB1.out) hm
        rw [HV'.out] at hf'
        have HF' := Lib.hid hf'
        clear hf'
        go_wp2_with fail
        refine HF.out.mono ?_
        rintro e _ ⟨rfl, rfl⟩
        go_wp2_with fail
        refine HF'.out.mono ?_
        rintro e _ ⟨rfl, rfl⟩
        go_wp2_with fail
        refine (rjoined A c l w1 (HA.out _ HB1.out) hl30 HSM.out).mono ?_
        rw [HAE.out]
        rintro e w2 ⟨rfl, hb2⟩
        have HB2 := Lib.hid (below_trans HB1.out hb2)
        clear hb2
        go_wp2_with fail
        refine (rjoined B d m w2 (HB.out _ HB2.out) hm30 HSM'.out).mono ?_
        rw [HBE.out]
        rintro e w3 ⟨rfl, hb3⟩
        have HB3 := Lib.hid (below_trans HB2.out hb3)
        clear hb3
        go_wp2_with fail
        refine (HLI.out A c l w3 (HA.out _ HB3.out) (by have := HJ.out; omega) (by omega) HB3.out).mono ?_
        rw [HAE.out, HDA.out]
        rintro e w4 ⟨rfl, hb4⟩
        have HB4 := Lib.hid hb4
        clear hb4
        go_wp2_with fail
        refine (HS.out a w4 (by omega) HB4.out).mono ?_
        rw [HDA.out]
        rintro e w5 ⟨rfl, hb5⟩
        have HB5 := Lib.hid hb5
        clear hb5
        go_wp2_with fail
        refine (rsame A B c d l m w5 (HA.out _ HB5.out) (HB.out _ HB5.out) hl hm).mono ?_
        rw [HVE.out]
        rintro e w6 ⟨rfl, hb6⟩
        have HB6 := Lib.hid (below_trans HB5.out hb6)
        clear hb6
        obtain ⟨wa, hwa⟩ : ∃ wa, (w6.alloc (.cells #[.string x] 9)).drew = wa := ⟨_, rfl⟩
        have HBA : Hid (Below w.heap.size w wa) := Lib.hid (by rw [← hwa]; exact (below_alloc HB6.out _).drew)
        have HSA : Hid (Strs wa (some ⟨w6.heap.size, 0, none⟩) [x]) := Lib.hid (by rw [← hwa]; exact (Strs_new w6 #[.string x] 9 _ _ rfl rfl).below (Below.refl _ _).drew)
        have HWA := Lib.hid hwa
        clear hwa
        go_wp2_with fail
        rw [HX.out]
        have hpp := HP.out
        have hqq := HQ.out
        refine wp_region_any (by kernel_rfl) ?_
        try (change wpAny _ _ _ _ _ _ _ (World.drew _))
        refine wpAny_take (i := 0) (v := ?_) rfl (by kernel_rfl) (by kernel_rfl) (by kernel_rfl) (fun _ _ _ h => h) (Or.inl ⟨by kernel_rfl, ?hy⟩) ?rest
        case hy => (intro w; go_simp; try with_reducible rfl)
        case rest =>
        refine wpAny_take (i := 1) (v := ?_) rfl (by kernel_rfl) (by kernel_rfl) (by kernel_rfl) (fun _ _ _ h => h) (Or.inl ⟨by kernel_rfl, ?hy⟩) ?rest
        case hy => (intro w; go_simp; try with_reducible rfl)
        case rest =>
        refine wpAny_take (i := 2) (v := ?_) rfl (by kernel_rfl) (by kernel_rfl) (by kernel_rfl) (fun _ _ _ h => h) (Or.inl ⟨by kernel_rfl, ?hy⟩) ?rest
        case hy => (intro w; go_simp; try with_reducible rfl)
        case rest =>
        refine wpAny_take (i := 3) (v := ?_) rfl (by kernel_rfl) (by kernel_rfl) (by kernel_rfl) (fun _ _ _ h => h) (Or.inl ⟨by kernel_rfl, ?hy⟩) ?rest
        case hy => (intro w; go_simp; try with_reducible rfl)
        case rest =>
        refine wpAny_take (i := 4) (v := ?_) rfl (by kernel_rfl) (by kernel_rfl) (by kernel_rfl) (fun _ _ _ h => h) (Or.inl ⟨by kernel_rfl, ?hy⟩) ?rest
        case hy => (intro w; go_simp; try with_reducible rfl)
        case rest =>
        refine wpAny_take (i := 5) (v := ?_) rfl (by kernel_rfl) (by kernel_rfl) (by kernel_rfl) (fun _ _ _ h => h) (Or.inl ⟨by kernel_rfl, ?hy⟩) ?rest
        case hy => (intro w; go_simp; try with_reducible rfl)
        case rest =>
        refine wpAny_take (i := 6) (v := ?_) rfl (by kernel_rfl) (by kernel_rfl) (by kernel_rfl) (fun _ _ _ h => h) (Or.inl ⟨by kernel_rfl, ?hy⟩) ?rest
        case hy => (intro w; go_simp; try with_reducible rfl)
        case rest =>
        refine wpAny_take (i := 7) (v := ?_) rfl (by kernel_rfl) (by kernel_rfl) (by kernel_rfl) (fun _ _ _ h => h) (Or.inl ⟨by kernel_rfl, ?hy⟩) ?rest
        case hy => (intro w; go_simp; try with_reducible rfl)
        case rest =>
        refine wpAny_take (i := 8) (v := ?_) rfl (by kernel_rfl) (by kernel_rfl) (by kernel_rfl) (fun _ _ _ h => h) (Or.inl ⟨by kernel_rfl, ?hy⟩) ?rest
        case hy => (intro w; go_simp; try with_reducible rfl)
        case rest =>
        refine wpAny_take (i := 9) (v := ?_) rfl (by kernel_rfl) (by kernel_rfl) (by kernel_rfl) (fun _ _ _ h => h) (Or.inl ⟨by kernel_rfl, ?hy⟩) ?rest
        case hy => (intro w; go_simp; try with_reducible rfl)
        case rest =>
        refine wpAny_take (i := 10) (v := ?_) rfl (by kernel_rfl) (by kernel_rfl) (by kernel_rfl) (fun _ _ _ h => h) (Or.inl ⟨by kernel_rfl, ?hy⟩) ?rest
        case hy => (intro w; go_simp; try with_reducible rfl)
        case rest =>
        refine wpAny_done (by kernel_rfl) ?_ _
        go_wp2_with fail
        rw [HWA.out]
        refine (HLI.out (some ⟨w6.heap.size, 0, none⟩) 1 [x] wa HSA.out (by have := HJX.out; omega) (by simp) HBA.out).mono ?_
        rw [HDX.out]
        rintro e wb ⟨rfl, hbb⟩
        have HBB := Lib.hid hbb
        clear hbb
        obtain ⟨wc, hwc⟩ : ∃ wa, wb.alloc (.cells #[.string y] 9) = wa := ⟨_, rfl⟩
        have HBC : Hid (Below w.heap.size w wc) := Lib.hid (by rw [← hwc]; exact below_alloc HBB.out _)
        have HSC : Hid (Strs wc (some ⟨wb.heap.size, 0, none⟩) [y]) := Lib.hid (by rw [← hwc]; exact Strs_new _ _ _ _ _ rfl rfl)
        have HWC := Lib.hid hwc
        clear hwc
        go_wp2_with fail
        rw [HWC.out]
        refine (HLI.out (some ⟨wb.heap.size, 0, none⟩) 1 [y] wc HSC.out (by have := HJY.out; omega) (by simp) HBC.out).mono ?_
        rw [HDY.out]
        rintro e wd ⟨rfl, hbd⟩
        have HBD := Lib.hid hbd
        clear hbd
        go_wp2
        go_ret
        exact ⟨rfl, HBD.out⟩

end Go.Proofs.YtfgdcajhnbhhkaaDoor
