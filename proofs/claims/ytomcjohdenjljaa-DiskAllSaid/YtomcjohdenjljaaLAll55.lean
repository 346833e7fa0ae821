/- The law DiskAll: the walk. -/
import Derived.Test.YtomcjohdenjljaaLB255
namespace Go.Proofs.Ytomcjohdenjljaa
open Go.RowKit

set_option maxRecDepth 100000 in
set_option maxHeartbeats 16000000 in
theorem all_walk (r : UInt8) (A : Option Addr) (c : Nat) (l : List AC) (bytes more : Int) (w : World) (hl : Acs w A l) (hll : l.length ≤ 9223372036854775807) (hfitl : fits l) :
    Calls Try.prog 7 #[.int .u8 r.toNat, .slice A l.length c, .int .i64 bytes, .int .i64 more] w fun e w' => e = .returned (.bool true) ∧ Below w.heap.size w w' := by
  obtain ⟨W, rfl⟩ : ∃ W, W = w := ⟨_, rfl⟩
  have HAl : Hid (∀ w', Below W.heap.size W w' → Acs w' A l) := fun w' hb => hl.below hb
  clear hl
  obtain ⟨vl, hvl⟩ : ∃ v, okB l = v := ⟨_, rfl⟩
  have HVl := Lib.hid hvl
  clear hvl
  obtain ⟨n, hn⟩ : ∃ n, nOf r = n := ⟨_, rfl⟩
  have hn1 := nOf_lo r
  have hn2 := nOf_hi r
  have hsize := size_nOf r
  rw [hn] at hn1 hn2 hsize
  have HSIZE := Lib.hid hsize
  clear hn hsize
  obtain ⟨rv, hrv⟩ : ∃ rv, r.toNat = rv := ⟨_, rfl⟩
  rw [hrv] at HSIZE ⊢
  clear hrv
  go_enter Try.func7, Try.ntmps7
  go_wp2_with fail
  refine (head_any _).mono ?_
  rintro e w1 ⟨rfl, hb1⟩
  have HB1 := Lib.hid hb1
  clear hb1
  go_wp2_with fail
  have hokl := ok_any A c l w1 (HAl.out w1 HB1.out) hll
  rw [HVl.out] at hokl
  refine hokl.mono ?_
  rintro e _ ⟨rfl, rfl⟩
  clear hokl
  cases vl with
  | false =>
    go_wp2
    go_ret
    exact ⟨rfl, HB1.out⟩
  | true =>
  go_wp2_with fail
  refine (HSIZE.out _).mono ?_
  rintro e _ ⟨rfl, rfl⟩
  go_wp2_with fail
  refine (new_own W n hn1 (by omega) w1 HB1.out).mono ?_
  rintro e w3 ⟨d, rfl, ho⟩
  have HO := Lib.hid ho
  clear ho
  go_wp2_with fail
  refine (new_two W n hn1 (by omega) w3 d (DS.new n) HO.out).mono ?_
  rintro e w3b ⟨d2, rfl, ho⟩
  have HO2 := Lib.hid ho
  clear ho
  have HDO := Lib.hid (fun k a wr (hk : l[k]? = some a) (ho : Two W wr d (acts (DS.new n) (l.take k)) d2 (acts (DS.new n) (l.take k)) []) => do_step HVl.out hfitl n k a hk ho.acc)
  have HDO2 := Lib.hid (fun k a wr S (hk : l[k]? = some a) (ho : Two W wr d S d2 (acts (DS.new n) (l.take k)) []) => do_step HVl.out hfitl n k a hk ho.acc2)
  go_wp2_with fail
  go_loopw [13] (fun u wr => ∃ k : Nat, k ≤ l.length ∧ u = .int .i64 k ∧ Two W wr d (acts (DS.new n) (l.take k)) d2 (acts (DS.new n) (l.take k)) []) (fun u _ => l.length - (intOf u).toNat)
  case atStart => exact ⟨0, Nat.zero_le _, rfl, HO2.out⟩
  case round =>
  obtain ⟨k, hk, rfl, ho⟩ := hrel
  have HOW := Lib.hid ho
  clear ho
  by_cases hlt : k < l.length
  · obtain ⟨a, ha⟩ := get_some l k hlt
    obtain ⟨b, off, rfl, c0, c1, c2, c3, c4, c5⟩ := (HAl.out _ HOW.out.base).at_ ha
    have HAK := Lib.hid ha
    clear ha
    go_wp2_with fail
    refine (HDO.out k a wr HAK.out HOW.out).mono ?_
    rintro e w4 ⟨⟨s4, c4', rfl⟩, ho4⟩
    have HO4 := Lib.hid ho4
    clear ho4 c0 c1 c2 c3 c4 c5
    obtain ⟨b', off', hbo, c0, c1, c2, c3, c4, c5⟩ := (HAl.out _ HO4.out.base).at_ HAK.out
    obtain ⟨rfl, rfl⟩ : b = b' ∧ off = off' := by simpa using hbo
    clear hbo
    go_wp2_with fail
    refine (HDO2.out k a w4 _ HAK.out HO4.out).mono ?_
    rintro e w4b ⟨⟨s4', c4', rfl⟩, ho4⟩
    have HO4b := Lib.hid ho4
    clear ho4
    go_wp2
    go_roundw
    case rel => exact ⟨k + 1, by omega, by go_num, HO4b.out⟩
    case measure => simp [intOf]; omega
  obtain rfl : k = l.length := by omega
  go_wp2_with fail
  refine (start_own HOW.out.acc).mono ?_
  rintro e w5 ⟨rfl, ho5⟩
  have HO5a := Lib.hid ho5
  clear ho5
  go_wp2_with fail
  refine (start_own HO5a.out.acc2).mono ?_
  rintro e w5b ⟨rfl, ho5⟩
  have hS1 : ∃ S1, (acts (DS.new n) (l.take l.length)).start = S1 ∧ S1.on ∧ S1.n = n ∧ S1.q.length ≤ 60 := ⟨_, rfl, start_on _, acts_n _ _, acts_few n l.length l (okB_len HVl.out)⟩
  obtain ⟨S1, e1, hon1, hn1', hq1⟩ := hS1
  rw [e1] at ho5
  clear e1
  have HO5 := Lib.hid ho5
  have HON1 := Lib.hid hon1
  have HN1 := Lib.hid hn1'
  have HQ1 := Lib.hid hq1
  clear ho5 hon1 hn1' hq1 HOW HO5a
  have hp := all_pure S1 HON1.out HQ1.out bytes more
  rw [HN1.out] at hp
  have HP := Lib.hid hp
  clear hp
  go_wp2_with fail
  refine (fail_own 60 bytes HO5.out.acc).mono ?_
  rintro e w6 ⟨rfl, ho⟩
  have HO6 := Lib.hid ho
  clear ho
  go_wp2_with fail
  refine (fail_own more bytes HO6.out.acc).mono ?_
  rintro e w7 ⟨rfl, ho⟩
  have HO7 := Lib.hid ho
  clear ho
  go_wp2_with fail
  refine (sync_own HO7.out.acc2).mono ?_
  rw [HP.out.1]
  rintro e w8 ⟨rfl, ho⟩
  have HO8 := Lib.hid ho
  clear ho
  go_wp2_with fail
  refine (fail_own 0 bytes HO8.out.acc2).mono ?_
  rintro e w9 ⟨rfl, ho⟩
  have HO9 := Lib.hid ho
  clear ho
  go_wp2_with fail
  refine (start_own HO9.out.acc).mono ?_
  rintro e w10 ⟨rfl, ho⟩
  have HO10 := Lib.hid ho
  clear ho
  go_wp2_with fail
  refine (start_own HO10.out.acc2).mono ?_
  rintro e w11 ⟨rfl, ho⟩
  have HO11 := Lib.hid ho
  clear ho
  go_wp2_with fail
  refine (start_own HO11.out.acc).mono ?_
  rintro e w12 ⟨rfl, ho⟩
  have HO12 := Lib.hid ho
  clear ho
  obtain ⟨Sa, hSa⟩ : ∃ S, ((S1.fail 60 bytes).fail more bytes).start.start = S := ⟨_, rfl⟩
  obtain ⟨Sb, hSb⟩ : ∃ S, (S1.sync.2.fail 0 bytes).start = S := ⟨_, rfl⟩
  rw [hSa, hSb] at HP HO12
  clear hSa hSb
  go_wp2_with fail
  refine (contents_acc n HO12.out.acc HP.out.2.1 HP.out.2.2.1.symm).mono ?_
  rintro e w13 ⟨b1, cc1, cur1, rfl, hst1, -, -, -, -, hlo1, hhi1, hb1⟩
  have HST1 := Lib.hid hst1
  have HO13 := Lib.hid (HO12.out.fresh hb1 hlo1 hhi1)
  clear hst1 hlo1 hhi1 hb1
  go_wp2_with fail
  refine (contents_acc n HO13.out.acc2 HP.out.2.2.2.1 HP.out.2.2.2.2.1.symm).mono ?_
  rintro e w14 ⟨b2, cc2, cur2, rfl, hst2, -, -, -, -, hlo2, hhi2, hb2⟩
  have HST2 := Lib.hid hst2
  have HO14 := Lib.hid (HO13.out.fresh hb2 hlo2 hhi2)
  have HST1' := Lib.hid (HO14.out.strs HST1.out (by simp))
  clear hst2 hlo2 hhi2 hb2
  have hsm := same_at n b1 b2 cc1 cc2 Sa.views Sb.views w14 HST1'.out HST2.out (by rw [views_length, HP.out.2.2.1]) (by rw [views_length, HP.out.2.2.2.2.1]) (by omega)
  rw [HP.out.2.2.2.2.2, decide_eq_true (rfl : Sb.views = Sb.views)] at hsm
  have HSM := Lib.hid hsm
  clear hsm
  go_wp2_with fail
  refine HSM.out.mono ?_
  rintro e w15 ⟨rfl, hb15⟩
  have HB15 := Lib.hid (HO14.out.base.trans (hb15.mono HO14.out.base.size))
  clear hb15
  go_wp2
  go_ret
  exact ⟨rfl, HB15.out⟩

end Go.Proofs.Ytomcjohdenjljaa
