/- The law DiskDamage: the walk. -/
import Derived.Test.YtomcjohdenjljaaLB255
namespace Go.Proofs.Ytomcjohdenjljaa
open Go.RowKit

set_option maxRecDepth 100000 in
set_option maxHeartbeats 64000000 in
theorem damage_walk (r : UInt8) (A : Option Addr) (c : Nat) (l : List AC) (sec at_ mask : Int) (w : World) (hl : Acs w A l) (hll : l.length ≤ 9223372036854775807) (hfitl : fits l) :
    Calls Try.prog 9 #[.int .u8 r.toNat, .slice A l.length c, .int .i64 sec, .int .i64 at_, .int .i64 mask] w fun e w' => e = .returned (.bool true) ∧ Below w.heap.size w w' := by
  obtain ⟨W, rfl⟩ : ∃ W, W = w := ⟨_, rfl⟩
  have HAl : Hid (∀ w', Below W.heap.size W w' → Acs w' A l) := fun w' hb => hl.below hb
  clear hl
  obtain ⟨vl, hvl⟩ : ∃ v, okB l = v := ⟨_, rfl⟩
  have HVl := Lib.hid hvl
  clear hvl
  obtain ⟨n, hn⟩ : ∃ n, nOf r = n := ⟨_, rfl⟩
  have hn1 := nOf_lo r
  have hn2 := nOf_hi r
  have hsize := size_nOf r
  rw [hn] at hn1 hn2 hsize
  have HSIZE := Lib.hid hsize
  clear hn hsize
  obtain ⟨rv, hrv⟩ : ∃ rv, r.toNat = rv := ⟨_, rfl⟩
  rw [hrv] at HSIZE ⊢
  clear hrv
  go_enter Try.func9, Try.ntmps9
  go_wp2_with fail
  refine (head_any _).mono ?_
  rintro e w1 ⟨rfl, hb1⟩
  have HB1 := Lib.hid hb1
  clear hb1
  go_wp2_with fail
  have hokl := ok_any A c l w1 (HAl.out w1 HB1.out) hll
  rw [HVl.out] at hokl
  refine hokl.mono ?_
  rintro e _ ⟨rfl, rfl⟩
  clear hokl
  cases vl with
  | false =>
    go_wp2
    go_ret
    exact ⟨rfl, HB1.out⟩
  | true =>
  go_wp2_with fail
  refine (HSIZE.out _).mono ?_
  rintro e _ ⟨rfl, rfl⟩
  go_wp2_with fail
  refine (new_own W n hn1 (by omega) w1 HB1.out).mono ?_
  rintro e w3 ⟨d, rfl, ho⟩
  have HO := Lib.hid ho
  clear ho
  have HDO := Lib.hid (fun k a wr (hk : l[k]? = some a) (ho : Own W wr d (acts (DS.new n) (l.take k)) []) => do_step HVl.out hfitl n k a hk ho.acc)
  go_wp2_with fail
  go_loopw [14] (fun u wr => ∃ k : Nat, k ≤ l.length ∧ u = .int .i64 k ∧ Own W wr d (acts (DS.new n) (l.take k)) []) (fun u _ => l.length - (intOf u).toNat)
  case atStart => exact ⟨0, Nat.zero_le _, rfl, HO.out⟩
  case round =>
  obtain ⟨k, hk, rfl, ho⟩ := hrel
  have HOW := Lib.hid ho
  clear ho
  by_cases hlt : k < l.length
  · obtain ⟨a, ha⟩ := get_some l k hlt
    obtain ⟨b, off, rfl, c0, c1, c2, c3, c4, c5⟩ := (HAl.out _ HOW.out.base).at_ ha
    have HAK := Lib.hid ha
    clear ha
    go_wp2_with fail
    refine (HDO.out k a wr HAK.out HOW.out).mono ?_
    rintro e w4 ⟨⟨s4, c4, rfl⟩, ho4⟩
    have HO4 := Lib.hid ho4
    clear ho4
    go_wp2
    go_roundw
    case rel => exact ⟨k + 1, by omega, by go_num, HO4.out⟩
    case measure => simp [intOf]; omega
  obtain rfl : k = l.length := by omega
  go_wp2_with fail
  refine (start_own HOW.out.acc).mono ?_
  rintro e w5 ⟨rfl, ho5⟩
  have hS1 : ∃ S1, (acts (DS.new n) (l.take l.length)).start = S1 ∧ S1.on ∧ S1.n = n ∧ S1.q.length ≤ 60 := ⟨_, rfl, start_on _, acts_n _ _, acts_few n l.length l (okB_len HVl.out)⟩
  obtain ⟨S1, e1, hon1, hn1', hq1⟩ := hS1
  rw [e1] at ho5
  clear e1
  have HO5 := Lib.hid ho5
  have HON1 := Lib.hid hon1
  have HN1 := Lib.hid hn1'
  have HQ1 := Lib.hid hq1
  clear ho5 hon1 hn1' hq1 HOW
  have hsy := sync_on S1 HON1.out
  have hs1 : S1.sync.1 = 0 := by rw [hsy]
  have hon2 : S1.sync.2.off = false := by rw [hsy]; exact HON1.out.1
  have hn2 : S1.sync.2.n = n := by rw [hsy]; exact HN1.out
  have hq2 : S1.sync.2.q = [] := by rw [hsy]
  obtain ⟨S2, hS2⟩ : ∃ S, S1.sync.2 = S := ⟨_, rfl⟩
  rw [hS2] at hon2 hn2 hq2
  have HS1 := Lib.hid hs1
  have HS2 := Lib.hid hS2
  have HOF2 := Lib.hid hon2
  have HN2 := Lib.hid hn2
  have HQ2 := Lib.hid hq2
  clear hsy hs1 hon2 hn2 hq2 hS2
  go_wp2_with fail
  refine (sync_own HO5.out.acc).mono ?_
  rw [HS1.out, HS2.out]
  rintro e w6 ⟨rfl, ho⟩
  have HO6 := Lib.hid ho
  clear ho
  go_wp2_with fail
  refine (contents_acc n HO6.out.acc HOF2.out HN2.out.symm).mono ?_
  rintro e w7 ⟨b1, cc1, cur1, rfl, hst, hbl, hcu, hcc, hcz, hlo, hhi, hb⟩
  have HST1 := Lib.hid hst
  have HBL1 := Lib.hid hbl
  have HCU1 := Lib.hid hcu
  have HCZ1 := Lib.hid hcz
  have HLO1 := Lib.hid hlo
  have HHI1 := Lib.hid hhi
  have HCC1 := Lib.hid hcc
  have HP1 := Lib.hid (HO6.out.fresh hb hlo hhi)
  clear hst hbl hcu hcc hcz hlo hhi hb
  go_wp2_with fail
  refine (rot_own sec at_ mask HP1.out.acc).mono ?_
  rintro e w8 ⟨rfl, ho⟩
  have HO8 := Lib.hid ho
  clear ho
  have hof3 : (S2.rot sec at_ mask).off = false := by rw [rot_off]; exact HOF2.out
  have hn3 : (S2.rot sec at_ mask).n = n := by rw [rot_n]; exact HN2.out
  have HRR := Lib.hid (rot_rot S2 sec at_ mask)
  have HRV := Lib.hid (rot_bits S2 sec at_ mask HQ2.out HO6.out.good)
  obtain ⟨S3, hS3⟩ : ∃ S, S2.rot sec at_ mask = S := ⟨_, rfl⟩
  rw [hS3] at hof3 hn3 HRR HRV HO8
  have HOF3 := Lib.hid hof3
  have HN3 := Lib.hid hn3
  clear hof3 hn3 hS3
  go_wp2_with fail
  refine (contents_acc n HO8.out.acc HOF3.out HN3.out.symm).mono ?_
  rintro e w9 ⟨b2, cc2, cur2, rfl, hst, hbl, hcu, hcc, hcz, hlo, hhi, hb⟩
  have HST2 := Lib.hid hst
  have HBL2 := Lib.hid hbl
  have HCU2 := Lib.hid hcu
  have HCZ2 := Lib.hid hcz
  have HLO2 := Lib.hid hlo
  have HHI2 := Lib.hid hhi
  have HCC2 := Lib.hid hcc
  have HP2 := Lib.hid (HO8.out.fresh hb hlo hhi)
  clear hst hbl hcu hcc hcz hlo hhi hb
  go_wp2_with fail
  refine (rot_own sec at_ mask HP2.out.acc).mono ?_
  rw [HRR.out]
  rintro e w10 ⟨rfl, ho⟩
  have HO10 := Lib.hid ho
  clear ho
  go_wp2_with fail
  refine (contents_acc n HO10.out.acc HOF2.out HN2.out.symm).mono ?_
  rintro e w11 ⟨b3, cc3, cur3, rfl, hst, hbl, hcu, hcc, hcz, hlo, hhi, hb⟩
  have HST3 := Lib.hid hst
  have HBL3 := Lib.hid hbl
  have HCU3 := Lib.hid hcu
  have HCZ3 := Lib.hid hcz
  have HLO3 := Lib.hid hlo
  have HHI3 := Lib.hid hhi
  have HCC3 := Lib.hid hcc
  have HP3 := Lib.hid (HO10.out.fresh hb hlo hhi)
  clear hst hbl hcu hcc hcz hlo hhi hb
  have hsm := same_at n b1 b3 cc1 cc3 S2.views S2.views w11 (HP3.out.strs HST1.out (by simp)) HST3.out (by rw [views_length, HN2.out]) (by rw [views_length, HN2.out]) (by omega)
  rw [decide_eq_true (rfl : S2.views = S2.views)] at hsm
  have HSM := Lib.hid hsm
  clear hsm
  go_wp2_with fail
  refine HSM.out.mono ?_
  rintro e w12 ⟨rfl, hb12⟩
  have HO12 := Lib.hid (HP3.out.below hb12)
  clear hb12 HSM
  obtain ⟨vs, hvs⟩ : ∃ vs, S2.views = vs := ⟨_, rfl⟩
  obtain ⟨us, hus⟩ : ∃ us, S3.views = us := ⟨_, rfl⟩
  have hvl : vs.length = n := by rw [← hvs, views_length, HN2.out]
  have hul : us.length = n := by rw [← hus, views_length, HN3.out]
  rw [hvs] at HST1 HRV
  rw [hus] at HST2 HRV
  have HA1 := Lib.hid (HO12.out.strs HST1.out (by simp))
  have HA2 := Lib.hid (HO12.out.strs HST2.out (by simp))
  have HVL := Lib.hid hvl
  have HUL := Lib.hid hul
  clear hvl hul hvs hus
  have hpart : (0 ≤ sec ∧ sec < n ∧ 0 ≤ at_ ∧ at_ < 64 ∧ 1 ≤ mask ∧ mask ≤ 255) ∨ ((0 ≤ sec ∧ sec < n ∧ 0 ≤ at_ ∧ at_ < 64 ∧ 1 ≤ mask ∧ 255 < mask) ∨ (0 ≤ sec ∧ sec < n ∧ 0 ≤ at_ ∧ at_ < 64 ∧ mask < 1) ∨ (0 ≤ sec ∧ sec < n ∧ 0 ≤ at_ ∧ 64 ≤ at_) ∨ (0 ≤ sec ∧ sec < n ∧ at_ < 0) ∨ (0 ≤ sec ∧ n ≤ sec) ∨ sec < 0) := by omega
  rcases hpart with ⟨q1, q2, q3, q4, q5, q6⟩ | hpart
  · go_wp2_with fail
    go_loopw [22] (fun u wr => ∃ (k q : Nat), k ≤ n ∧ u = .int .i64 k ∧ wr = w12.drewN q) (fun u _ => n - (intOf u).toNat)
    case atStart => exact ⟨0, 0, Nat.zero_le _, rfl, rfl⟩
    case round =>
    obtain ⟨i, qi, hi, rfl, rfl⟩ := hrel
    by_cases hlt : i < n
    · obtain ⟨v, hv⟩ := get_some vs i (by rw [HVL.out]; exact hlt)
      obtain ⟨u, hu⟩ := get_some us i (by rw [HUL.out]; exact hlt)
      obtain ⟨bx, ox, hbo, hc1⟩ := HA1.out.at_ hv
      obtain ⟨rfl, rfl⟩ : b1 = bx ∧ 0 = ox := by simpa using hbo
      obtain ⟨by_, oy, hbo2, hc2⟩ := HA2.out.at_ hu
      obtain ⟨rfl, rfl⟩ : b2 = by_ ∧ 0 = oy := by simpa using hbo2
      rw [Nat.zero_add] at hc1 hc2
      obtain ⟨hvz, huz, hbits⟩ := HRV.out i v u hv hu
      have HBITS := Lib.hid hbits
      have hvz1 : 64 ≤ v.size := by omega
      have huz1 : 64 ≤ u.size := by omega
      clear hv hu hbo hbo2 hbits hvz huz
      go_wp2_with fail
      go_loopw [23] (fun u wr => ∃ (k q : Nat), k ≤ 64 ∧ u = .int .i64 k ∧ wr = w12.drewN q) (fun u _ => 64 - (intOf u).toNat)
      case atStart => exact ⟨0, qi, Nat.zero_le _, rfl, rfl⟩
      case round =>
      obtain ⟨k, qk, hk, rfl, rfl⟩ := hrel
      by_cases hlt2 : k < 64
      · have hk1 : k < v.size := by omega
        have hk2 : k < u.size := by omega
        · by_cases hik : (i : Int) = sec ∧ (k : Int) = at_
          · obtain ⟨e1, e2⟩ := hik
            have t1 : ((i : Int) == sec) = true := by simpa using e1
            have t2 : ((k : Int) == at_) = true := by simpa using e2
            have hb := HBITS.out k hk1 hk2
            rw [HN2.out, if_pos ⟨⟨q1, q2, q3, q4, q5, q6⟩, e1, e2⟩, ← bx] at hb
            have t3 : (wrap64 (bits BinOp.xor IntKind.u8 ↑v[k].toNat ↑u[k].toNat) != mask) = false := by simpa using hb
            have t4 : (wrap64 (bits BinOp.xor IntKind.u8 ↑v[k].toNat ↑u[k].toNat) == mask) = true := by simpa using hb
            clear e1 e2 hb
            go_wp2_with fail
            go_quiet (fail)
            go_wp2_with fail
            go_roundw
            case rel => exact ⟨k + 1, _, by omega, by go_num, rfl⟩
            case measure => simp [intOf]; omega
          · have hb := HBITS.out k hk1 hk2
            rw [HN2.out, if_neg (fun h => hik h.2), ← bx] at hb
            have t3 : (wrap64 (bits BinOp.xor IntKind.u8 ↑v[k].toNat ↑u[k].toNat) != 0) = false := by simpa using hb
            have t4 : (wrap64 (bits BinOp.xor IntKind.u8 ↑v[k].toNat ↑u[k].toNat) == 0) = true := by simpa using hb
            clear hb
            by_cases e1 : (i : Int) = sec
            · have t1 : ((i : Int) == sec) = true := by simpa using e1
              have t2 : ((k : Int) == at_) = false := by
                simp only [beq_eq_false_iff_ne, ne_eq]
                exact fun e2 => hik ⟨e1, e2⟩
              clear e1 hik
              go_wp2_with fail
              go_quiet (fail)
              go_wp2_with fail
              go_roundw
              case rel => exact ⟨k + 1, _, by omega, by go_num, rfl⟩
              case measure => simp [intOf]; omega
            · have t1 : ((i : Int) == sec) = false := by simpa using e1
              clear e1 hik
              go_wp2_with fail
              go_quiet (fail)
              go_wp2_with fail
              go_roundw
              case rel => exact ⟨k + 1, _, by omega, by go_num, rfl⟩
              case measure => simp [intOf]; omega
      · obtain rfl : k = 64 := by omega
        go_wp2_with fail
        go_roundw
        case rel => exact ⟨i + 1, _, by omega, by go_num, rfl⟩
        case measure => simp [intOf]; omega
    · obtain rfl : i = n := by omega
      go_wp2
      go_ret
      exact ⟨rfl, below_drewN HO12.out.base _⟩
  · have HNV : Hid (¬ (0 ≤ sec ∧ sec < n ∧ 0 ≤ at_ ∧ at_ < 64 ∧ 1 ≤ mask ∧ mask ≤ 255)) := Lib.hid (by omega)
    rcases hpart with ⟨q1, q2, q3, q4, q5, q6⟩ | ⟨q1, q2, q3, q4, q5⟩ | ⟨q1, q2, q3, q4⟩ | ⟨q1, q2, q3⟩ | ⟨q1, q2⟩ | q1
    all_goals
      try have hd : decide (mask ≤ 255) = false := by (simp only [decide_eq_false_iff_not]; omega)
      go_wp2_with fail
      go_loopw [22] (fun u wr => ∃ (k q : Nat), k ≤ n ∧ u = .int .i64 k ∧ wr = w12.drewN q) (fun u _ => n - (intOf u).toNat)
      case atStart => exact ⟨0, 0, Nat.zero_le _, rfl, rfl⟩
      case round =>
      obtain ⟨i, qi, hi, rfl, rfl⟩ := hrel
      by_cases hlt : i < n
      · obtain ⟨v, hv⟩ := get_some vs i (by rw [HVL.out]; exact hlt)
        obtain ⟨u, hu⟩ := get_some us i (by rw [HUL.out]; exact hlt)
        obtain ⟨bx, ox, hbo, hc1⟩ := HA1.out.at_ hv
        obtain ⟨rfl, rfl⟩ : b1 = bx ∧ 0 = ox := by simpa using hbo
        obtain ⟨by_, oy, hbo2, hc2⟩ := HA2.out.at_ hu
        obtain ⟨rfl, rfl⟩ : b2 = by_ ∧ 0 = oy := by simpa using hbo2
        rw [Nat.zero_add] at hc1 hc2
        obtain ⟨hvz, huz, hbits⟩ := HRV.out i v u hv hu
        have HBITS := Lib.hid hbits
        have hvz1 : 64 ≤ v.size := by omega
        have huz1 : 64 ≤ u.size := by omega
        clear hv hu hbo hbo2 hbits hvz huz
        go_wp2_with fail
        go_loopw [23] (fun u wr => ∃ (k q : Nat), k ≤ 64 ∧ u = .int .i64 k ∧ wr = w12.drewN q) (fun u _ => 64 - (intOf u).toNat)
        case atStart => exact ⟨0, qi, Nat.zero_le _, rfl, rfl⟩
        case round =>
        obtain ⟨k, qk, hk, rfl, rfl⟩ := hrel
        by_cases hlt2 : k < 64
        · have hk1 : k < v.size := by omega
          have hk2 : k < u.size := by omega
          · have hb := HBITS.out k hk1 hk2
            rw [HN2.out, if_neg (fun h => HNV.out h.1), ← bx] at hb
            have t3 : (wrap64 (bits BinOp.xor IntKind.u8 ↑v[k].toNat ↑u[k].toNat) != 0) = false := by simpa using hb
            have t4 : (wrap64 (bits BinOp.xor IntKind.u8 ↑v[k].toNat ↑u[k].toNat) == 0) = true := by simpa using hb
            clear hb
            go_wp2_with fail
            go_quiet (fail)
            go_wp2_with fail
            go_roundw
            case rel => exact ⟨k + 1, _, by omega, by go_num, rfl⟩
            case measure => simp [intOf]; omega
        · obtain rfl : k = 64 := by omega
          go_wp2_with fail
          go_roundw
          case rel => exact ⟨i + 1, _, by omega, by go_num, rfl⟩
          case measure => simp [intOf]; omega
      · obtain rfl : i = n := by omega
        go_wp2
        go_ret
        exact ⟨rfl, below_drewN HO12.out.base _⟩

end Go.Proofs.Ytomcjohdenjljaa
