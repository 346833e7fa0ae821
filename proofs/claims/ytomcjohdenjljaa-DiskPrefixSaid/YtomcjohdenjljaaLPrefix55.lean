/- The law DiskPrefix: the walk. -/
import Derived.Test.YtomcjohdenjljaaNext55
namespace Go.Proofs.Ytomcjohdenjljaa
open Go.RowKit

set_option maxRecDepth 100000 in
set_option maxHeartbeats 200000000 in
theorem prefix_walk (r : UInt8) (A : Option Addr) (c : Nat) (l : List AC) (B : Option Addr) (c2 : Nat) (m : List AC) (x y : UInt8) (w : World) (hl : Acs w A l) (hll : l.length ≤ 9223372036854775807) (hfitl : fits l) (hm : Acs w B m) (hlm : m.length ≤ 9223372036854775807) (hfitm : fits m) :
    Calls Try.prog 5 #[.int .u8 r.toNat, .slice A l.length c, .slice B m.length c2, .int .u8 x.toNat, .int .u8 y.toNat] w fun e w' => e = .returned (.bool true) ∧ Below w.heap.size w w' := by
  obtain ⟨W, rfl⟩ : ∃ W, W = w := ⟨_, rfl⟩
  have HAl : Hid (∀ w', Below W.heap.size W w' → Acs w' A l) := fun w' hb => hl.below hb
  clear hl
  obtain ⟨vl, hvl⟩ : ∃ v, okB l = v := ⟨_, rfl⟩
  have HVl := Lib.hid hvl
  clear hvl
  have HAm : Hid (∀ w', Below W.heap.size W w' → Acs w' B m) := fun w' hb => hm.below hb
  clear hm
  obtain ⟨vm, hvm⟩ : ∃ v, okB m = v := ⟨_, rfl⟩
  have HVm := Lib.hid hvm
  clear hvm
  obtain ⟨n, hn⟩ : ∃ n, nOf r = n := ⟨_, rfl⟩
  have hn1 := nOf_lo r
  have hn2 := nOf_hi r
  have hsize := size_nOf r
  rw [hn] at hn1 hn2 hsize
  have HSIZE := Lib.hid hsize
  clear hn hsize
  obtain ⟨rv, hrv⟩ : ∃ rv, r.toNat = rv := ⟨_, rfl⟩
  rw [hrv] at HSIZE ⊢
  clear hrv
  have hx1 := x.toNat_lt
  have hy1 := y.toNat_lt
  obtain ⟨xv, hxv⟩ : ∃ v, x.toNat = v := ⟨_, rfl⟩
  obtain ⟨yv, hyv⟩ : ∃ v, y.toNat = v := ⟨_, rfl⟩
  rw [hxv] at hx1 ⊢
  rw [hyv] at hy1 ⊢
  clear hxv hyv
  obtain ⟨wri, hwri⟩ : ∃ v, xv % 61 = v := ⟨_, rfl⟩
  obtain ⟨byt0, hbyt⟩ : ∃ v, yv % 33 = v := ⟨_, rfl⟩
  have hw1 : wri ≤ 60 := by omega
  have hb1' : byt0 ≤ 32 := by omega
  have HXW : Hid ((xv : Int) % 61 = (wri : Int)) := Lib.hid (by omega)
  have HYB : Hid ((yv : Int) % 33 = (byt0 : Int)) := Lib.hid (by omega)
  clear hwri hbyt
  obtain ⟨hon2, hn2', hq2, hs1⟩ := S2of_on n l
  have hS2w := S2of_wq n l
  obtain ⟨S2, hS2⟩ : ∃ S, S2of n l = S := ⟨_, rfl⟩
  rw [hS2] at hon2 hn2' hq2 hS2w
  have HON2 := Lib.hid hon2
  have HN2 := Lib.hid hn2'
  have HQ2 := Lib.hid hq2
  have HS1 := Lib.hid hs1
  have HS2 := Lib.hid hS2
  have HS2W := Lib.hid hS2w
  clear hon2 hn2' hq2 hs1 hS2 hS2w
  go_enter Try.func5, Try.ntmps5
  go_wp2_with fail
  refine (head_any _).mono ?_
  rintro e w1 ⟨rfl, hb1⟩
  have HB1 := Lib.hid hb1
  clear hb1
  go_wp2_with fail
  have hokl := ok_any A c l w1 (HAl.out w1 HB1.out) hll
  rw [HVl.out] at hokl
  refine hokl.mono ?_
  rintro e _ ⟨rfl, rfl⟩
  clear hokl
  cases vl with
  | false =>
    go_wp2
    go_ret
    exact ⟨rfl, HB1.out⟩
  | true =>
  go_wp2_with fail
  have hokm := ok_any B c2 m w1 (HAm.out w1 HB1.out) hlm
  rw [HVm.out] at hokm
  refine hokm.mono ?_
  rintro e _ ⟨rfl, rfl⟩
  clear hokm
  cases vm with
  | false =>
    go_wp2
    go_ret
    exact ⟨rfl, HB1.out⟩
  | true =>
  go_wp2_with fail
  refine (HSIZE.out _).mono ?_
  rintro e _ ⟨rfl, rfl⟩
  go_wp2_with fail
  rw [HXW.out, HYB.out]
  go_wp2_with fail
  refine (new_own W n hn1 (by omega) w1 HB1.out).mono ?_
  rintro e w3 ⟨d, rfl, ho⟩
  have HO := Lib.hid ho
  clear ho
  have HDO := Lib.hid (fun k a wr (hk : l[k]? = some a) (ho : Own W wr d (acts (DS.new n) (l.take k)) []) => do_step HVl.out hfitl n k a hk ho.acc)
  go_wp2_with fail
  go_loopw [16] (fun u wr => ∃ k : Nat, k ≤ l.length ∧ u = .int .i64 k ∧ Own W wr d (acts (DS.new n) (l.take k)) []) (fun u _ => l.length - (intOf u).toNat)
  case atStart => exact ⟨0, Nat.zero_le _, rfl, HO.out⟩
  case round =>
  obtain ⟨k, hk, rfl, ho⟩ := hrel
  have HOW := Lib.hid ho
  clear ho
  by_cases hlt : k < l.length
  · obtain ⟨a, ha⟩ := get_some l k hlt
    obtain ⟨b, off, rfl, c0, c1, c2, c3, c4, c5⟩ := (HAl.out _ HOW.out.base).at_ ha
    have HAK := Lib.hid ha
    clear ha
    go_wp2_with fail
    refine (HDO.out k a wr HAK.out HOW.out).mono ?_
    rintro e w4 ⟨⟨s4, c4, rfl⟩, ho4⟩
    have HO4 := Lib.hid ho4
    clear ho4
    go_wp2
    go_roundw
    case rel => exact ⟨k + 1, by omega, by go_num, HO4.out⟩
    case measure => simp [intOf]; omega
  obtain rfl : k = l.length := by omega
  go_wp2_with fail
  refine (start_own HOW.out.acc).mono ?_
  rintro e w5 ⟨rfl, ho5⟩
  rw [List.take_length] at ho5
  have HO5 := Lib.hid ho5
  clear ho5 HOW
  go_wp2_with fail
  refine (sync_own HO5.out.acc).mono ?_
  rw [HS1.out]
  rintro e w6 ⟨rfl, ho⟩
  have HO6 : Hid (Own W w6 d (S2.wq []) []) := Lib.hid (by rw [← HS2W.out, ← HS2.out]; exact ho)
  clear ho
  have HG2 : Hid S2.ok := Lib.hid (by have := HO6.out.good; rw [← HS2W.out] at this; exact this)
  have hm60 := okB_len HVm.out
  obtain ⟨wa, hwa⟩ : ∃ wa, w6.alloc (.cells #[.int .i64 0, .int .i64 (-1), .int .i64 0, .string ⟨#[]⟩, .bool false, .int .i64 0] 34) = wa := ⟨_, rfl⟩
  obtain ⟨bn, hbn⟩ : ∃ bn, w6.heap.size = bn := ⟨_, rfl⟩
  have HOA : Hid (Own W wa d (S2.wq []) [(bn, wa)]) := Lib.hid (by rw [← hwa, ← hbn]; exact HO6.out.box _)
  have HBA : Hid (Blk wa bn 34 nilAct.cells.toArray) := Lib.hid (by rw [← hwa, ← hbn]; exact Blk.new _ _ _ _ rfl)
  have HWA := Lib.hid hwa
  have HBN := Lib.hid hbn
  clear hwa hbn
  go_wp2_with fail
  rw [HWA.out, HBN.out]
  go_loopw [17, 19] (fun u17 u19 wr => ∃ (k j : Nat), k ≤ m.length ∧ u19 = .int .i64 k ∧ u17 = .int .i64 j ∧ j = (wqs n (m.take k)).length ∧ Own W wr d (S2.wq (wqs n (m.take k))) [(bn, wr)] ∧ Blk wr bn 34 (nxt n wri (m.take k)).cells.toArray) (fun _ u19 _ => m.length - (intOf u19).toNat)
  case atStart => exact ⟨0, 0, Nat.zero_le _, rfl, rfl, rfl, HOA.out, HBA.out⟩
  case round =>
  obtain ⟨k, j, hk, rfl, rfl, hj, ho, hbl⟩ := hrel
  have HOW := Lib.hid ho
  have HJ := Lib.hid hj
  have HBL := Lib.hid hbl
  have hjk : j ≤ 60 := by rw [hj]; exact Nat.le_trans (wqs_len _ _) (by rw [List.length_take]; omega)
  clear ho hj hbl
  by_cases hlt : k < m.length
  · obtain ⟨a, ha⟩ := get_some m k hlt
    have hww := wq_write S2 HON2.out (wqs n (m.take k)) a
    rw [HN2.out] at hww
    have HWW := Lib.hid hww
    have HYES := Lib.hid (fun h => wqs_yes (n := n) ha h)
    have HNO := Lib.hid (fun h => wqs_no (n := n) ha h)
    have HNY := Lib.hid (fun h => nxt_yes (n := n) (j := wri) ha h)
    have HNN := Lib.hid (fun h => nxt_no (n := n) (j := wri) ha h)
    clear hww
    obtain ⟨kind, sec, byt, tex, od, af⟩ := a
    obtain ⟨b, off, rfl, c0, c1, c2, c3, c4, c5⟩ := (HAm.out _ HOW.out.base).at_ ha
    dsimp only at c0 c1 c2 c3 c4 c5
    have hxl := lt_of_cell c0
    have HXA : Hid (∀ w', Below W.heap.size W w' → w'.cell? ⟨b, off + k * 6, none⟩ = some (.int .i64 kind) ∧ w'.cell? ⟨b, off + k * 6 + 1, none⟩ = some (.int .i64 sec) ∧ w'.cell? ⟨b, off + k * 6 + 2, none⟩ = some (.int .i64 byt) ∧ w'.cell? ⟨b, off + k * 6 + 3, none⟩ = some (.string tex) ∧ w'.cell? ⟨b, off + k * 6 + 4, none⟩ = some (.bool od) ∧ w'.cell? ⟨b, off + k * 6 + 5, none⟩ = some (.int .i64 af)) := Lib.hid (fun w' hb => by
      obtain ⟨b', off', hbo, y0, y1, y2, y3, y4, y5⟩ := (HAm.out w' hb).at_ ha
      obtain ⟨rfl, rfl⟩ : b = b' ∧ off = off' := by simpa using hbo
      exact ⟨y0, y1, y2, y3, y4, y5⟩)
    obtain ⟨tx, htx⟩ : ∃ tx, AC.txt ⟨kind, sec, byt, tex, od, af⟩ = tx := ⟨_, rfl⟩
    have HTX : Hid (∀ w, Calls Try.prog 24 #[.agg #[.int .i64 kind, .int .i64 sec, .int .i64 byt, .string tex, .bool od, .int .i64 af]] w fun e w' => e = .returned (.string tx) ∧ Below w.heap.size w w') := by
      intro w
      rw [← htx]
      exact act_text HVm.out k ⟨kind, sec, byt, tex, od, af⟩ ha w
    have HTXE := Lib.hid htx
    have HAK := Lib.hid ha
    clear htx ha
    have HD : Hid (∀ w', Below wr.drew.heap.size wr.drew w' → Own W w' d (S2.wq (wqs n (m.take k))) [(bn, wr)]) := fun w' hb => HOW.out.below (below_trans (Below.drew (Below.refl _ _)) hb)
    have HXB := Lib.hid (fun w' (hb : Below wr.drew.heap.size wr.drew w') => HXA.out w' (HOW.out.base.drew.trans (hb.mono HOW.out.base.size)))
    obtain ⟨cv, S', hcs⟩ : ∃ cv T, DS.write (S2.wq (wqs n (m.take k))) sec tx = (cv, T) := ⟨_, _, rfl⟩
    have HWR : Hid (∀ w', Own W w' d (S2.wq (wqs n (m.take k))) [(bn, wr)] → Calls Try.prog 23 #[.pointer (some ⟨d, 0, none⟩), .int .i64 sec, .string tx] w' fun e w'' => e = .returned (.int .i64 cv) ∧ Own W w'' d S' [(bn, wr)]) := by
      intro w' hw
      have := write_own sec tx hw.acc (by show (wqs n (m.take k)).length < 1000000; have := HJ.out; omega)
      rw [hcs] at this
      exact this
    have HCS := Lib.hid hcs
    clear hcs
    go_wp2_with fail
    go_region_held3 (fun w' => w'.cell? ⟨b, off + k * 6, none⟩ = some (.int .i64 kind) ∧ w'.cell? ⟨b, off + k * 6 + 1, none⟩ = some (.int .i64 sec) ∧ w'.cell? ⟨b, off + k * 6 + 2, none⟩ = some (.int .i64 byt) ∧ w'.cell? ⟨b, off + k * 6 + 3, none⟩ = some (.string tex) ∧ w'.cell? ⟨b, off + k * 6 + 4, none⟩ = some (.bool od) ∧ w'.cell? ⟨b, off + k * 6 + 5, none⟩ = some (.int .i64 af))
      (first
        | go_keep
        | (go_split_ands
           exact HXB.out _ hbt)
        | (go_split_ands
           exact HXA.out _ hto.base))
      (first
        | (go_at_call 24; refine (HTX.out _).mono ?_; rintro e wt ⟨rfl, hbt⟩)
        | (go_at_call 23; refine (HWR.out _ (HD.out _ hbt)).mono ?_; rintro e wv ⟨rfl, hto⟩))
    all_goals
      have HOV := Lib.hid hto
      clear hto hbt
      rcases HWW.out with ⟨h1, h2⟩ | ⟨h1, h2⟩
      all_goals
        try dsimp only at h2
        rw [HTXE.out, HCS.out] at h2
        simp only [Prod.mk.injEq] at h2
        obtain ⟨rfl, h4⟩ := h2
      · have HOV' : Hid (Own W wv d (S2.wq (wqs n (m.take (k + 1)))) [(bn, wr)]) := Lib.hid (by rw [HYES.out h1, ← h4]; exact HOV.out)
        have HJ' : Hid (j + 1 = (wqs n (m.take (k + 1))).length) := Lib.hid (by rw [HYES.out h1, List.length_append, ← HJ.out]; rfl)
        have hbv := HOV'.out.blk (List.mem_cons_self) HBL.out
        by_cases hjw : j = wri
        · have t1 : ((j : Int) == (wri : Int)) = true := by simp [hjw]
          have hnx : nxt n wri (m.take (k + 1)) = ⟨kind, sec, byt, tex, od, af⟩ := by rw [HNY.out h1, if_pos (by rw [← HJ.out]; exact hjw)]
          have HBV := Lib.hid hbv
          have HBV' := Lib.hid (hbv.row #[.int .i64 kind, .int .i64 sec, .int .i64 byt, .string tex, .bool od, .int .i64 af])
          have HOV2 := Lib.hid (HOV'.out.row (by simp) #[.int .i64 kind, .int .i64 sec, .int .i64 byt, .string tex, .bool od, .int .i64 af])
          have HNX := Lib.hid hnx
          obtain ⟨nx, hnx2⟩ : ∃ nx, nxt n wri (m.take k) = nx := ⟨_, rfl⟩
          rw [hnx2] at HBV
          clear hnx2 hjw hnx hbv h1 h4 c0 c1 c2 c3 c4 c5
          obtain ⟨c0, c1, c2, c3, c4, c5⟩ := HXA.out _ HOV.out.base
          go_wp2_with (refine wpList_store_row rfl 34 (.tmp 18) (.tmp 86) rfl bn #[.int .i64 kind, .int .i64 sec, .int .i64 byt, .string tex, .bool od, .int .i64 af] rfl rfl 34 nx.cells.toArray HBV.out info_act rfl (by simp [Value.oneCell']) ?_)
          go_roundw
          case rel => exact ⟨k + 1, j + 1, by omega, by go_num, by go_num, HJ'.out, HOV2.out, by rw [HNX.out]; exact HBV'.out⟩
          case measure => simp [intOf]; omega
        · have t1 : ((j : Int) == (wri : Int)) = false := by simp; omega
          have HBV' : Hid (Blk wv bn 34 (nxt n wri (m.take (k + 1))).cells.toArray) := Lib.hid (by rw [HNY.out h1, if_neg (by rw [← HJ.out]; exact hjw)]; exact hbv)
          clear h1 h4 hbv hjw c0 c1 c2 c3 c4 c5
          go_wp2_with fail
          go_roundw
          case rel => exact ⟨k + 1, j + 1, by omega, by go_num, by go_num, HJ'.out, HOV'.out.now, HBV'.out⟩
          case measure => simp [intOf]; omega
      · have HOV' : Hid (Own W wv d (S2.wq (wqs n (m.take (k + 1)))) [(bn, wr)]) := Lib.hid (by rw [HNO.out h1, ← h4]; exact HOV.out)
        have HJ' : Hid (j = (wqs n (m.take (k + 1))).length) := Lib.hid (by rw [HNO.out h1]; exact HJ.out)
        have HBV' : Hid (Blk wv bn 34 (nxt n wri (m.take (k + 1))).cells.toArray) := Lib.hid (by rw [HNN.out h1]; exact HOV'.out.blk (List.mem_cons_self) HBL.out)
        clear h1 h4 c0 c1 c2 c3 c4 c5
        go_wp2_with fail
        go_roundw
        case rel => exact ⟨k + 1, j, by omega, by go_num, rfl, HJ'.out, HOV'.out.now, HBV'.out⟩
        case measure => simp [intOf]; omega
  obtain rfl : k = m.length := by omega
  rw [List.take_length] at HOW HBL
  clear HJ
  go_wp2_with fail
  refine (fail_own (wri : Int) (byt0 : Int) HOW.out.acc).mono ?_
  rintro e w9 ⟨rfl, ho⟩
  have HO9 := Lib.hid ho
  clear ho
  go_wp2_with fail
  refine (start_own HO9.out.acc).mono ?_
  rintro e w10 ⟨rfl, ho⟩
  have HO10 := Lib.hid ho
  clear ho
  have hpart := nxt_part n wri m
  have HPN := Lib.hid (fun hn => prefix_none S2 HON2.out.1 HG2.out (wqs n m) (by rw [HN2.out]; exact wqs_in n m) wri byt0 hn)
  have HPS := Lib.hid (fun s t v hp hv => prefix_some S2 HON2.out.1 HG2.out (wqs n m) (by rw [HN2.out]; exact wqs_in n m) wri byt0 (by omega) s t v hp hv)
  have hof4 : ((S2.wq (wqs n m)).fail wri byt0).start.off = false := rfl
  have hn4 : ((S2.wq (wqs n m)).fail wri byt0).start.n = n := (fail_n _ _ _).trans HN2.out
  obtain ⟨S4, hS4⟩ : ∃ T, ((S2.wq (wqs n m)).fail (wri : Int) (byt0 : Int)).start = T := ⟨_, rfl⟩
  rw [hS4] at hof4 hn4 HO10 HPN HPS
  have HOF4 := Lib.hid hof4
  have HN4 := Lib.hid hn4
  have HPART := Lib.hid hpart
  clear hof4 hn4 hS4 hpart
  go_wp2_with fail
  refine (contents_acc n HO10.out.acc HOF4.out HN4.out.symm).mono ?_
  rintro e w11 ⟨b1, cc1, cur1, rfl, hst, hbl, hcu, hcc, hcz, hlo, hhi, hb⟩
  have HST1 := Lib.hid hst
  have HBL1 := Lib.hid hbl
  have HCU1 := Lib.hid hcu
  have HCZ1 := Lib.hid hcz
  have HLO1 := Lib.hid hlo
  have HHI1 := Lib.hid hhi
  have HCC1 := Lib.hid hcc
  have HP1 := Lib.hid (HO10.out.fresh hb hlo hhi)
  clear hst hbl hcu hcc hcz hlo hhi hb
  have hpc := prefix_any n hn1 hn2 A c l B c2 m (wri : Int) w11 (HAl.out _ HP1.out.base) (HAm.out _ HP1.out.base) hll hlm hfitl (by omega) HVl HVm
  rw [HS2.out, Int.toNat_natCast] at hpc
  have HPC := Lib.hid hpc
  clear hpc
  go_wp2_with fail
  refine HPC.out.mono ?_
  rintro e w12 ⟨b2, cc2, cur2, rfl, hst, hbl, hcu, hcc, hcz, hlo, hhi, hb⟩
  have HO12 := Lib.hid (HP1.out.fresh hb hlo hhi)
  have HST2 := Lib.hid hst
  have HBL2 := Lib.hid hbl
  have HCU2 := Lib.hid hcu
  have HZ2 : Hid (n ≤ cur2.size) := Lib.hid (by rw [hcz]; exact hcc)
  have HNE : Hid (b1 ≠ b2) := Lib.hid (by have := HHI1.out; omega)
  have HNE2 : Hid (bn ≠ b2) := Lib.hid (by have := HBL.out.lt; have := HO12.out; intro e; subst e; have h9 := (HP1.out.blk (by simp) HBL.out).lt; omega)
  clear hst hbl hcu hcc hcz hlo hhi hb HPC
  have HBX := Lib.hid (HO12.out.blk (by simp) HBL.out)
  rcases HPART.out with ⟨h1, h2⟩ | ⟨a, h1, h2, h3, h4⟩
  · rw [h1] at HBX
    have g1 := HBX.out.cell 1
    simp only [AC.cells, nilAct, List.getElem?_toArray, List.getElem?_cons_zero, List.getElem?_cons_succ] at g1
    have hgl := lt_of_cell g1
    have hvs := HPN.out h2
    have hsm := same_at n b1 b2 cc1 cc2 S4.views ((S2.wq ((wqs n m).take wri)).views) w12 (HO12.out.strs HST1.out (by simp)) HST2.out (by rw [views_length, HN4.out]) (by rw [views_length]; exact HN2.out) (by omega)
    rw [hvs, decide_eq_true rfl] at hsm
    have HSM := Lib.hid hsm
    clear hsm hvs h1 h2
    go_wp2_with fail
    refine HSM.out.mono ?_
    rintro e w13 ⟨rfl, hb13⟩
    have HB13 := Lib.hid (HO12.out.base.trans (hb13.mono HO12.out.base.size))
    clear hb13
    go_wp2
    go_ret
    exact ⟨rfl, HB13.out⟩
  · rw [h1] at HBX
    have hok := okw_true h3
    have h4' := h4
    obtain ⟨kind, sec, byt, tex, od, af⟩ := a
    obtain ⟨tx, htx⟩ : ∃ tx, AC.txt ⟨kind, sec, byt, tex, od, af⟩ = tx := ⟨_, rfl⟩
    have HTX : Hid (∀ w, Calls Try.prog 24 #[.agg #[.int .i64 kind, .int .i64 sec, .int .i64 byt, .string tex, .bool od, .int .i64 af]] w fun e w' => e = .returned (.string tx) ∧ Below w.heap.size w w') := by
      intro w
      rw [← htx]
      exact text_any ⟨kind, sec, byt, tex, od, af⟩ w (okB_text HVm.out _ h2)
    unfold toq at h4'
    rw [htx] at hok h4'
    try dsimp only at hok h4'
    obtain ⟨q1, q2, q3⟩ := hok
    obtain ⟨s, rfl⟩ : ∃ s : Nat, sec = s := ⟨sec.toNat, by omega⟩
    rw [Int.toNat_natCast] at h4'
    have hsn : s < n := by omega
    obtain ⟨us, hus⟩ : ∃ us, (S2.wq ((wqs n m).take wri)).views = us := ⟨_, rfl⟩
    have hul : us.length = n := by rw [← hus, views_length]; exact HN2.out
    obtain ⟨v, hv⟩ := get_some us s (by omega)
    obtain ⟨hvz, _, hvs⟩ := HPS.out s tx v h4' (by rw [hus]; exact hv)
    rw [hus] at hvs HST2 HCU2
    have HVS := Lib.hid hvs
    have HUL := Lib.hid hul
    have hvz1 : v.size ≤ 64 := by omega
    have hvz2 : byt0 ≤ v.size := by omega
    have htz1 : byt0 ≤ tx.size := by omega
    have htz2 : tx.size ≤ 64 := by omega
    have HVZ := Lib.hid hvz
    have g0 := HBX.out.cell 0
    have g1 := HBX.out.cell 1
    have g2 := HBX.out.cell 2
    have g3 := HBX.out.cell 3
    have g4 := HBX.out.cell 4
    have g5 := HBX.out.cell 5
    simp only [AC.cells, List.getElem?_toArray, List.getElem?_cons_zero, List.getElem?_cons_succ] at g0 g1 g2 g3 g4 g5
    have hgl := lt_of_cell g1
    have HCV : Hid (∀ w', Below w12.heap.size w12 w' → w'.cell? ⟨b2, s, none⟩ = some (.string v)) := Lib.hid (fun w' hb => by
      have h5 := (HBL2.out.cell s)
      have h6 : (cur2.toList.take n)[s]? = (us.map Value.string)[s]? := by rw [HCU2.out]
      rw [List.getElem?_take, if_pos hsn, Array.getElem?_toList, List.getElem?_map, hv] at h6
      exact kept_cell hb (h5.trans h6))
    have HBV2 : Hid (∀ w', Below w12.heap.size w12 w' → Blk w' b2 9 cur2) := Lib.hid (fun w' hb => HBL2.out.chg (Chg.of_below hb []) (by simp))
    have HGX : Hid (∀ w', Below w12.heap.size w12 w' → w'.cell? ⟨bn, 0, none⟩ = some (.int .i64 kind) ∧ w'.cell? ⟨bn, 1, none⟩ = some (.int .i64 (s : Int)) ∧ w'.cell? ⟨bn, 2, none⟩ = some (.int .i64 byt) ∧ w'.cell? ⟨bn, 3, none⟩ = some (.string tex) ∧ w'.cell? ⟨bn, 4, none⟩ = some (.bool od) ∧ w'.cell? ⟨bn, 5, none⟩ = some (.int .i64 af)) := Lib.hid (fun w' hb => ⟨kept_cell hb g0, kept_cell hb g1, kept_cell hb g2, kept_cell hb g3, kept_cell hb g4, kept_cell hb g5⟩)
    have y0 := HCV.out w12 (Below.refl _ _)
    have y1 := (HBV2.out w12 (Below.refl _ _)).frozen s
    have hyl := lt_of_cell y0
    clear hvs hul hv hvz h1 h2 h3 h4 h4' htx q3 hus
    try clear HAl
    try clear HAm
    try clear HSIZE
    try clear HB1
    try clear HVl
    try clear HVm
    try clear HO
    try clear HDO
    try clear HO5
    try clear HO6
    try clear HG2
    try clear HWA
    try clear HBN
    try clear HOA
    try clear HBA
    try clear HOW
    try clear HBL
    try clear HO9
    try clear HO10
    try clear HPN
    try clear HPS
    try clear HOF4
    try clear HPART
    try clear HP1
    try clear HBL1
    try clear HCU1
    try clear HCZ1
    try clear HLO1
    try clear HHI1
    try clear HCC1
    try clear HVZ
    try clear HXW
    try clear HYB
    try clear HON2
    try clear HN2
    try clear HQ2
    try clear HS1
    try clear HS2
    try clear HS2W
    try clear hfitl
    try clear hfitm
    try clear hll
    try clear hlm
    go_wp2_with fail
    go_region_with (go_at_call 24; refine (HTX.out _).mono ?_; rintro e wt ⟨rfl, hbt⟩; have hb12 : Below w12.heap.size w12 wt := below_trans (Below.drew (Below.refl _ _)) hbt; have y2 := HCV.out wt hb12; have y3 := (HBV2.out wt hb12).frozen s; obtain ⟨z0, z1, z2, z3, z4, z5⟩ := HGX.out wt hb12)
    all_goals
      have HBV := Lib.hid (HBV2.out wt hb12)
      have HOS := Lib.hid ((HO12.out.below hb12).store (fun p hp => by
        rcases List.mem_cons.1 hp with rfl | hp
        · exact HNE.out
        · rcases List.mem_singleton.1 hp with rfl
          exact HNE2.out) s (.string (tx.extract 0 byt0 ++ v.extract byt0 v.size)))
      have hst := strs_set (cur := cur2) HBV.out HCU2.out HUL.out hsn HZ2.out (tx.extract 0 byt0 ++ v.extract byt0 v.size)
      have hsm := same_at n b1 b2 cc1 cc2 S4.views (us.set s (tx.extract 0 byt0 ++ v.extract byt0 v.size)) _ (HOS.out.strs HST1.out (by simp)) hst (by rw [views_length, HN4.out]) (by rw [List.length_set, HUL.out]) (by omega)
      rw [HVS.out, decide_eq_true rfl] at hsm
      have HSM := Lib.hid hsm
      clear hsm hst hb12 hbt g0 g1 g2 g3 g4 g5 y0 y1 y2 y3 z0 z1 z2 z3 z4 z5
      go_wp2_with fail
      refine HSM.out.mono ?_
      rintro e w13 ⟨rfl, hb13⟩
      have HB13 := Lib.hid (HOS.out.base.trans (hb13.mono HOS.out.base.size))
      clear hb13
      go_wp2
      go_ret
      exact ⟨rfl, HB13.out⟩

end Go.Proofs.Ytomcjohdenjljaa
