/- The law DiskRaw: the walk. -/
import Derived.Test.YtomcjohdenjljaaLBase55
namespace Go.Proofs.Ytomcjohdenjljaa
open Go.RowKit

set_option maxHeartbeats 8000000 in
theorem raw_walk (r : UInt8) (A : Option Addr) (c : Nat) (l : List AC) (kind sec byt : Int) (tex : ByteArray) (od : Bool) (af : Int) (w : World) (hA : Acs w A l) (hl : l.length ≤ 9223372036854775807) (hfit : fits l) :
    Calls Try.prog 10 #[.int .u8 r.toNat, .slice A l.length c, .agg #[.int .i64 kind, .int .i64 sec, .int .i64 byt, .string tex, .bool od, .int .i64 af]] w fun e w' => e = .returned (.bool true) ∧ Below w.heap.size w w' := by
  obtain ⟨W, hW⟩ : ∃ W, w.alloc (.cells #[.int .i64 kind, .int .i64 sec, .int .i64 byt, .string tex, .bool od, .int .i64 af] 34) = W := ⟨_, rfl⟩
  have hWs : W.heap.size = w.heap.size + 1 := by rw [← hW]; simp
  have hbW : Below w.heap.size w W := by rw [← hW]; exact below_alloc (Below.refl _ _) _
  have HX : Hid (∀ w', Below W.heap.size W w' → w'.cell? ⟨w.heap.size, 0, none⟩ = some (.int .i64 kind) ∧ w'.cell? ⟨w.heap.size, 1, none⟩ = some (.int .i64 sec) ∧ w'.cell? ⟨w.heap.size, 2, none⟩ = some (.int .i64 byt) ∧ w'.cell? ⟨w.heap.size, 3, none⟩ = some (.string tex) ∧ w'.cell? ⟨w.heap.size, 4, none⟩ = some (.bool od) ∧ w'.cell? ⟨w.heap.size, 5, none⟩ = some (.int .i64 af)) := by
    intro w' hb
    refine ⟨?_, ?_, ?_, ?_, ?_, ?_⟩ <;> exact kept_cell hb (by rw [← hW]; simp)
  have HA : Hid (∀ w', Below W.heap.size W w' → Acs w' A l) := fun w' hb => hA.below (below_trans hbW hb)
  have HBW := Lib.hid hbW
  clear hA hbW
  obtain ⟨n, hn⟩ : ∃ n, nOf r = n := ⟨_, rfl⟩
  have hn1 := nOf_lo r
  have hn2 := nOf_hi r
  have hsize := size_nOf r
  rw [hn] at hn1 hn2 hsize
  have HSIZE := Lib.hid hsize
  have HN := Lib.hid hn
  clear hn hsize
  obtain ⟨rv, hrv⟩ : ∃ rv, r.toNat = rv := ⟨_, rfl⟩
  rw [hrv] at HSIZE ⊢
  clear hrv
  obtain ⟨v1, hv1⟩ : ∃ v, okB l = v := ⟨_, rfl⟩
  obtain ⟨v2, hv2⟩ : ∃ v, okB [⟨kind, sec, byt, tex, od, af⟩] = v := ⟨_, rfl⟩
  have HV1 := Lib.hid hv1
  have HV2 := Lib.hid hv2
  clear hv1 hv2
  go_enter Try.func10, Try.ntmps10
  go_wp2_with fail
  refine (head_any _).mono ?_
  rintro e w1 ⟨rfl, hb1⟩
  obtain ⟨x0, x1, x2, x3, x4, x5⟩ := HX.out w1 hb1
  have hxl := lt_of_cell x0
  have HB1 := Lib.hid hb1
  clear hb1
  go_wp2_with fail
  have hok := ok_any A c l w1 (HA.out w1 HB1.out) hl
  rw [HV1.out] at hok
  refine hok.mono ?_
  rintro e _ ⟨rfl, rfl⟩
  clear hok
  cases v1 with
  | false =>
    go_wp2
    go_ret
    exact ⟨rfl, below_trans HBW.out HB1.out⟩
  | true =>
    go_wp2_with fail
    have hok2 := ok_any (some ⟨w1.heap.size, 0, none⟩) 1 [⟨kind, sec, byt, tex, od, af⟩] (w1.alloc (.cells #[.int .i64 kind, .int .i64 sec, .int .i64 byt, .string tex, .bool od, .int .i64 af] 34)) (Acs.one ⟨kind, sec, byt, tex, od, af⟩ (by simp) (by simp) (by simp) (by simp) (by simp) (by simp)) (by simp)
    rw [HV2.out] at hok2
    have hb2 : Below W.heap.size W (w1.alloc (.cells #[.int .i64 kind, .int .i64 sec, .int .i64 byt, .string tex, .bool od, .int .i64 af] 34)) := below_alloc HB1.out _
    refine hok2.mono ?_
    rintro e _ ⟨rfl, rfl⟩
    clear hok2
    obtain ⟨w2, hw2⟩ : ∃ w2, w1.alloc (.cells #[.int .i64 kind, .int .i64 sec, .int .i64 byt, .string tex, .bool od, .int .i64 af] 34) = w2 := ⟨_, rfl⟩
    rw [hw2] at hb2 ⊢
    have HB2 := Lib.hid hb2
    clear hb2 hw2
    clear x0 x1 x2 x3 x4 x5 hxl
    cases v2 with
    | false =>
      go_wp2
      go_ret
      exact ⟨rfl, below_trans HBW.out HB2.out⟩
    | true =>
      go_wp2_with fail
      refine (HSIZE.out _).mono ?_
      rintro e _ ⟨rfl, rfl⟩
      go_wp2_with fail
      refine (new_own W n hn1 (by omega) w2 HB2.out).mono ?_
      rintro e w3 ⟨d, rfl, ho⟩
      have HO := Lib.hid ho
      clear ho
      have HDO := Lib.hid (fun k a wr (hk : l[k]? = some a) (ho : Own W wr d (acts (DS.new n) (l.take k)) []) => do_step HV1.out hfit n k a hk ho.acc)
      go_wp2_with fail
      go_loopw [10] (fun u10 wr => ∃ k : Nat, k ≤ l.length ∧ u10 = .int .i64 k ∧ Own W wr d (acts (DS.new n) (l.take k)) []) (fun u10 _ => l.length - (intOf u10).toNat)
      case atStart => exact ⟨0, Nat.zero_le _, rfl, HO.out⟩
      case round =>
        obtain ⟨k, hk, rfl, ho⟩ := hrel
        have HOW := Lib.hid ho
        clear ho
        by_cases hlt : k < l.length
        · obtain ⟨a, ha⟩ := get_some l k hlt
          obtain ⟨b, off, rfl, c0, c1, c2, c3, c4, c5⟩ := (HA.out _ HOW.out.base).at_ ha
          have HAK := Lib.hid ha
          clear ha
          go_wp2_with fail
          refine (HDO.out k a wr HAK.out HOW.out).mono ?_
          rintro e w4 ⟨⟨s4, c4, rfl⟩, ho4⟩
          have HO4 := Lib.hid ho4
          clear ho4
          go_wp2
          go_roundw
          case rel => exact ⟨k + 1, by omega, by go_num, HO4.out⟩
          case measure => simp [intOf]; omega
        · obtain rfl : k = l.length := by omega
          go_wp2_with fail
          refine (start_own HOW.out.acc).mono ?_
          rintro e w5 ⟨rfl, ho5⟩
          have hS1 : ∃ S1, (acts (DS.new n) (l.take l.length)).start = S1 ∧ S1.on ∧ S1.n = n ∧ S1.q.length ≤ 60 := ⟨_, rfl, start_on _, acts_n _ _, acts_few n l.length l (okB_len HV1.out)⟩
          obtain ⟨S1, e1, hon1, hn1', hq1⟩ := hS1
          rw [e1] at ho5
          clear e1
          obtain ⟨rw1, hrw1⟩ : ∃ x, S1.raw = x := ⟨_, rfl⟩
          have hsz : rw1.size = n * 64 := by rw [← hrw1, raw_size _ ho5.good, hn1']
          have HO5 := Lib.hid ho5
          have HON1 := Lib.hid hon1
          have HN1 := Lib.hid hn1'
          have HQ1 := Lib.hid hq1
          have HRW1 := Lib.hid hrw1
          clear ho5 hon1 hn1' hq1 hrw1 HOW
          go_wp2_with fail
          refine (raw_own HO5.out.acc).mono ?_
          rw [HRW1.out]
          rintro e _ ⟨rfl, rfl⟩
          obtain ⟨x0, x1, x2, x3, x4, x5⟩ := HX.out _ HO5.out.base
          have hxl := lt_of_cell x0
          have HD : Hid (∀ w', Below w5.drew.heap.size w5.drew w' → Own W w' d S1 []) := fun w' hb => HO5.out.below (below_trans (Below.drew (Below.refl _ _)) hb)
          have HXB := Lib.hid (fun w' (hb : Below w5.drew.heap.size w5.drew w') => HX.out w' (HO5.out.base.drew.trans (hb.mono HO5.out.base.size)))
          obtain ⟨tx, htx⟩ : ∃ tx, AC.txt ⟨kind, sec, byt, tex, od, af⟩ = tx := ⟨_, rfl⟩
          have HTX : Hid (∀ w, Calls Try.prog 24 #[.agg #[.int .i64 kind, .int .i64 sec, .int .i64 byt, .string tex, .bool od, .int .i64 af]] w fun e w' => e = .returned (.string tx) ∧ Below w.heap.size w w') := by
            intro w
            rw [← htx]
            exact act_text HV2.out 0 ⟨kind, sec, byt, tex, od, af⟩ rfl w
          obtain ⟨cv2, S2, hcs⟩ : ∃ cv S2, S1.write sec tx = (cv, S2) := ⟨_, _, rfl⟩
          have HWR : Hid (∀ w', Own W w' d S1 [] → Calls Try.prog 23 #[.pointer (some ⟨d, 0, none⟩), .int .i64 sec, .string tx] w' fun e w'' => e = .returned (.int .i64 cv2) ∧ Own W w'' d S2 []) := by
            intro w' hw
            have := write_own sec tx hw.acc (by have := HQ1.out; omega)
            rw [hcs] at this
            exact this
          clear htx
          go_wp2_with fail
          go_region_held3 (fun w' => w'.cell? ⟨w.heap.size, 0, none⟩ = some (.int .i64 kind) ∧ w'.cell? ⟨w.heap.size, 1, none⟩ = some (.int .i64 sec) ∧ w'.cell? ⟨w.heap.size, 2, none⟩ = some (.int .i64 byt) ∧ w'.cell? ⟨w.heap.size, 3, none⟩ = some (.string tex) ∧ w'.cell? ⟨w.heap.size, 4, none⟩ = some (.bool od) ∧ w'.cell? ⟨w.heap.size, 5, none⟩ = some (.int .i64 af))
            (first
              | go_keep
              | (go_split_ands
                 exact HXB.out _ hbt)
              | (go_split_ands
                 exact HX.out _ hto.base))
            (first
              | (go_at_call 24; refine (HTX.out _).mono ?_; rintro e w5 ⟨rfl, hbt⟩)
              | (go_at_call 23; refine (HWR.out _ (HD.out _ hbt)).mono ?_; rintro e w6 ⟨rfl, hto⟩))
          all_goals
            obtain ⟨hraw2, hon2, hn2'⟩ := (by have := write_raw S1 HON1.out sec tx; rw [hcs] at this; exact this : S2.raw = S1.raw ∧ S2.on ∧ S2.n = S1.n)
            have HRAW2 : Hid (S2.raw = rw1) := Lib.hid (hraw2.trans HRW1.out)
            have HON2 := Lib.hid hon2
            have HN2 : Hid (S2.n = n) := Lib.hid (hn2'.trans HN1.out)
            have HO6 := Lib.hid hto
            have HCS := Lib.hid hcs
            clear hraw2 hon2 hn2' hto hcs
            go_wp2_with fail
            refine (read_own sec HO6.out.acc).mono ?_
            rintro e w7 ⟨rfl, ho7⟩
            have HO7 := Lib.hid ho7
            clear ho7
            have HSZ := Lib.hid hsz
            clear hsz
            have t1 : (rw1.toList == rw1.toList) = true := by simp
            have t2 : ((rw1.size : Int) == (n : Int) * 64) = true := by have := HSZ.out; simp; omega
            have t3 : ((rw1.size : Int) != (n : Int) * 64) = false := by have := HSZ.out; simp; omega
            go_wp2_with fail
            refine (raw_own HO7.out.acc).mono ?_
            rw [HRAW2.out]
            rintro e _ ⟨rfl, rfl⟩
            clear x0 x1 x2 x3 x4 x5
            have x4 := (HX.out _ HO7.out.base).2.2.2.2.1
            cases od with
            | true =>
              have HF : Hid ((S2.fail 0 0).raw = rw1) := Lib.hid ((fail_raw S2 HON2.out).trans HRAW2.out)
              have HG : Hid ((S2.fail 0 0).start.raw = rw1) := Lib.hid ((fail_raw S2 HON2.out).trans HRAW2.out)
              go_wp2_with fail
              refine (fail_own 0 0 HO7.out.acc).mono ?_
              rintro e w8 ⟨rfl, ho8⟩
              have HO8 := Lib.hid ho8
              clear ho8
              go_wp2_with fail
              refine (raw_own HO8.out.acc).mono ?_
              rw [HF.out]
              rintro e _ ⟨rfl, rfl⟩
              go_wp2_with fail
              refine (start_own HO8.out.acc).mono ?_
              rintro e w9 ⟨rfl, ho9⟩
              have HO9 := Lib.hid ho9
              clear ho9
              go_wp2_with fail
              refine (raw_own HO9.out.acc).mono ?_
              rw [HG.out]
              rintro e _ ⟨rfl, rfl⟩
              go_wp2
              go_ret
              exact ⟨rfl, below_trans HBW.out HO9.out.base⟩
            | false =>
              have hsy := sync_raw S2 HO7.out.good HON2.out
              obtain ⟨S3, hS3⟩ : ∃ S3, S2.sync.2 = S3 := ⟨_, rfl⟩
              rw [hS3] at hsy
              obtain ⟨hcat, hon3, hn3, hs1⟩ := hsy
              have HS3 := Lib.hid hS3
              have HCAT := Lib.hid hcat
              have HON3 := Lib.hid hon3
              have HN3 := Lib.hid (hn3.trans HN2.out)
              have HS1 := Lib.hid hs1
              clear hS3 hcat hon3 hn3 hs1
              go_wp2_with fail
              refine (sync_own HO7.out.acc).mono ?_
              rw [HS3.out, HS1.out]
              rintro e w8 ⟨rfl, ho8⟩
              have HO8 := Lib.hid ho8
              clear ho8
              go_wp2_with fail
              refine (contents_acc n HO8.out.acc HON3.out.1 HN3.out.symm).mono ?_
              rintro e w9 ⟨b, cc, cur, rfl, hst, -, -, -, -, -, -, hb9⟩
              obtain ⟨vs, hvs⟩ : ∃ vs, S3.views = vs := ⟨_, rfl⟩
              have hvl : vs.length = n := by rw [← hvs, views_length, HN3.out]
              have hvz : ∀ v ∈ vs, v.size = 64 := by
                rw [← hvs]; intro v hv; exact views_size S3 HO8.out.good v hv
              rw [hvs] at hst HCAT
              have HST := Lib.hid hst
              have HVL := Lib.hid hvl
              have HVZ := Lib.hid hvz
              have HO9 := Lib.hid (HO8.out.below hb9)
              clear hst hvl hvz hvs hb9
              go_wp2_with fail
              go_loopw [15, 16] (fun u15 u16 wr => ∃ k : Nat, k ≤ n ∧ u16 = .int .i64 k ∧ u15 = .string (cat (vs.take k)) ∧ wr = w9) (fun _ u16 _ => n - (intOf u16).toNat)
              case atStart => exact ⟨0, Nat.zero_le _, rfl, rfl, rfl⟩
              case round =>
                obtain ⟨k, hk, rfl, rfl, rfl⟩ := hrel
                by_cases hlt : k < n
                · obtain ⟨v, hv⟩ := get_some vs k (by rw [HVL.out]; exact hlt)
                  obtain ⟨b', off', hbo, hc1⟩ := HST.out.at_ hv
                  obtain ⟨rfl, rfl⟩ : b = b' ∧ 0 = off' := by simpa using hbo
                  rw [Nat.zero_add] at hc1
                  have HV := Lib.hid hv
                  have HSN := Lib.hid (cat_snoc vs k v hv)
                  have hcz := cat_size vs 64 HVZ.out k
                  have hvz := Nat.le_of_eq (HVZ.out v (List.mem_of_getElem? hv))
                  clear hv hbo
                  go_wp2_with fail
                  go_roundw
                  case rel => exact ⟨k + 1, by omega, by go_num, by rw [HSN.out], trivial⟩
                  case measure => simp [intOf]; omega
                · obtain rfl : k = n := by omega
                  have HK : Hid (cat (vs.take k) = S3.raw) := Lib.hid (by rw [List.take_of_length_le (by rw [HVL.out]; exact Nat.le_refl _)]; exact HCAT.out)
                  rw [HK.out]
                  have t4 : (S3.raw.toList == S3.raw.toList) = true := by simp
                  go_wp2_with fail
                  refine (raw_own HO9.out.acc).mono ?_
                  rintro e _ ⟨rfl, rfl⟩
                  go_wp2
                  go_ret
                  exact ⟨rfl, below_trans HBW.out HO9.out.base⟩

end Go.Proofs.Ytomcjohdenjljaa
