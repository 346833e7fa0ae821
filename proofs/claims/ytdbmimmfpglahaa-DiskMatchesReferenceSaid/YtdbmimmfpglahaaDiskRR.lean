/- Contracts of the disk's Rot and Read. -/
import Derived.Test.YtdbmimmfpglahaaDiskRW
namespace Go.Proofs.Ytdbmimmfpglahaa
open Go.RowKit

theorem find_last (q : List (Nat × ByteArray)) (s k : Nat) (p : Nat × ByteArray) (h : ∀ j, k < j → ∀ p, q[j]? = some p → p.1 ≠ s) (hk : q[k]? = some p) (hp : p.1 = s) : q.reverse.find? (fun p => p.1 == s) = some p := by
  have hkl := (List.getElem?_eq_some_iff.1 hk).1
  have e : q = q.take k ++ p :: q.drop (k + 1) := by
    obtain ⟨_, e1⟩ := List.getElem?_eq_some_iff.1 hk
    rw [← e1, ← List.drop_eq_getElem_cons hkl, List.take_append_drop]
  rw [e, List.reverse_append, List.reverse_cons, List.append_assoc, List.find?_append]
  have h1 : (q.drop (k + 1)).reverse.find? (fun p => p.1 == s) = none := by
    rw [List.find?_eq_none]
    intro x hx
    rw [List.mem_reverse] at hx
    obtain ⟨j, hj, rfl⟩ := List.getElem_of_mem hx
    have := h (k + 1 + j) (by omega) (q.drop (k + 1))[j] (by rw [List.getElem_drop, List.getElem?_eq_getElem (by simp at hj; omega)])
    simpa using this
  rw [h1]
  simp [hp]

theorem find_none (q : List (Nat × ByteArray)) (s : Nat) (h : ∀ (j : Nat) (p : Nat × ByteArray), q[j]? = some p → p.1 ≠ s) : q.reverse.find? (fun p => p.1 == s) = none := by
  rw [List.find?_eq_none]
  intro x hx
  rw [List.mem_reverse] at hx
  obtain ⟨j, hj, rfl⟩ := List.getElem_of_mem hx
  have := h j _ (by rw [List.getElem?_eq_getElem hj])
  simpa using this

theorem spot_agg (off : Bool) (n : Nat) (s : Int) : ∃ x y, atV off n s = .agg #[.int .i64 x, .int .i64 y] := by
  unfold atV spotV
  split
  · exact ⟨_, _, rfl⟩
  · split <;> exact ⟨_, _, rfl⟩

theorem read_nil (s : Int) (w : World) : Calls Try.prog 11 #[.pointer none, .int .i64 s] w fun e w' => e = .returned (.tuple #[.string ByteArray.empty, .int .i64 1]) ∧ Below w.heap.size w w' := by
  go_enter Try.func11, Try.ntmps11
  go_wp2_with fail
  refine (at_nil s _).mono ?_
  rintro e w' ⟨rfl, hb⟩
  go_wp2
  go_ret2
  exact ⟨rfl, below_alloc hb _⟩

set_option maxHeartbeats 4000000 in
theorem read_any (d : Nat) (S : DS) (F : List Nat) (s : Int) (w : World) (h : Dk w d S F) :
    Calls Try.prog 11 #[ptr d, .int .i64 s] w fun e w' => e = .returned (.tuple #[.string (S.read s).1, .int .i64 (S.read s).2]) ∧ Below w.heap.size w w' := by
  obtain ⟨sb, qv, ap, hk, -⟩ := h
  have HAT := Lib.hid (at_any d S.n (some ⟨sb, 0, none⟩) (S.n * 64) S.off s w hk.len hk.off_ hk.good.n4000)
  have hea : S.errAt s = errAt S.off S.n s := by simp [DS.errAt, errAt, inB]
  by_cases he : errAt S.off S.n s = 0
  · have hoff : S.off = false := by
      cases hS : S.off
      · rfl
      · rw [hS] at he; simp [errAt] at he
    have hin : inB S.n s = true := by
      rw [hoff] at he
      cases hS : inB S.n s
      · rw [errAt, hS] at he; simp at he
      · rfl
    have hs0 : 0 ≤ s ∧ s < S.n := by simpa [inB] using hin
    obtain ⟨k, rfl⟩ : ∃ k : Nat, s = k := ⟨s.toNat, by omega⟩
    obtain ⟨r, hr⟩ : ∃ r, S.read (k : Int) = r := ⟨_, rfl⟩
    have hr2 : S.read (k : Int) = ((match S.q.reverse.find? (fun p => p.1 == k) with | some p => p.2 | none => S.sector k), 0) := by
      simp only [DS.read, hea, he]
      simp only [ne_eq, not_true_eq_false, if_false, Int.toNat_natCast]
      cases S.q.reverse.find? (fun p => p.1 == k) <;> rfl
    rw [hr2] at hr
    rw [hr2]
    obtain ⟨txt, htxt⟩ : ∃ txt, (match S.q.reverse.find? (fun p => p.1 == k) with | some p => p.2 | none => S.sector k) = txt := ⟨_, rfl⟩
    rw [htxt]
    have HTXT := Lib.hid htxt
    rw [he, atV, hoff, if_neg (by simp), spotV, if_pos hin] at HAT
    have g40 := hk.good.n4000
    have glen := hk.good.len
    have gfew := hk.good.few
    obtain ⟨A, c, rfl, hcc1, hcc2, hrd⟩ := Rd.of_own hk.queue
    have HQ : Hid (Qs w A S.q) := hrd
    have HK := Lib.hid hk
    clear hr hr2 htxt he hea hk hrd r
    unfold ptr at HAT ⊢
    go_enter Try.func11, Try.ntmps11
    go_wp2_with fail
    refine HAT.out.mono ?_
    rintro e w1 ⟨rfl, hb1⟩
    have HC1 := Lib.hid (Chg.of_below hb1 [])
    have HK1 := Lib.hid (HK.out.chg HC1.out (by simp))
    have HQ1 := Lib.hid (HQ.out.chg HC1.out (by simp))
    have c1 := HK1.out.queue_
    have hl1 := HK1.out.head.lt
    have HB1 := Lib.hid hb1
    clear hb1
    obtain ⟨lo, hlo⟩ : ∃ lo : Nat, k * 64 = lo := ⟨_, rfl⟩
    obtain ⟨hi, hhi⟩ : ∃ hi : Nat, (k + 1) * 64 = hi := ⟨_, rfl⟩
    rw [show (k : Int) * 64 = (lo : Nat) by omega, show ((k : Int) + 1) * 64 = (hi : Nat) by omega]
    have HLO := Lib.hid hlo
    have HHI := Lib.hid hhi
    clear hlo hhi
    obtain ⟨W, hW⟩ : ∃ W : World, w1.alloc (.cells #[.int .i64 (lo : Nat), .int .i64 (hi : Nat)] 55) = W := ⟨_, rfl⟩
    have HK2 : Hid (DkAt W d S sb (.slice A S.q.length c) ap) := by
      rw [← hW]
      exact HK1.out.chg ((Chg.refl [] w1).alloc _) (by simp)
    have HQ2 : Hid (Qs W A S.q) := by
      rw [← hW]
      exact HQ1.out.chg ((Chg.refl [] w1).alloc _) (by simp)
    have HBW : Hid (Below w.heap.size w W) := by
      rw [← hW]
      exact below_alloc HB1.out _
    have cW0 := HK2.out.len
    have cW1 := HK2.out.queue_
    have p0 : W.cell? ⟨w1.heap.size, 0, none⟩ = some (.int .i64 (lo : Nat)) := by rw [← hW]; simp
    have p1 : W.cell? ⟨w1.heap.size, 1, none⟩ = some (.int .i64 (hi : Nat)) := by rw [← hW]; simp
    obtain ⟨M, hM⟩ : ∃ M, S.n * 64 = M := ⟨_, rfl⟩
    have HM := Lib.hid hM
    rw [hM] at cW0
    clear hM
    have hlh : (lo : Int) ≤ hi := by have := HLO.out; have := HHI.out; omega
    go_wp2_with fail
    go_loopw [8] (fun u8 wr => ∃ (i m : Nat), i ≤ S.q.length ∧ u8 = .int .i64 ((i : Int) - 1) ∧ wr = W.drewN m ∧ ∀ j, i ≤ j → ∀ p, S.q[j]? = some p → p.1 ≠ k) (fun u8 _ => (intOf u8 + 1).toNat)
    case atStart => exact ⟨S.q.length, 0, Nat.le_refl _, rfl, rfl, fun j hj p hp => by have := (List.getElem?_eq_some_iff.1 hp).1; omega⟩
    case round =>
      obtain ⟨i, m, hil, rfl, rfl, hnone⟩ := hrel
      have HN := Lib.hid hnone
      clear hnone
      cases i with
      | zero =>
        have hst : S.sector k = txt := by
          have := HTXT.out
          rw [find_none S.q k (fun j p hp => HN.out j (by omega) p hp)] at this
          exact this
        have hcv := conv_win (W.drewN (m + 1)) sb S.st ((HK2.out.stab).drewN (m + 1)) lo 64 (M - lo) (by have := HLO.out; omega)
        have e1 : (S.st.drop lo).take 64 = (S.st.drop (k * 64)).take 64 := by rw [HLO.out]
        have e2 : (⟨((S.st.drop lo).take 64).toArray⟩ : ByteArray) = txt := by rw [e1]; exact hst
        rw [e2] at hcv
        clear e1 e2 hst
        have h1 : lo ≤ hi := by have := HLO.out; have := HHI.out; omega
        have h2 : hi ≤ M := by have := HM.out; have := HHI.out; omega
        have h3 : hi - lo = 64 := by have := HLO.out; have := HHI.out; omega
        have h4 : (M = lo) = False := by have := HM.out; have := HLO.out; simp; omega
        go_wp2_with fail
        refine wp_region_still_tail 9 (by kernel_rfl) (by kernel_rfl) ?_
        simp only [List.take_succ_cons, List.take_zero, List.drop_succ_cons, List.drop_zero]
        change wpStill _ _ (World.drew _) _ _ _
        repeat still_step
        refine wpStill_nil ?_
        change wpList _ _ _ _ _ (World.drew _)
        go_wp2
        go_ret2
        exact ⟨rfl, below_drewN HBW.out _⟩
      | succ i =>
        obtain ⟨p, hp⟩ := get_some S.q i (by omega)
        obtain ⟨b, off, rfl, q1, q2, q3⟩ := HQ2.out.at_ hp
        have HP := Lib.hid hp
        clear hp
        rw [show ((i + 1 : Nat) : Int) - 1 = i by omega]
        by_cases hpk : p.1 = k
        · have hb : ((p.1 : Int) * 64 == (lo : Int)) = true := by have := HLO.out; simp; omega
          have ht : p.2 = txt := by
            have := HTXT.out
            rw [find_last S.q k i p (fun j hj p hp => HN.out j (by omega) p hp) HP.out hpk] at this
            exact this
          rw [ht] at q3
          clear ht hpk
          go_wp2
          go_quiet (fail)
          go_wp2
          go_ret2
          exact ⟨rfl, below_drewN HBW.out _⟩
        · have hb : ((p.1 : Int) * 64 == (lo : Int)) = false := by have := HLO.out; simp only [beq_eq_false_iff_ne, ne_eq]; omega
          have HPK := Lib.hid hpk
          clear hpk
          go_wp2
          go_quiet (fail)
          go_wp2
          go_roundw
          case rel =>
            refine ⟨i, _, by omega, by go_num, rfl, fun j hj p' hp' => ?_⟩
            by_cases hji : j = i
            · subst hji
              rw [HP.out] at hp'
              obtain rfl := Option.some.inj hp'
              exact HPK.out
            · exact HN.out j (by omega) p' hp'
          case measure => simp [intOf]
  · have hw : S.read s = (ByteArray.empty, errAt S.off S.n s) := by simp [DS.read, hea, he]
    rw [hw]
    obtain ⟨er, her⟩ : ∃ er, errAt S.off S.n s = er := ⟨_, rfl⟩
    rw [her] at HAT he ⊢
    unfold ptr at HAT ⊢
    obtain ⟨x, y, hsv⟩ := spot_agg S.off S.n s
    rw [hsv] at HAT
    clear hsv hw hea her hk
    go_enter Try.func11, Try.ntmps11
    go_wp2_with fail
    refine HAT.out.mono ?_
    rintro e w1 ⟨rfl, hb1⟩
    have HB1 := Lib.hid hb1
    clear hb1
    go_wp2
    go_ret2
    exact ⟨rfl, below_alloc HB1.out _⟩

theorem bits_xor_u8 (a b : Nat) (ha : a < 256) (hb : b < 256) : bits .xor .u8 (a : Int) (b : Int) = ((a ^^^ b : Nat) : Int) := by
  have hx : a ^^^ b < 2 ^ 8 := Nat.xor_lt_two_pow (by omega) (by omega)
  have h1 : (BitVec.ofInt 8 (a : Int)).toNat = a := by
    rw [BitVec.ofInt_natCast, BitVec.toNat_ofNat]; exact Nat.mod_eq_of_lt (by omega)
  have h2 : (BitVec.ofInt 8 (b : Int)).toNat = b := by
    rw [BitVec.ofInt_natCast, BitVec.toNat_ofNat]; exact Nat.mod_eq_of_lt (by omega)
  show IntKind.u8.wrap ((BitVec.ofInt 8 (a : Int) ^^^ BitVec.ofInt 8 (b : Int)).toNat : Int) = _
  rw [BitVec.toNat_xor, h1, h2, IntKind.wrap_u8]
  omega

theorem u8s_modify (st : List UInt8) (k : Nat) (b : UInt8) (x : UInt8) (h : st[k]? = some b) : (u8s st).toArray.setIfInBounds k (.int .u8 ((b ^^^ x).toNat)) = (u8s (st.modify k (fun b => b ^^^ x))).toArray := by
  apply Array.ext_getElem?
  intro j
  have hk := (List.getElem?_eq_some_iff.1 h).1
  by_cases hj : j = k
  · subst hj
    rw [Array.getElem?_setIfInBounds_self_of_lt (by simpa [u8s] using hk)]
    simp [u8s, h]
  · rw [Array.getElem?_setIfInBounds_ne (by omega)]
    simp [u8s, List.getElem?_modify, Ne.symm hj]

set_option maxRecDepth 100000 in
set_option maxHeartbeats 4000000 in
theorem rot_any (d : Nat) (S : DS) (F : List Nat) (s a m : Int) (w : World) (h : Dk w d S F) :
    Calls Try.prog 19 #[ptr d, .int .i64 s, .int .i64 a, .int .i64 m] w fun e w' => e = .returned (.tuple #[]) ∧ DkTo w w' d F (S.rot s a m) := by
  have HD := Lib.hid h
  obtain ⟨sb, qv, ap, hk, rfl⟩ := h
  have HAT := Lib.hid (place_any d S.n (some ⟨sb, 0, none⟩) (S.n * 64) s w hk.len hk.good.n4000)
  by_cases hc : 0 ≤ s ∧ s < S.n ∧ 0 ≤ a ∧ a < 64 ∧ 0 < m ∧ m < 256
  · have hw : S.rot s a m = { S with st := S.st.modify (s.toNat * 64 + a.toNat) (fun b => b ^^^ UInt8.ofNat m.toNat) } := by simp [DS.rot, hc]
    rw [hw]
    obtain ⟨c1, c2, c3, c4, c5, c6⟩ := hc
    obtain ⟨k, rfl⟩ : ∃ k : Nat, s = k := ⟨s.toNat, by omega⟩
    obtain ⟨i, rfl⟩ : ∃ i : Nat, a = i := ⟨a.toNat, by omega⟩
    obtain ⟨x, rfl⟩ : ∃ x : Nat, m = x := ⟨m.toNat, by omega⟩
    have hin : inB S.n (k : Int) = true := by simp [inB]; omega
    rw [spotV, if_pos hin, hin] at HAT
    obtain ⟨lo, hlo⟩ : ∃ lo : Nat, k * 64 = lo := ⟨_, rfl⟩
    obtain ⟨hi, hhi⟩ : ∃ hi : Nat, (k + 1) * 64 = hi := ⟨_, rfl⟩
    rw [show (k : Int) * 64 = (lo : Nat) by omega, show ((k : Int) + 1) * 64 = (hi : Nat) by omega] at HAT
    have hlen := hk.good.len
    obtain ⟨b, hb⟩ := get_some S.st (lo + i) (by rw [hlen]; omega)
    have g40 := hk.good.n4000
    obtain ⟨M, hM⟩ : ∃ M, S.n * 64 = M := ⟨_, rfl⟩
    obtain ⟨j, hj⟩ : ∃ j, lo + i = j := ⟨_, rfl⟩
    have hlM : j < M := by omega
    have hlM' : (j : Int) < (M : Nat) := by omega
    have hjI : (lo : Int) + (i : Int) = (j : Int) := by omega
    have HWR : Hid (IntKind.i64.wrap (j : Int) = (j : Int)) := by
      exact IntWalk.i64_in _ (by omega)
    have HK := Lib.hid hk
    rw [hj] at hb
    have HB := Lib.hid hb
    have HLO := Lib.hid hlo
    have HM := Lib.hid hM
    simp only [Int.toNat_natCast]
    rw [hlo, hj]
    have HJ := Lib.hid hj
    clear hw hk hb hlo hhi hM c1 c2 hlen hin hj
    unfold ptr at HAT ⊢
    go_enter Try.func19, Try.ntmps19
    go_wp2_with fail
    refine HAT.out.mono ?_
    rintro e w1 ⟨rfl, hb1⟩
    have HC1 := Lib.hid (Chg.of_below hb1 [])
    have HK1 := Lib.hid (HK.out.chg HC1.out (by simp))
    have HB1 := Lib.hid hb1
    clear hb1
    obtain ⟨W, hW⟩ : ∃ W : World, w1.alloc (.cells #[.int .i64 (lo : Nat), .int .i64 (hi : Nat)] 55) = W := ⟨_, rfl⟩
    have HK2 : Hid (DkAt W d S sb qv ap) := by
      rw [← hW]
      exact HK1.out.chg ((Chg.refl [] w1).alloc _) (by simp)
    have HBW : Hid (Below w.heap.size w W) := by
      rw [← hW]
      exact below_alloc HB1.out _
    have cW0 := HK2.out.len
    rw [HM.out] at cW0
    have p0 : W.cell? ⟨w1.heap.size, 0, none⟩ = some (.int .i64 (lo : Nat)) := by rw [← hW]; simp
    have q0 : W.cell? ⟨sb, j, none⟩ = some (.int .u8 b.toNat) := by
      rw [HK2.out.stab.cell]
      simp only [u8s, List.getElem?_toArray, List.getElem?_map, HB.out]
      rfl
    have qf : W.frozen? ⟨sb, j, none⟩ = false := HK2.out.stab.frozen _
    go_wp2_with fail
    have hwr := HWR.out
    refine wp_region_still_tail 14 (by kernel_rfl) (by kernel_rfl) ?_
    simp only [List.take_succ_cons, List.take_zero, List.drop_succ_cons, List.drop_zero]
    change wpStill _ _ (World.drew _) _ _ _
    repeat still_step
    refine wpStill_nil ?_
    change wpList _ _ _ _ _ (World.drew _)
    have hbx : bits .xor .u8 (b.toNat : Int) (x : Int) = ((b ^^^ UInt8.ofNat x).toNat : Int) := by
      rw [bits_xor_u8 _ _ (by have := b.toNat_lt; omega) (by omega), UInt8.toNat_xor, UInt8.toNat_ofNat']
      congr 2
      omega
    have HBX := Lib.hid hbx
    clear hbx
    go_wp2
    go_end0
    rw [HBX.out]
    obtain ⟨a1, a2, a3, a4, a5, a6⟩ := HK2.out.apart
    have hsb : sb ∈ foot d sb qv ap := by simp [foot]
    have hc2 : Chg [sb] W (W.setCell ⟨sb, j, none⟩ (.int .u8 ((b ^^^ UInt8.ofNat x).toNat))).drew := ((Chg.refl [sb] W).setCell (p := ⟨sb, j, none⟩) (.inl (by simp)) _).drew
    have hcc : Chg (foot d sb qv ap) w (W.setCell ⟨sb, j, none⟩ (.int .u8 ((b ^^^ UInt8.ofNat x).toNat))).drew := (Chg.of_below HBW.out _).trans hc2 (fun k hk => by rw [List.mem_singleton] at hk; left; rw [hk]; exact hsb)
    have hst : Blk (W.setCell ⟨sb, j, none⟩ (.int .u8 ((b ^^^ UInt8.ofNat x).toNat))).drew sb 5 (u8s (S.st.modify j (fun b => b ^^^ UInt8.ofNat x))).toArray := by
      have := (HK2.out.stab.set j (.int .u8 ((b ^^^ UInt8.ofNat x).toNat))).drew
      rw [u8s_modify _ _ _ _ HB.out] at this
      exact this
    refine ⟨rfl, _, ⟨sb, qv, ap, ⟨HK2.out.head.chg hc2 (by simpa using a1), hst, own_chg HK2.out.queue hc2 (fun k hk => by rintro hm; rw [List.mem_singleton] at hm; subst hm; exact a3 hk), ?_, ⟨HK2.out.good.n1, HK2.out.good.n4000, by simpa using HK2.out.good.len, HK2.out.good.inq, HK2.out.good.few, HK2.out.good.arm0⟩⟩, rfl⟩, fun k hk => .inl hk, hcc⟩
    have ha := HK2.out.armed
    cases hS : S.arm with
    | none => simp only [hS] at ha ⊢; exact ha
    | some a =>
      simp only [hS] at ha ⊢
      obtain ⟨ab, rfl, hb⟩ := ha
      simp only [ptrBlock, ne_eq, Option.some.injEq] at a5
      exact ⟨ab, rfl, hb.chg hc2 (by simpa using a5)⟩
  · have hw : S.rot s a m = S := by simp only [DS.rot, hc, if_false]
    rw [hw]
    have hcases : (inB S.n s = false) ∨ (inB S.n s = true ∧ (a < 0 ∨ 64 ≤ a ∨ m ≤ 0 ∨ 256 ≤ m)) := by
      by_cases hin : inB S.n s = true
      · right
        have := hin
        simp [inB] at this
        refine ⟨hin, ?_⟩
        omega
      · left; simpa using hin
    obtain ⟨b, hb⟩ : ∃ b, inB S.n s = b := ⟨_, rfl⟩
    rw [hb] at HAT hcases
    obtain ⟨x, y, hsv⟩ := spot_agg false S.n s
    rw [atV, if_neg (by simp)] at hsv
    rw [hsv] at HAT
    clear hsv hw hk hc hb
    unfold ptr at HAT ⊢
    have hfin : ∀ w1, Below w.heap.size w w1 → DkTo w w1 d (foot d sb qv ap) S := fun w1 hb => DkTo.of_chg HD.out hb
    have HFIN := Lib.hid hfin
    clear hfin
    rcases hcases with rfl | ⟨rfl, h0⟩
    · go_enter Try.func19, Try.ntmps19
      go_wp2_with fail
      refine HAT.out.mono ?_
      rintro e w1 ⟨rfl, hb1⟩
      have HB1 := Lib.hid hb1
      clear hb1
      go_wp2
      go_end0
      exact ⟨rfl, HFIN.out _ (below_alloc HB1.out _)⟩
    · rcases h0 with h0 | h0 | h0 | h0
      all_goals
        go_enter Try.func19, Try.ntmps19
        go_wp2_with fail
        refine HAT.out.mono ?_
        rintro e w1 ⟨rfl, hb1⟩
        have HB1 := Lib.hid hb1
        clear hb1
        go_wp2
        all_goals (go_end0; exact ⟨rfl, HFIN.out _ (below_alloc HB1.out _)⟩)

end Go.Proofs.Ytdbmimmfpglahaa
