/- Contracts of the reference's disk: zero, set, settle, Start, Arm. -/
import Derived.Test.YtdbmimmfpglahaaRDisk
namespace Go.Proofs.Ytdbmimmfpglahaa
open Go.RowKit

def zeros (k : Nat) : ByteArray := rp ⟨#[0]⟩ k
theorem zeros_size (k : Nat) : (zeros k).size = k := by rw [zeros, rp_size]; exact Nat.mul_one k
theorem zeros_eq (k : Nat) : zeros k = ⟨(List.replicate k (0 : UInt8)).toArray⟩ := by
  induction k with
  | zero => rfl
  | succ k ih =>
    have e : zeros (k + 1) = zeros k ++ ⟨#[0]⟩ := rfl
    rw [e, ih, List.replicate_succ', ba_app]

theorem zero_any (w : World) : Calls Try.prog 21 #[.int .i64 64] w fun e w' => e = .returned (.string (zeros 64)) ∧ w = w' := by
  go_enter Try.func21, Try.ntmps21
  go_wp2_with fail
  go_loop [3, 4] (fun u3 u4 => ∃ k : Nat, k ≤ 64 ∧ u4 = .int .i64 k ∧ u3 = .string (zeros k)) (fun _ u4 => 64 - (intOf u4).toNat)
  case atStart => exact ⟨0, by omega, rfl, rfl⟩
  case round =>
    obtain ⟨k, hk, rfl, rfl⟩ := hrel
    have hz := zeros_size k
    by_cases hlt : k < 64
    · go_wp2
      go_round
      case rel => exact ⟨k + 1, by omega, by go_num, rfl⟩
      case measure => simp [intOf]; omega
    · obtain rfl : k = 64 := by omega
      go_wp2
      go_ret
      exact ⟨rfl, rfl⟩

theorem rset_any (d sb n c s : Nat) (st : List UInt8) (t : ByteArray) (w : World) (h : w.cell? ⟨d, 0, none⟩ = some (.slice (some ⟨sb, 0, none⟩) n c)) (hb : RSt w sb n st) (hs : s < n) (hn : n ≤ 4000) :
    Calls Try.prog 37 #[ptr d, .int .i64 s, .string t] w fun e w' => e = .returned (.tuple #[]) ∧ Chg [sb] w w' ∧ ∀ st', sects n st' = (sects n st).set s (.string t) → RSt w' sb n st' := by
  have HB := Lib.hid hb
  have c1 := hb.cell s hs
  have f1 := hb.frozen s
  have hl := lt_of_cell c1
  have hl0 := lt_of_cell h
  clear hb
  unfold ptr
  go_enter Try.func37, Try.ntmps37
  go_wp2
  go_end0
  exact ⟨rfl, (Chg.refl [sb] w).setCell (p := ⟨sb, s, none⟩) (.inl (by simp)) _, fun st' e => HB.out.set hs e⟩

theorem RQs.take {w : World} {A : Option Addr} {l : List (Nat × ByteArray)} (h : RQs w A l) (k : Nat) : RQs w A (l.take k) := by
  refine ⟨rq_length _, fun hn => ?_⟩
  have hl : 0 < l.length := by simp at hn; omega
  obtain ⟨b, off, e, hc⟩ := h.2 hl
  refine ⟨b, off, e, fun j u hu => hc j u ?_⟩
  have h1 : rq l = rq (l.take k) ++ rq (l.drop k) := by rw [← rq_append, List.take_append_drop]
  rw [h1, List.getElem?_append_left (List.getElem?_eq_some_iff.1 hu).1]
  exact hu

theorem Chg.drewIf {F : List Nat} {a w : World} (h : Chg F a w) : Chg F a w.drew := h.drew

set_option maxHeartbeats 4000000 in
theorem rsettle_any (d n sb c : Nat) (st : List UInt8) (A : Option Addr) (c2 : Nat) (q : List (Nat × ByteArray)) (m : Nat) (w : World) (h : w.cell? ⟨d, 0, none⟩ = some (.slice (some ⟨sb, 0, none⟩) n c)) (h1 : w.cell? ⟨d, 1, none⟩ = some (.slice A q.length c2)) (hb : RSt w sb n st)
    (hst : st.length = n * 64) (h40 : n ≤ 4000) (hq : inQ n q) (hA : RQs w A q) (hne : ∀ a, A = some a → a.block ∉ [sb]) (hd : d ∉ [sb]) (hl : q.length ≤ 1000000) (hm : m ≤ q.length) :
    Calls Try.prog 36 #[ptr d, .int .i64 m] w fun e w' =>
      e = .returned (.tuple #[]) ∧ Chg [sb] w w' ∧ RSt w' sb n (settle st (q.take m)) := by
  have H := Lib.hid h
  have H1 := Lib.hid h1
  have HB := Lib.hid hb
  have HQ := Lib.hid hA
  have HI := Lib.hid hq
  clear h h1 hb hA hq
  unfold ptr
  go_enter Try.func36, Try.ntmps36
  go_wp2_with fail
  go_loopw [4] (fun u4 wr => ∃ k : Nat, k ≤ m ∧ u4 = .int .i64 k ∧ Chg [sb] w wr ∧ RSt wr sb n (settle st (q.take k))) (fun u4 _ => m - (intOf u4).toNat)
  case atStart => exact ⟨0, Nat.zero_le _, rfl, Chg.refl _ _, HB.out⟩
  case round =>
    obtain ⟨k, hk, rfl, hc, hbk⟩ := hrel
    have HC := Lib.hid hc; clear hc
    have HBK := Lib.hid hbk; clear hbk
    by_cases hlt : k < m
    · obtain ⟨p, hp⟩ := get_some q k (by omega)
      obtain ⟨b, off, rfl, e1, e2⟩ := (HQ.out.chg HC.out hne).at_ hp
      obtain ⟨hp1, hp2⟩ := HI.out p (List.mem_of_getElem? hp)
      have HP := Lib.hid hp; clear hp
      have e1l := lt_of_cell e1
      have d0 := HC.out.cell hd H.out
      have d1 := HC.out.cell hd H1.out
      have dl := lt_of_cell d0
      have hst1 : (settle st (q.take k)).length = n * 64 := settle_len n _ st hst (fun p hp => HI.out p (List.mem_of_mem_take hp))
      have HSET := Lib.hid (rset_any d sb n c p.1 (settle st (q.take k)) p.2 wr.drew d0 HBK.out.drew hp1 h40)
      have hput := sects_put n (settle st (q.take k)) p hst1 ⟨hp1, hp2⟩
      have HPUT := Lib.hid hput
      clear hput hst1
      unfold ptr at HSET
      go_wp2_with fail
      refine wp_region_still_tail 17 (by kernel_rfl) (by kernel_rfl) ?_
      simp only [List.take_succ_cons, List.take_zero, List.drop_succ_cons, List.drop_zero]
      change wpStill _ _ (World.drew _) _ _ _
      have hkq : k < q.length := by omega
      repeat still_step
      refine wpStill_nil ?_
      change wpList _ _ _ _ _ (World.drew _)
      go_wp2_with fail
      refine HSET.out.mono ?_
      rintro e w' ⟨rfl, hc', hb'⟩
      have HC' := Lib.hid hc'; clear hc'
      have HB' := Lib.hid hb'; clear hb'
      go_wp2
      go_roundw
      case rel => exact ⟨k + 1, by omega, by go_num, HC.out.drew.trans HC'.out (fun j hj => .inl hj), by rw [take_snoc q k p HP.out, settle_snoc]; exact HB'.out _ HPUT.out⟩
      case measure => simp [intOf]; omega
    · have hkq : k = m := by omega
      subst hkq
      go_wp2
      go_end0
      exact ⟨rfl, HC.out, HBK.out⟩

/-! ### cells of the head -/
section
variable {w w' : World} {d sb c : Nat} {S : DS} {qv : Value} {x y z : Int}
theorem RDkAt.c0 (h : RDkAt w d S sb c qv x y z) : w.cell? ⟨d, 0, none⟩ = some (.slice (some ⟨sb, 0, none⟩) S.n c) := h.head.cell 0
theorem RDkAt.c1 (h : RDkAt w d S sb c qv x y z) : w.cell? ⟨d, 1, none⟩ = some qv := h.head.cell 1
theorem RDkAt.c2 (h : RDkAt w d S sb c qv x y z) : w.cell? ⟨d, 2, none⟩ = some (.bool (!S.off)) := h.head.cell 2
theorem RDkAt.c3 (h : RDkAt w d S sb c qv x y z) : w.cell? ⟨d, 3, none⟩ = some (.bool S.arm.isSome) := h.head.cell 3
theorem RDkAt.c4 (h : RDkAt w d S sb c qv x y z) : w.cell? ⟨d, 4, none⟩ = some (.int .i64 x) := h.head.cell 4
theorem RDkAt.c5 (h : RDkAt w d S sb c qv x y z) : w.cell? ⟨d, 5, none⟩ = some (.int .i64 y) := h.head.cell 5
theorem RDkAt.c6 (h : RDkAt w d S sb c qv x y z) : w.cell? ⟨d, 6, none⟩ = some (.int .i64 z) := h.head.cell 6
theorem RDkAt.own_d (h : RDkAt w d S sb c qv x y z) (hc : Chg [d] w w') : RSt w' sb S.n S.st ∧ w'.ownsRow 0 61 2 qv S.q.length (rq S.q) := by
  obtain ⟨a1, a2, a3⟩ := h.apart
  refine ⟨h.stab.chg hc (by simpa using fun e => a1 e.symm), own_chg h.queue hc (fun k hk hm => ?_)⟩
  rw [List.mem_singleton] at hm
  subst hm
  exact a2 hk
end

set_option maxHeartbeats 1600000 in
theorem rstart_any (d : Nat) (S : DS) (F : List Nat) (w : World) (h : RDk w d S F) :
    Calls Try.prog 26 #[ptr d] w fun e w' => e = .returned (.tuple #[]) ∧ RDkTo w w' d F S.start := by
  obtain ⟨sb, c, qv, x, y, z, hk, rfl⟩ := h
  have HK := Lib.hid hk
  have h2 := hk.c2
  have h3 := hk.c3
  have f2 := hk.head.frozen 2
  have f3 := hk.head.frozen 3
  clear hk
  unfold ptr
  go_enter Try.func26, Try.ntmps26
  go_wp2
  go_end0
  have hd : d ∈ rfoot d sb qv := by simp [rfoot]
  have hc := (((Chg.refl (rfoot d sb qv) w).setCell (p := ⟨d, 2, none⟩) (.inl hd) (.bool true)).setCell (p := ⟨d, 3, none⟩) (.inl hd) (.bool false))
  have hc0 := (((Chg.refl [d] w).setCell (p := ⟨d, 2, none⟩) (.inl (by simp)) (.bool true)).setCell (p := ⟨d, 3, none⟩) (.inl (by simp)) (.bool false))
  obtain ⟨g1, g2⟩ := HK.out.own_d hc0
  refine ⟨rfl, RDkTo.same (c := c) (x' := x) (y' := y) (z' := z) ⟨?_, g1, g2, by simp [DS.start], ⟨HK.out.good.n1, HK.out.good.n4000, HK.out.good.len, HK.out.good.inq, HK.out.good.few, by simp [DS.start]⟩⟩ hc⟩
  have := (HK.out.head.set 2 (.bool true)).set 3 (.bool false)
  simpa [DS.start] using this

set_option maxHeartbeats 1600000 in
theorem rarm_any (d : Nat) (S : DS) (F : List Nat) (a b e0 : Int) (w : World) (h : RDk w d S F) (ha : a ≤ 9223372036854775807) :
    Calls Try.prog 27 #[ptr d, .int .i64 a, .int .i64 b, .int .i64 e0] w fun e w' => e = .returned (.tuple #[]) ∧ RDkTo w w' d F (S.setArm a b e0) := by
  have HD := Lib.hid h
  obtain ⟨sb, c, qv, x, y, z, hk, rfl⟩ := h
  have HK := Lib.hid hk
  have h2 := hk.c2
  have h3 := hk.c3
  have h4 := hk.c4
  have h5 := hk.c5
  have h6 := hk.c6
  have f3 := hk.head.frozen 3
  have f4 := hk.head.frozen 4
  have f5 := hk.head.frozen 5
  have f6 := hk.head.frozen 6
  clear hk
  unfold ptr
  cases hoff : S.off with
  | true =>
    rw [hoff] at h2
    simp only [Bool.not_true] at h2
    have he : S.setArm a b e0 = S := by simp [DS.setArm, hoff]
    rw [he]
    go_enter Try.func27, Try.ntmps27
    go_wp2
    refine bodyPost_ret (results_none rfl _ _ _) rfl ?_
    exact ⟨rfl, RDkTo.of_chg HD.out (Below.refl _ _)⟩
  | false =>
    rw [hoff] at h2
    simp only [Bool.not_false] at h2
    have hd : d ∈ rfoot d sb qv := by simp [rfoot]
    by_cases h0 : 0 ≤ a
    · have he : S.setArm a b e0 = { S with arm := some (a, b, e0) } := by simp [DS.setArm, hoff, h0]
      rw [he]
      go_enter Try.func27, Try.ntmps27
      go_wp2
      go_end0
      have hc := ((((Chg.refl (rfoot d sb qv) w).setCell (p := ⟨d, 3, none⟩) (.inl hd) (.bool true)).setCell (p := ⟨d, 4, none⟩) (.inl hd) (.int .i64 a)).setCell (p := ⟨d, 5, none⟩) (.inl hd) (.int .i64 b)).setCell (p := ⟨d, 6, none⟩) (.inl hd) (.int .i64 e0)
      have hc0 := ((((Chg.refl [d] w).setCell (p := ⟨d, 3, none⟩) (.inl (by simp)) (.bool true)).setCell (p := ⟨d, 4, none⟩) (.inl (by simp)) (.int .i64 a)).setCell (p := ⟨d, 5, none⟩) (.inl (by simp)) (.int .i64 b)).setCell (p := ⟨d, 6, none⟩) (.inl (by simp)) (.int .i64 e0)
      obtain ⟨g1, g2⟩ := HK.out.own_d hc0
      have g3 := (((HK.out.head.set 3 (.bool true)).set 4 (.int .i64 a)).set 5 (.int .i64 b)).set 6 (.int .i64 e0)
      simp [hoff] at g3
      refine ⟨rfl, RDkTo.same (c := c) (x' := a) (y' := b) (z' := e0) ⟨?_, g1, g2, fun u hu => ?_, ⟨HK.out.good.n1, HK.out.good.n4000, HK.out.good.len, HK.out.good.inq, HK.out.good.few, fun u hu => ?_⟩⟩ hc⟩
      · simpa [hoff] using g3
      · exact (Option.some.inj hu).symm
      · obtain rfl : (a, b, e0) = u := Option.some.inj hu
        exact ⟨h0, ha⟩
    · have he : S.setArm a b e0 = { S with arm := none } := by simp [DS.setArm, hoff, h0]
      rw [he]
      go_enter Try.func27, Try.ntmps27
      go_wp2
      go_end0
      have hc := ((((Chg.refl (rfoot d sb qv) w).setCell (p := ⟨d, 3, none⟩) (.inl hd) (.bool false)).setCell (p := ⟨d, 4, none⟩) (.inl hd) (.int .i64 a)).setCell (p := ⟨d, 5, none⟩) (.inl hd) (.int .i64 b)).setCell (p := ⟨d, 6, none⟩) (.inl hd) (.int .i64 e0)
      have hc0 := ((((Chg.refl [d] w).setCell (p := ⟨d, 3, none⟩) (.inl (by simp)) (.bool false)).setCell (p := ⟨d, 4, none⟩) (.inl (by simp)) (.int .i64 a)).setCell (p := ⟨d, 5, none⟩) (.inl (by simp)) (.int .i64 b)).setCell (p := ⟨d, 6, none⟩) (.inl (by simp)) (.int .i64 e0)
      obtain ⟨g1, g2⟩ := HK.out.own_d hc0
      have g3 := (((HK.out.head.set 3 (.bool false)).set 4 (.int .i64 a)).set 5 (.int .i64 b)).set 6 (.int .i64 e0)
      simp [hoff] at g3
      refine ⟨rfl, RDkTo.same (c := c) (x' := a) (y' := b) (z' := e0) ⟨?_, g1, g2, fun u hu => ?_, ⟨HK.out.good.n1, HK.out.good.n4000, HK.out.good.len, HK.out.good.inq, HK.out.good.few, fun u hu => ?_⟩⟩ hc⟩
      · simpa [hoff] using g3
      · cases hu
      · cases hu

end Go.Proofs.Ytdbmimmfpglahaa
